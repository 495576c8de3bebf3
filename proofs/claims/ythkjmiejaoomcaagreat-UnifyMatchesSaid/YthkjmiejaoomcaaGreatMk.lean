/- Part of the proof of a law of layer 5: own texts, joined. -/
import Derived.Test.YthkjmiejaoomcaaGreatMj
import Derived.Test.YthkjmiejaoomcaaGreatMg
import Derived.Test.YthkjmiejaoomcaaGreatMb
import Derived.Test.YthkjmiejaoomcaaGreatMi
set_option linter.unusedVariables false
set_option linter.unusedSimpArgs false
set_option linter.unnecessarySimpa false
namespace Go.Proofs.YthkjmiejaoomcaaGreat.Am
open Go Go.RowKit Go.Proofs
set_option linter.unusedVariables false
set_option linter.unusedSimpArgs false
set_option maxRecDepth 100000
set_option maxHeartbeats 1000000
attribute [local go_sem] cSeq cDr cOne cStays nthCO panK aKind gWanted panC cPanic cOp needsName cStep aop aEval argEnv List.getD_cons_zero List.getD_cons_succ AV.known AV.cells if_true if_false cond_true cond_false aPut true_and and_true ofConst ofLeaf true_imp false_imp true_imp' false_imp' btt btf
  aFieldAt aAssert aLoad aPick aBin aInt aShift aStr unSl aLen aBuiltin Option.map_some Option.map_none upd_same eupd_at Nat.reduceBEq List.drop_zero List.drop_succ_cons List.drop_nil List.take_succ_cons List.take_zero List.head?_cons List.length_cons List.length_nil Nat.reduceAdd Nat.reduceLeDiff Nat.reduceEqDiff List.map_cons List.map_nil Nat.zero_add Nat.add_zero reduceCtorEq Bool.false_eq_true
  aResL aRes1 true_implies false_implies implies_true forall_const and_self Bool.not_true Bool.not_false Bool.cond_self upd_if aExtract aNil aIface aMax aMin aNot List.getElem?_cons_zero List.getElem?_cons_succ aIndexAt aStore aSplice AV.flat List.all_cons List.all_nil Bool.and_true Bool.true_and Bool.and_false Bool.false_and Int.natCast_nonneg Int.ofNat_lt Int.toNat_natCast cCall Nat.le_add_left List.append_nil List.contains_cons List.contains_nil Bool.or_true Bool.or_false Bool.true_or Bool.false_or Nat.reduceBEq List.cons_append List.nil_append
  sz_1 by_1 ag_1 tk_1 ze_1 sz_3 by_3 ag_3 tk_3 ze_3 sz_4 by_4 ag_4 tk_4 ze_4 sz_9 by_9 ag_9 tk_9 ze_9
  sz_20 by_20 ag_20 tk_20 ze_20 sz_22 by_22 ag_22 tk_22 el_22 ze_22 sz_24 by_24 ag_24 tk_24 ze_24 fi_24_0 pl_24 sz_25 by_25
  ag_25 tk_25 el_25 ze_25 sz_27 by_27 ag_27 tk_27 ze_27 fi_27_0 fi_27_1 fi_27_2 fi_27_3 pl_27 sz_30 by_30 ag_30 tk_30 ze_30 sz_34
  by_34 ag_34 tk_34 ze_34 fi_34_0 fi_34_1 fi_34_2 fi_34_3 pl_34 sz_40 by_40 ag_40 tk_40 el_40 ze_40 sz_42 by_42 ag_42 tk_42 ze_42
  fi_42_0 fi_42_1 fi_42_2 pl_42 sz_52 by_52 ag_52 tk_52 ze_52 fi_52_0 fi_52_1 fi_52_2 fi_52_3 pl_52 sz_60 by_60 ag_60 tk_60 ze_60 fi_60_0
  fi_60_1 pl_60 sz_62 by_62 ag_62 tk_62 ze_62 fi_62_0 fi_62_1 fi_62_2 fi_62_3 pl_62 sz_68 by_68 ag_68 tk_68 ze_68 fi_68_0 fi_68_1 pl_68
  sz_70 by_70 ag_70 tk_70 el_70 ze_70 sz_77 by_77 ag_77 tk_77 el_77 ze_77 sz_80 by_80 ag_80 tk_80 ze_80 sz_83 by_83 ag_83
  tk_83 ze_83 fi_83_0 fi_83_1 pl_83 sz_95 by_95 ag_95 tk_95 ze_95 sz_97 by_97 ag_97 tk_97 ze_97 sz_99 by_99 ag_99 tk_99 mp_99
  ze_99 sz_101 by_101 ag_101 tk_101 ze_101 fi_101_0 fi_101_1 fi_101_2 pl_101 sz_104 by_104 ag_104 tk_104 ze_104 sz_106 by_106 ag_106 tk_106 ze_106
  fi_106_0 fi_106_1 fi_106_2 pl_106 sz_108 by_108 ag_108 tk_108 ze_108 sz_109 by_109 ag_109 tk_109 ze_109 sz_110 by_110 ag_110 tk_110 el_110 ze_110
  sz_112 by_112 ag_112 tk_112 ze_112 fi_112_0 fi_112_1 fi_112_2 fi_112_3 pl_112 sz_115 by_115 ag_115 tk_115 ze_115 fi_115_0 fi_115_1 pl_115 sz_121 by_121
  ag_121 tk_121 ze_121 sz_125 by_125 ag_125 tk_125 ze_125 sz_126 by_126 ag_126 tk_126 mp_126 ze_126 sz_128 by_128 ag_128 tk_128 ze_128 fi_128_0
  fi_128_1 fi_128_2 fi_128_3 pl_128 sz_136 by_136 ag_136 tk_136 el_136 ze_136 sz_140 by_140 ag_140 tk_140 mp_140 ze_140 sz_142 by_142 ag_142 tk_142
  ze_142 fi_142_0 fi_142_1 pl_142 sz_144 by_144 ag_144 tk_144 ze_144 sz_145 by_145 ag_145 tk_145 el_145 ze_145 sz_147 by_147 ag_147 tk_147 ze_147
  fi_147_0 fi_147_1 fi_147_2 fi_147_3 pl_147 sz_150 by_150 ag_150 tk_150 ze_150 pl_150 sz_152 by_152 ag_152 tk_152 ze_152 fi_152_0 pl_152 sz_156 by_156
  ag_156 tk_156 ze_156 sz_158 by_158 ag_158 tk_158 ze_158 fi_158_0 fi_158_1 fi_158_2 pl_158 sz_160 by_160 ag_160 tk_160 mp_160 ze_160 sz_162 by_162
  ag_162 tk_162 ze_162 sz_164 by_164 ag_164 tk_164 ze_164 fi_164_0 fi_164_1 fi_164_2 pl_164 sz_167 by_167 ag_167 tk_167 ze_167 fi_167_0 fi_167_1 pl_167
  sz_173 by_173 ag_173 tk_173 el_173 ze_173 sz_189 by_189 ag_189 tk_189 ze_189 sz_198 by_198 ag_198 tk_198 ze_198
  cStays_nil bne decide_true decide_false Nat.mul_one upd_twice beq_self_eq_true Int.reduceBEq Int.reduceLT Int.reduceLE
/- fit; few; fitting. -/


def refFitErr (t : Term) : Int := if refSizedF t == 0 then (if fits0F t 0 then 0 else 6) else refSizedF t
theorem refSized_small (t : Term) (h : (refSizedF t == 0) = true) : t.size ≤ 4000 := by
  refine parts_small t fun hp => ?_
  unfold refSizedF at h
  rw [if_pos hp] at h
  exact absurd h (by decide)
theorem refFit_am (z : Nat) (tk : Tok) (t : Term) (h : AHeap) (Q : AOut → AHeap → Prop) (hq : Q (.ret (.int .i64 (refFitErr t))) h) : AmCalls Tryz.prog 62 [.agg [.list z [] 0 tk], enc t] h Q := by
  refine AmCalls.of_sem (fn := Tryz.f62) Tryz.func62 rfl (by kernel_rfl) (by rw [Tryz.ntmps62]; simp) (enters_of Tryz.func62 (by kernel_rfl) (by kernel_rfl)) ?_
  try dsimp only
  repeat first | ((first | (with_reducible first | refine sS ?_ | refine sA ?_ | refine sC ?_) | (with_reducible refine iT ?_; refine sT rfl ?_) | (with_reducible refine i0 ?_; refine s0 rfl ?_) | (with_reducible refine iO ?_; refine sO rfl ?_)); intro bC bR bU hC hR hU; simp only [go_sem, ↓reduceIte]; subst hC hR hU) | (with_reducible refine rN ?_; subst hbq) | (with_reducible refine iR ?_; refine rG (by simp only [compL, gtOf, nthDst]; exact rfl) ?_) | (with_reducible refine rB fun cq hcq => ?_; subst hcq) | (with_reducible refine x1 ?_; clear hbq bq) | (with_reducible refine r1 ?_; clear hbq bq) | (with_reducible refine x5 ?_ ?_; focus rfl) | (with_reducible refine iL ?_; refine rL (by rw [Tryz.results62]) (HLess.refl _) ?_; simp only [go_sem, ↓reduceIte, aPack, Option.some.injEq, exists_eq_left']) | with_reducible first | refine nS ?_ | refine nD ?_ | refine rS fun bq hbq => ?_ | refine rK ?_ | refine rE ?_ | refine rXx ?_ | refine rR ?_ | refine x2 ?_ | refine x3 ?_ | refine x4 ?_ | refine r2 ?_ | refine r3 ?_ | refine r4 ?_
  intro a ha
  try dsimp only
  repeat first | ((first | (with_reducible first | refine sS ?_ | refine sA ?_ | refine sC ?_) | (with_reducible refine iT ?_; refine sT rfl ?_) | (with_reducible refine i0 ?_; refine s0 rfl ?_) | (with_reducible refine iO ?_; refine sO rfl ?_)); intro bC bR bU hC hR hU; simp only [go_sem, ↓reduceIte]; subst hC hR hU) | (with_reducible refine rN ?_; subst hbq) | (with_reducible refine iR ?_; refine rG (by simp only [compL, gtOf, nthDst]; exact rfl) ?_) | (with_reducible refine rB fun cq hcq => ?_; subst hcq) | (with_reducible refine x1 ?_; clear hbq bq) | (with_reducible refine r1 ?_; clear hbq bq) | (with_reducible refine x5 ?_ ?_; focus rfl) | (with_reducible refine iL ?_; refine rL (by rw [Tryz.results62]) (HLess.refl _) ?_; simp only [go_sem, ↓reduceIte, aPack, Option.some.injEq, exists_eq_left']) | with_reducible first | refine nS ?_ | refine nD ?_ | refine rS fun bq hbq => ?_ | refine rK ?_ | refine rE ?_ | refine rXx ?_ | refine rR ?_ | refine x2 ?_ | refine x3 ?_ | refine x4 ?_ | refine r2 ?_ | refine r3 ?_ | refine r4 ?_
  intro b hb
  have e := fresh_if hb
  have fin : HLess (upd (upd h a (some (.cells [.list z [] 0 tk] 24))) b (some (.cells (cellsT t) 27))) h := (HLess.refl h).new ha |>.new e.2
  try dsimp only
  repeat first | ((first | (with_reducible first | refine sS ?_ | refine sA ?_ | refine sC ?_) | (with_reducible refine iT ?_; refine sT rfl ?_) | (with_reducible refine i0 ?_; refine s0 rfl ?_) | (with_reducible refine iO ?_; refine sO rfl ?_)); intro bC bR bU hC hR hU; simp only [go_sem, ↓reduceIte, e.1, e.1.symm]; subst hC hR hU) | (with_reducible refine rN ?_; subst hbq) | (with_reducible refine iR ?_; refine rG (by simp only [compL, gtOf, nthDst]; exact rfl) ?_) | (with_reducible refine rB fun cq hcq => ?_; subst hcq) | (with_reducible refine x1 ?_; clear hbq bq) | (with_reducible refine r1 ?_; clear hbq bq) | (with_reducible refine x5 ?_ ?_; focus rfl) | (with_reducible refine iL ?_; refine rL (by rw [Tryz.results62]) fin ?_; simp only [go_sem, ↓reduceIte, aPack, Option.some.injEq, exists_eq_left', e.1, e.1.symm]) | with_reducible first | refine nS ?_ | refine nD ?_ | refine rS fun bq hbq => ?_ | refine rK ?_ | refine rE ?_ | refine rXx ?_ | refine rR ?_ | refine x2 ?_ | refine x3 ?_ | refine x4 ?_ | refine r2 ?_ | refine r3 ?_ | refine r4 ?_
  refine refSized_am t _ _ ?_
  cases hs : (refSizedF t == 0)
  · try dsimp only
    repeat first | ((first | (with_reducible first | refine sS ?_ | refine sA ?_ | refine sC ?_) | (with_reducible refine iT ?_; refine sT rfl ?_) | (with_reducible refine i0 ?_; refine s0 rfl ?_) | (with_reducible refine iO ?_; refine sO rfl ?_)); intro bC bR bU hC hR hU; simp only [go_sem, ↓reduceIte, e.1, e.1.symm, hs]; subst hC hR hU) | (with_reducible refine rN ?_; subst hbq) | (with_reducible refine iR ?_; refine rG (by simp only [compL, gtOf, nthDst]; exact rfl) ?_) | (with_reducible refine rB fun cq hcq => ?_; subst hcq) | (with_reducible refine x1 ?_; clear hbq bq) | (with_reducible refine r1 ?_; clear hbq bq) | (with_reducible refine x5 ?_ ?_; focus rfl) | (with_reducible refine iL ?_; refine rL (by rw [Tryz.results62]) fin ?_; simp only [go_sem, ↓reduceIte, aPack, Option.some.injEq, exists_eq_left', e.1, e.1.symm, hs]) | with_reducible first | refine nS ?_ | refine nD ?_ | refine rS fun bq hbq => ?_ | refine rK ?_ | refine rE ?_ | refine rXx ?_ | refine rR ?_ | refine x2 ?_ | refine x3 ?_ | refine x4 ?_ | refine r2 ?_ | refine r3 ?_ | refine r4 ?_
    exact ret_as (by simp only [refFitErr, hs]; rfl) hq
  · have hsz := refSized_small t hs
    try dsimp only
    repeat first | ((first | (with_reducible first | refine sS ?_ | refine sA ?_ | refine sC ?_) | (with_reducible refine iT ?_; refine sT rfl ?_) | (with_reducible refine i0 ?_; refine s0 rfl ?_) | (with_reducible refine iO ?_; refine sO rfl ?_)); intro bC bR bU hC hR hU; simp only [go_sem, ↓reduceIte, e.1, e.1.symm, hs]; subst hC hR hU) | (with_reducible refine rN ?_; subst hbq) | (with_reducible refine iR ?_; refine rG (by simp only [compL, gtOf, nthDst]; exact rfl) ?_) | (with_reducible refine rB fun cq hcq => ?_; subst hcq) | (with_reducible refine x1 ?_; clear hbq bq) | (with_reducible refine r1 ?_; clear hbq bq) | (with_reducible refine x5 ?_ ?_; focus rfl) | (with_reducible refine iL ?_; refine rL (by rw [Tryz.results62]) fin ?_; simp only [go_sem, ↓reduceIte, aPack, Option.some.injEq, exists_eq_left', e.1, e.1.symm, hs]) | with_reducible first | refine nS ?_ | refine nD ?_ | refine rS fun bq hbq => ?_ | refine rK ?_ | refine rE ?_ | refine rXx ?_ | refine rR ?_ | refine x2 ?_ | refine x3 ?_ | refine x4 ?_ | refine r2 ?_ | refine r3 ?_ | refine r4 ?_
    refine refFits0_am z tk t.size t 0 _ _ (Nat.le_refl _) (by decide) (by omega) ?_
    cases hf : fits0F t 0
    · try dsimp only
      repeat first | ((first | (with_reducible first | refine sS ?_ | refine sA ?_ | refine sC ?_) | (with_reducible refine iT ?_; refine sT rfl ?_) | (with_reducible refine i0 ?_; refine s0 rfl ?_) | (with_reducible refine iO ?_; refine sO rfl ?_)); intro bC bR bU hC hR hU; simp only [go_sem, ↓reduceIte, hf]; subst hC hR hU) | (with_reducible refine rN ?_; subst hbq) | (with_reducible refine iR ?_; refine rG (by simp only [compL, gtOf, nthDst]; exact rfl) ?_) | (with_reducible refine rB fun cq hcq => ?_; subst hcq) | (with_reducible refine x1 ?_; clear hbq bq) | (with_reducible refine r1 ?_; clear hbq bq) | (with_reducible refine x5 ?_ ?_; focus rfl) | (with_reducible refine iL ?_; refine rL (by rw [Tryz.results62]) fin ?_; simp only [go_sem, ↓reduceIte, aPack, Option.some.injEq, exists_eq_left', hf]) | with_reducible first | refine nS ?_ | refine nD ?_ | refine rS fun bq hbq => ?_ | refine rK ?_ | refine rE ?_ | refine rXx ?_ | refine rR ?_ | refine x2 ?_ | refine x3 ?_ | refine x4 ?_ | refine r2 ?_ | refine r3 ?_ | refine r4 ?_
      exact ret_as (by simp only [refFitErr, hs, hf]; rfl) hq
    · try dsimp only
      repeat first | ((first | (with_reducible first | refine sS ?_ | refine sA ?_ | refine sC ?_) | (with_reducible refine iT ?_; refine sT rfl ?_) | (with_reducible refine i0 ?_; refine s0 rfl ?_) | (with_reducible refine iO ?_; refine sO rfl ?_)); intro bC bR bU hC hR hU; simp only [go_sem, ↓reduceIte, hf]; subst hC hR hU) | (with_reducible refine rN ?_; subst hbq) | (with_reducible refine iR ?_; refine rG (by simp only [compL, gtOf, nthDst]; exact rfl) ?_) | (with_reducible refine rB fun cq hcq => ?_; subst hcq) | (with_reducible refine x1 ?_; clear hbq bq) | (with_reducible refine r1 ?_; clear hbq bq) | (with_reducible refine x5 ?_ ?_; focus rfl) | (with_reducible refine iL ?_; refine rL (by rw [Tryz.results62]) fin ?_; simp only [go_sem, ↓reduceIte, aPack, Option.some.injEq, exists_eq_left', hf]) | with_reducible first | refine nS ?_ | refine nD ?_ | refine rS fun bq hbq => ?_ | refine rK ?_ | refine rE ?_ | refine rXx ?_ | refine rR ?_ | refine x2 ?_ | refine x3 ?_ | refine x4 ?_ | refine r2 ?_ | refine r3 ?_ | refine r4 ?_
      exact ret_as (by simp only [refFitErr, hs, hf]; rfl) hq
def fitErr (t : Term) : Int := if sizedF t == 0 then (if fits0F t 0 then 0 else 6) else sizedF t
def fitErrs : List Term → Int
  | [] => 0
  | t :: ts => if fitErr t == 0 then fitErrs ts else fitErr t
theorem sized_small (t : Term) (h : (sizedF t == 0) = true) : t.size ≤ 4000 := by
  refine parts_small t fun hp => ?_
  unfold sizedF at h
  rw [if_pos hp] at h
  exact absurd h (by decide)
theorem fitting_am (l : List Term) (h : AHeap) (Q : AOut → AHeap → Prop) (hl : l.length ≤ 1000000000) (hq : Q (.ret (.int .i64 (fitErrs l))) h) : AmCalls Tryz.prog 57 [store0, .list 4 (encs l) l.length .none] h Q := by
  refine AmCalls.of_sem (fn := Tryz.f57) Tryz.func57 rfl (by kernel_rfl) (by rw [Tryz.ntmps57]; simp) (enters_of Tryz.func57 (by kernel_rfl) (by kernel_rfl)) ?_
  try dsimp only
  repeat first | ((first | (with_reducible first | refine sS ?_ | refine sA ?_ | refine sC ?_) | (with_reducible refine iT ?_; refine sT rfl ?_) | (with_reducible refine i0 ?_; refine s0 rfl ?_) | (with_reducible refine iO ?_; refine sO rfl ?_)); intro bC bR bU hC hR hU; simp only [go_sem, ↓reduceIte]; subst hC hR hU) | (with_reducible refine rN ?_; subst hbq) | (with_reducible refine iR ?_; refine rG (by simp only [compL, gtOf, nthDst]; exact rfl) ?_) | (with_reducible refine rB fun cq hcq => ?_; subst hcq) | (with_reducible refine x1 ?_; clear hbq bq) | (with_reducible refine r1 ?_; clear hbq bq) | (with_reducible refine x5 ?_ ?_; focus rfl) | (with_reducible refine iL ?_; refine rL (by rw [Tryz.results57]) (HLess.refl _) ?_; simp only [go_sem, ↓reduceIte, aPack, Option.some.injEq, exists_eq_left']) | with_reducible first | refine nS ?_ | refine nD ?_ | refine rS fun bq hbq => ?_ | refine rK ?_ | refine rE ?_ | refine rXx ?_ | refine rR ?_ | refine x2 ?_ | refine x3 ?_ | refine x4 ?_ | refine r2 ?_ | refine r3 ?_ | refine r4 ?_
  intro a ha
  have fin : HLess (upd h a (some (.cells [.list 0 [] 0 .nil] 24))) h := (HLess.refl h).new ha
  try dsimp only
  repeat first | ((first | (with_reducible first | refine sS ?_ | refine sA ?_ | refine sC ?_) | (with_reducible refine iT ?_; refine sT rfl ?_) | (with_reducible refine i0 ?_; refine s0 rfl ?_) | (with_reducible refine iO ?_; refine sO rfl ?_)); intro bC bR bU hC hR hU; simp only [go_sem, ↓reduceIte]; subst hC hR hU) | (with_reducible refine rN ?_; subst hbq) | (with_reducible refine iR ?_; refine rG (by simp only [compL, gtOf, nthDst]; exact rfl) ?_) | (with_reducible refine rB fun cq hcq => ?_; subst hcq) | (with_reducible refine x1 ?_; clear hbq bq) | (with_reducible refine r1 ?_; clear hbq bq) | (with_reducible refine x5 ?_ ?_; focus rfl) | (with_reducible refine iL ?_; refine rL (by rw [Tryz.results57]) fin ?_; simp only [go_sem, ↓reduceIte, aPack, Option.some.injEq, exists_eq_left']) | with_reducible first | refine nS ?_ | refine nD ?_ | refine rS fun bq hbq => ?_ | refine rK ?_ | refine rE ?_ | refine rXx ?_ | refine rR ?_ | refine x2 ?_ | refine x3 ?_ | refine x4 ?_ | refine r2 ?_ | refine r3 ?_ | refine r4 ?_
  refine check0_am _ _ ?_
  try dsimp only
  repeat first | ((first | (with_reducible first | refine sS ?_ | refine sA ?_ | refine sC ?_) | (with_reducible refine iT ?_; refine sT rfl ?_) | (with_reducible refine i0 ?_; refine s0 rfl ?_) | (with_reducible refine iO ?_; refine sO rfl ?_)); intro bC bR bU hC hR hU; simp only [go_sem, ↓reduceIte]; subst hC hR hU) | (with_reducible refine rN ?_; subst hbq) | (with_reducible refine iR ?_; refine rG (by simp only [compL, gtOf, nthDst]; exact rfl) ?_) | (with_reducible refine rB fun cq hcq => ?_; subst hcq) | (with_reducible refine x1 ?_; clear hbq bq) | (with_reducible refine r1 ?_; clear hbq bq) | (with_reducible refine x5 ?_ ?_; focus rfl) | (with_reducible refine iL ?_; refine rL (by rw [Tryz.results57]) fin ?_; simp only [go_sem, ↓reduceIte, aPack, Option.some.injEq, exists_eq_left']) | with_reducible first | refine nS ?_ | refine nD ?_ | refine rS fun bq hbq => ?_ | refine rK ?_ | refine rE ?_ | refine rXx ?_ | refine rR ?_ | refine x2 ?_ | refine x3 ?_ | refine x4 ?_ | refine r2 ?_ | refine r3 ?_ | refine r4 ?_
  refine run_loop (fun k τ h' => ∃ i : Nat, k + i = l.length ∧ τ 2 = .ptr a 0 ∧ τ 14 = .list 4 (encs l) l.length .none ∧ τ 15 = .int .i64 l.length ∧ τ 16 = .int .i64 i ∧ HLess h' h ∧ h' a = some (.cells [.list 0 [] 0 .nil] 24) ∧ fitErrs (l.drop i) = fitErrs l) l.length ?_ ?_
  · exact ⟨0, rfl, rfl, rfl, rfl, rfl, fin, upd_same _ _ _, rfl⟩
  · intro c hc k τ h' hI
    obtain ⟨i, hk, f2, f14, f15, f16, hl', ma, hix⟩ := hI
    subst hc
    by_cases hi : i < l.length
    · obtain ⟨u, hu⟩ : ∃ u, l[i]? = some u := ⟨_, List.getElem?_eq_getElem hi⟩
      obtain ⟨r, hr⟩ := encs_at l i hu
      have hdrop : l.drop i = u :: l.drop (i + 1) := by
        rw [List.drop_eq_getElem_cons hi]
        rw [List.getElem?_eq_getElem hi] at hu; injection hu with hu; rw [hu]
      rw [hdrop, fitErrs] at hix
      try dsimp only
      repeat first | ((first | (with_reducible first | refine sS ?_ | refine sA ?_ | refine sC ?_) | (with_reducible refine iT ?_; refine sT rfl ?_) | (with_reducible refine i0 ?_; refine s0 rfl ?_) | (with_reducible refine iO ?_; refine sO rfl ?_)); intro bC bR bU hC hR hU; simp only [go_sem, ↓reduceIte, f2, f14, f15, f16, hi, hr]; subst hC hR hU) | (with_reducible refine rN ?_; subst hbq) | (with_reducible refine iR ?_; refine rG (by simp only [compL, gtOf, nthDst]; exact rfl) ?_) | (with_reducible refine rB fun cq hcq => ?_; subst hcq) | (with_reducible refine x1 ?_; clear hbq bq) | (with_reducible refine r1 ?_; clear hbq bq) | (with_reducible refine x5 ?_ ?_; focus rfl) | (with_reducible refine iL ?_; refine rL (by rw [Tryz.results57]) hl' ?_; simp only [go_sem, ↓reduceIte, aPack, Option.some.injEq, exists_eq_left', f2, f14, f15, f16, hi, hr]) | with_reducible first | refine nS ?_ | refine nD ?_ | refine rS fun bq hbq => ?_ | refine rK ?_ | refine rE ?_ | refine rXx ?_ | refine rR ?_ | refine x2 ?_ | refine x3 ?_ | refine x4 ?_ | refine r2 ?_ | refine r3 ?_ | refine r4 ?_
      intro b hb
      have hba := ne_of_new hb ma
      have fin : HLess (upd h' b (some (.cells (cellsT u) 27))) h := hl'.new (hl'.none hb)
      try dsimp only
      repeat first | ((first | (with_reducible first | refine sS ?_ | refine sA ?_ | refine sC ?_) | (with_reducible refine iT ?_; refine sT rfl ?_) | (with_reducible refine i0 ?_; refine s0 rfl ?_) | (with_reducible refine iO ?_; refine sO rfl ?_)); intro bC bR bU hC hR hU; simp only [go_sem, ↓reduceIte, f2, f14, f15, f16, ma, hba]; subst hC hR hU) | (with_reducible refine rN ?_; subst hbq) | (with_reducible refine iR ?_; refine rG (by simp only [compL, gtOf, nthDst]; exact rfl) ?_) | (with_reducible refine rB fun cq hcq => ?_; subst hcq) | (with_reducible refine x1 ?_; clear hbq bq) | (with_reducible refine r1 ?_; clear hbq bq) | (with_reducible refine x5 ?_ ?_; focus rfl) | (with_reducible refine iL ?_; refine rL (by rw [Tryz.results57]) fin ?_; simp only [go_sem, ↓reduceIte, aPack, Option.some.injEq, exists_eq_left', f2, f14, f15, f16, ma, hba]) | with_reducible first | refine nS ?_ | refine nD ?_ | refine rS fun bq hbq => ?_ | refine rK ?_ | refine rE ?_ | refine rXx ?_ | refine rR ?_ | refine x2 ?_ | refine x3 ?_ | refine x4 ?_ | refine r2 ?_ | refine r3 ?_ | refine r4 ?_
      refine sized_am u _ _ ?_
      cases hs : (sizedF u == 0)
      · rw [show fitErr u = sizedF u by simp only [fitErr, hs]; rfl, hs] at hix
        try dsimp only
        repeat first | ((first | (with_reducible first | refine sS ?_ | refine sA ?_ | refine sC ?_) | (with_reducible refine iT ?_; refine sT rfl ?_) | (with_reducible refine i0 ?_; refine s0 rfl ?_) | (with_reducible refine iO ?_; refine sO rfl ?_)); intro bC bR bU hC hR hU; simp only [go_sem, ↓reduceIte, f2, f14, f15, f16, ma, hba, hs]; subst hC hR hU) | (with_reducible refine rN ?_; subst hbq) | (with_reducible refine iR ?_; refine rG (by simp only [compL, gtOf, nthDst]; exact rfl) ?_) | (with_reducible refine rB fun cq hcq => ?_; subst hcq) | (with_reducible refine x1 ?_; clear hbq bq) | (with_reducible refine r1 ?_; clear hbq bq) | (with_reducible refine x5 ?_ ?_; focus rfl) | (with_reducible refine iL ?_; refine rL (by rw [Tryz.results57]) fin ?_; simp only [go_sem, ↓reduceIte, aPack, Option.some.injEq, exists_eq_left', f2, f14, f15, f16, ma, hba, hs]) | with_reducible first | refine nS ?_ | refine nD ?_ | refine rS fun bq hbq => ?_ | refine rK ?_ | refine rE ?_ | refine rXx ?_ | refine rR ?_ | refine x2 ?_ | refine x3 ?_ | refine x4 ?_ | refine r2 ?_ | refine r3 ?_ | refine r4 ?_
        exact ret_as (by rw [← hix]; rfl) hq
      · have hsz := sized_small u hs
        try dsimp only
        repeat first | ((first | (with_reducible first | refine sS ?_ | refine sA ?_ | refine sC ?_) | (with_reducible refine iT ?_; refine sT rfl ?_) | (with_reducible refine i0 ?_; refine s0 rfl ?_) | (with_reducible refine iO ?_; refine sO rfl ?_)); intro bC bR bU hC hR hU; simp only [go_sem, ↓reduceIte, f2, f14, f15, f16, ma, hba, hs]; subst hC hR hU) | (with_reducible refine rN ?_; subst hbq) | (with_reducible refine iR ?_; refine rG (by simp only [compL, gtOf, nthDst]; exact rfl) ?_) | (with_reducible refine rB fun cq hcq => ?_; subst hcq) | (with_reducible refine x1 ?_; clear hbq bq) | (with_reducible refine r1 ?_; clear hbq bq) | (with_reducible refine x5 ?_ ?_; focus rfl) | (with_reducible refine iL ?_; refine rL (by rw [Tryz.results57]) fin ?_; simp only [go_sem, ↓reduceIte, aPack, Option.some.injEq, exists_eq_left', f2, f14, f15, f16, ma, hba, hs]) | with_reducible first | refine nS ?_ | refine nD ?_ | refine rS fun bq hbq => ?_ | refine rK ?_ | refine rE ?_ | refine rXx ?_ | refine rR ?_ | refine x2 ?_ | refine x3 ?_ | refine x4 ?_ | refine r2 ?_ | refine r3 ?_ | refine r4 ?_
        refine fits0_am 0 .nil u.size u 0 _ _ (Nat.le_refl _) (by decide) (by omega) ?_
        cases hf : fits0F u 0
        · rw [show fitErr u = 6 by simp only [fitErr, hs, hf]; rfl] at hix
          try dsimp only
          repeat first | ((first | (with_reducible first | refine sS ?_ | refine sA ?_ | refine sC ?_) | (with_reducible refine iT ?_; refine sT rfl ?_) | (with_reducible refine i0 ?_; refine s0 rfl ?_) | (with_reducible refine iO ?_; refine sO rfl ?_)); intro bC bR bU hC hR hU; simp only [go_sem, ↓reduceIte, f2, f14, f15, f16, ma, hba, hs, hf]; subst hC hR hU) | (with_reducible refine rN ?_; subst hbq) | (with_reducible refine iR ?_; refine rG (by simp only [compL, gtOf, nthDst]; exact rfl) ?_) | (with_reducible refine rB fun cq hcq => ?_; subst hcq) | (with_reducible refine x1 ?_; clear hbq bq) | (with_reducible refine r1 ?_; clear hbq bq) | (with_reducible refine x5 ?_ ?_; focus rfl) | (with_reducible refine iL ?_; refine rL (by rw [Tryz.results57]) fin ?_; simp only [go_sem, ↓reduceIte, aPack, Option.some.injEq, exists_eq_left', f2, f14, f15, f16, ma, hba, hs, hf]) | with_reducible first | refine nS ?_ | refine nD ?_ | refine rS fun bq hbq => ?_ | refine rK ?_ | refine rE ?_ | refine rXx ?_ | refine rR ?_ | refine x2 ?_ | refine x3 ?_ | refine x4 ?_ | refine r2 ?_ | refine r3 ?_ | refine r4 ?_
          exact ret_as (by rw [← hix]; rfl) hq
        · rw [show fitErr u = 0 by simp only [fitErr, hs, hf]; rfl] at hix
          try dsimp only
          repeat first | ((first | (with_reducible first | refine sS ?_ | refine sA ?_ | refine sC ?_) | (with_reducible refine iT ?_; refine sT rfl ?_) | (with_reducible refine i0 ?_; refine s0 rfl ?_) | (with_reducible refine iO ?_; refine sO rfl ?_)); intro bC bR bU hC hR hU; simp only [go_sem, ↓reduceIte, f2, f14, f15, f16, ma, hba, hs, hf, wrap_in (show -9223372036854775808 ≤ (i : Int) + 1 by omega) (show (i : Int) + 1 ≤ 9223372036854775807 by omega)]; subst hC hR hU) | (with_reducible refine rN ?_; subst hbq) | (with_reducible refine iR ?_; refine rG (by simp only [compL, gtOf, nthDst]; exact rfl) ?_) | (with_reducible refine rB fun cq hcq => ?_; subst hcq) | (with_reducible refine x1 ?_; clear hbq bq) | (with_reducible refine r1 ?_; clear hbq bq) | (with_reducible refine x5 ?_ ?_; focus rfl) | (with_reducible refine iL ?_; refine rL (by rw [Tryz.results57]) fin ?_; simp only [go_sem, ↓reduceIte, aPack, Option.some.injEq, exists_eq_left', f2, f14, f15, f16, ma, hba, hs, hf, wrap_in (show -9223372036854775808 ≤ (i : Int) + 1 by omega) (show (i : Int) + 1 ≤ 9223372036854775807 by omega)]) | with_reducible first | refine nS ?_ | refine nD ?_ | refine rS fun bq hbq => ?_ | refine rK ?_ | refine rE ?_ | refine rXx ?_ | refine rR ?_ | refine x2 ?_ | refine x3 ?_ | refine x4 ?_ | refine r2 ?_ | refine r3 ?_ | refine r4 ?_
          refine run_loopN (m := k - 1) (by omega) ⟨i + 1, by omega, ?_⟩
          simp only [go_sem, ↓reduceIte, f2, f14, f15, f16, hba, ma]
          exact ⟨rfl, fin, hix⟩
    · rw [List.drop_eq_nil_of_le (by omega), fitErrs] at hix
      try dsimp only
      repeat first | ((first | (with_reducible first | refine sS ?_ | refine sA ?_ | refine sC ?_) | (with_reducible refine iT ?_; refine sT rfl ?_) | (with_reducible refine i0 ?_; refine s0 rfl ?_) | (with_reducible refine iO ?_; refine sO rfl ?_)); intro bC bR bU hC hR hU; simp only [go_sem, ↓reduceIte, f2, f14, f15, f16, hi]; subst hC hR hU) | (with_reducible refine rN ?_; subst hbq) | (with_reducible refine iR ?_; refine rG (by simp only [compL, gtOf, nthDst]; exact rfl) ?_) | (with_reducible refine rB fun cq hcq => ?_; subst hcq) | (with_reducible refine x1 ?_; clear hbq bq) | (with_reducible refine r1 ?_; clear hbq bq) | (with_reducible refine x5 ?_ ?_; focus rfl) | (with_reducible refine iL ?_; refine rL (by rw [Tryz.results57]) hl' ?_; simp only [go_sem, ↓reduceIte, aPack, Option.some.injEq, exists_eq_left', f2, f14, f15, f16, hi]) | with_reducible first | refine nS ?_ | refine nD ?_ | refine rS fun bq hbq => ?_ | refine rK ?_ | refine rE ?_ | refine rXx ?_ | refine rR ?_ | refine x2 ?_ | refine x3 ?_ | refine x4 ?_ | refine r2 ?_ | refine r3 ?_ | refine r4 ?_
      rw [hix]; exact hq
def fewL : List Term → Bool
  | [] => true
  | t :: ts => fewF t && fewL ts
theorem few_am (z : Nat) (tk : Tok) (l : List Term) (h : AHeap) (Q : AOut → AHeap → Prop) (hl : l.length ≤ 1000000000) (hq : Q (.ret (.bool (fewL l))) h) : AmCalls Tryz.prog 14 [.agg [.list z [] 0 tk], .list 4 (encs l) l.length .none] h Q := by
  refine AmCalls.of_sem (fn := Tryz.f14) Tryz.func14 rfl (by kernel_rfl) (by rw [Tryz.ntmps14]; simp) (enters_of Tryz.func14 (by kernel_rfl) (by kernel_rfl)) ?_
  try dsimp only
  repeat first | ((first | (with_reducible first | refine sS ?_ | refine sA ?_ | refine sC ?_) | (with_reducible refine iT ?_; refine sT rfl ?_) | (with_reducible refine i0 ?_; refine s0 rfl ?_) | (with_reducible refine iO ?_; refine sO rfl ?_)); intro bC bR bU hC hR hU; simp only [go_sem, ↓reduceIte]; subst hC hR hU) | (with_reducible refine rN ?_; subst hbq) | (with_reducible refine iR ?_; refine rG (by simp only [compL, gtOf, nthDst]; exact rfl) ?_) | (with_reducible refine rB fun cq hcq => ?_; subst hcq) | (with_reducible refine x1 ?_; clear hbq bq) | (with_reducible refine r1 ?_; clear hbq bq) | (with_reducible refine x5 ?_ ?_; focus rfl) | (with_reducible refine iL ?_; refine rL (by rw [Tryz.results14]) (HLess.refl _) ?_; simp only [go_sem, ↓reduceIte, aPack, Option.some.injEq, exists_eq_left']) | with_reducible first | refine nS ?_ | refine nD ?_ | refine rS fun bq hbq => ?_ | refine rK ?_ | refine rE ?_ | refine rXx ?_ | refine rR ?_ | refine x2 ?_ | refine x3 ?_ | refine x4 ?_ | refine r2 ?_ | refine r3 ?_ | refine r4 ?_
  intro a ha
  have fin : HLess (upd h a (some (.cells [.list z [] 0 tk] 24))) h := (HLess.refl h).new ha
  try dsimp only
  repeat first | ((first | (with_reducible first | refine sS ?_ | refine sA ?_ | refine sC ?_) | (with_reducible refine iT ?_; refine sT rfl ?_) | (with_reducible refine i0 ?_; refine s0 rfl ?_) | (with_reducible refine iO ?_; refine sO rfl ?_)); intro bC bR bU hC hR hU; simp only [go_sem, ↓reduceIte, show decide (((0 : Nat) : Int) > 12) = false from rfl]; subst hC hR hU) | (with_reducible refine rN ?_; subst hbq) | (with_reducible refine iR ?_; refine rG (by simp only [compL, gtOf, nthDst]; exact rfl) ?_) | (with_reducible refine rB fun cq hcq => ?_; subst hcq) | (with_reducible refine x1 ?_; clear hbq bq) | (with_reducible refine r1 ?_; clear hbq bq) | (with_reducible refine x5 ?_ ?_; focus rfl) | (with_reducible refine iL ?_; refine rL (by rw [Tryz.results14]) fin ?_; simp only [go_sem, ↓reduceIte, aPack, Option.some.injEq, exists_eq_left', show decide (((0 : Nat) : Int) > 12) = false from rfl]) | with_reducible first | refine nS ?_ | refine nD ?_ | refine rS fun bq hbq => ?_ | refine rK ?_ | refine rE ?_ | refine rXx ?_ | refine rR ?_ | refine x2 ?_ | refine x3 ?_ | refine x4 ?_ | refine r2 ?_ | refine r3 ?_ | refine r4 ?_
  refine run_loop (fun k τ h' => k = 0 ∧ τ 1 = .list 4 (encs l) l.length .none ∧ τ 2 = .ptr a 0 ∧ τ 5 = .int .i64 0 ∧ h' = upd h a (some (.cells [.list z [] 0 tk] 24))) 0 ?_ ?_
  · exact ⟨rfl, rfl, rfl, rfl, rfl⟩
  intro c hc k τ h' hI
  obtain ⟨rfl, f1, f2, f5, rfl⟩ := hI
  subst hc
  try dsimp only
  repeat first | ((first | (with_reducible first | refine sS ?_ | refine sA ?_ | refine sC ?_) | (with_reducible refine iT ?_; refine sT rfl ?_) | (with_reducible refine i0 ?_; refine s0 rfl ?_) | (with_reducible refine iO ?_; refine sO rfl ?_)); intro bC bR bU hC hR hU; simp only [go_sem, ↓reduceIte, f1, f2, f5, show decide ((0 : Int) < ((0 : Nat) : Int)) = false from rfl]; subst hC hR hU) | (with_reducible refine rN ?_; subst hbq) | (with_reducible refine iR ?_; refine rG (by simp only [compL, gtOf, nthDst]; exact rfl) ?_) | (with_reducible refine rB fun cq hcq => ?_; subst hcq) | (with_reducible refine x1 ?_; clear hbq bq) | (with_reducible refine r1 ?_; clear hbq bq) | (with_reducible refine x5 ?_ ?_; focus rfl) | (with_reducible refine iL ?_; refine rL (by rw [Tryz.results14]) fin ?_; simp only [go_sem, ↓reduceIte, aPack, Option.some.injEq, exists_eq_left', f1, f2, f5, show decide ((0 : Int) < ((0 : Nat) : Int)) = false from rfl]) | with_reducible first | refine nS ?_ | refine nD ?_ | refine rS fun bq hbq => ?_ | refine rK ?_ | refine rE ?_ | refine rXx ?_ | refine rR ?_ | refine x2 ?_ | refine x3 ?_ | refine x4 ?_ | refine r2 ?_ | refine r3 ?_ | refine r4 ?_
  refine run_loop (fun k τ h' => ∃ i : Nat, k + i = l.length ∧ τ 1 = .list 4 (encs l) l.length .none ∧ τ 6 = .int .i64 i ∧ HLess h' h ∧ fewL (l.drop i) = fewL l) l.length ?_ ?_
  · exact ⟨0, rfl, f1, rfl, fin, rfl⟩
  intro c hc k τ h' hI
  obtain ⟨i, hk, f1, f6, hl', hix⟩ := hI
  subst hc
  by_cases hi : i < l.length
  · obtain ⟨u, hu⟩ : ∃ u, l[i]? = some u := ⟨_, List.getElem?_eq_getElem hi⟩
    obtain ⟨r, hr⟩ := encs_at l i hu
    have hdrop : l.drop i = u :: l.drop (i + 1) := by
      rw [List.drop_eq_getElem_cons hi]
      rw [List.getElem?_eq_getElem hi] at hu; injection hu with hu; rw [hu]
    rw [hdrop, fewL] at hix
    try dsimp only
    repeat first | ((first | (with_reducible first | refine sS ?_ | refine sA ?_ | refine sC ?_) | (with_reducible refine iT ?_; refine sT rfl ?_) | (with_reducible refine i0 ?_; refine s0 rfl ?_) | (with_reducible refine iO ?_; refine sO rfl ?_)); intro bC bR bU hC hR hU; simp only [go_sem, ↓reduceIte, f1, f6, hi, hr]; subst hC hR hU) | (with_reducible refine rN ?_; subst hbq) | (with_reducible refine iR ?_; refine rG (by simp only [compL, gtOf, nthDst]; exact rfl) ?_) | (with_reducible refine rB fun cq hcq => ?_; subst hcq) | (with_reducible refine x1 ?_; clear hbq bq) | (with_reducible refine r1 ?_; clear hbq bq) | (with_reducible refine x5 ?_ ?_; focus rfl) | (with_reducible refine iL ?_; refine rL (by rw [Tryz.results14]) hl' ?_; simp only [go_sem, ↓reduceIte, aPack, Option.some.injEq, exists_eq_left', f1, f6, hi, hr]) | with_reducible first | refine nS ?_ | refine nD ?_ | refine rS fun bq hbq => ?_ | refine rK ?_ | refine rE ?_ | refine rXx ?_ | refine rR ?_ | refine x2 ?_ | refine x3 ?_ | refine x4 ?_ | refine r2 ?_ | refine r3 ?_ | refine r4 ?_
    refine fewT_am u _ _ ?_
    cases hf : fewF u
    · rw [hf, Bool.false_and] at hix
      try dsimp only
      repeat first | ((first | (with_reducible first | refine sS ?_ | refine sA ?_ | refine sC ?_) | (with_reducible refine iT ?_; refine sT rfl ?_) | (with_reducible refine i0 ?_; refine s0 rfl ?_) | (with_reducible refine iO ?_; refine sO rfl ?_)); intro bC bR bU hC hR hU; simp only [go_sem, ↓reduceIte, f1, f6, hf]; subst hC hR hU) | (with_reducible refine rN ?_; subst hbq) | (with_reducible refine iR ?_; refine rG (by simp only [compL, gtOf, nthDst]; exact rfl) ?_) | (with_reducible refine rB fun cq hcq => ?_; subst hcq) | (with_reducible refine x1 ?_; clear hbq bq) | (with_reducible refine r1 ?_; clear hbq bq) | (with_reducible refine x5 ?_ ?_; focus rfl) | (with_reducible refine iL ?_; refine rL (by rw [Tryz.results14]) hl' ?_; simp only [go_sem, ↓reduceIte, aPack, Option.some.injEq, exists_eq_left', f1, f6, hf]) | with_reducible first | refine nS ?_ | refine nD ?_ | refine rS fun bq hbq => ?_ | refine rK ?_ | refine rE ?_ | refine rXx ?_ | refine rR ?_ | refine x2 ?_ | refine x3 ?_ | refine x4 ?_ | refine r2 ?_ | refine r3 ?_ | refine r4 ?_
      exact ret_as (by rw [← hix]) hq
    · rw [hf, Bool.true_and] at hix
      try dsimp only
      repeat first | ((first | (with_reducible first | refine sS ?_ | refine sA ?_ | refine sC ?_) | (with_reducible refine iT ?_; refine sT rfl ?_) | (with_reducible refine i0 ?_; refine s0 rfl ?_) | (with_reducible refine iO ?_; refine sO rfl ?_)); intro bC bR bU hC hR hU; simp only [go_sem, ↓reduceIte, f1, f6, hf, wrap_in (show -9223372036854775808 ≤ (i : Int) + 1 by omega) (show (i : Int) + 1 ≤ 9223372036854775807 by omega)]; subst hC hR hU) | (with_reducible refine rN ?_; subst hbq) | (with_reducible refine iR ?_; refine rG (by simp only [compL, gtOf, nthDst]; exact rfl) ?_) | (with_reducible refine rB fun cq hcq => ?_; subst hcq) | (with_reducible refine x1 ?_; clear hbq bq) | (with_reducible refine r1 ?_; clear hbq bq) | (with_reducible refine x5 ?_ ?_; focus rfl) | (with_reducible refine iL ?_; refine rL (by rw [Tryz.results14]) hl' ?_; simp only [go_sem, ↓reduceIte, aPack, Option.some.injEq, exists_eq_left', f1, f6, hf, wrap_in (show -9223372036854775808 ≤ (i : Int) + 1 by omega) (show (i : Int) + 1 ≤ 9223372036854775807 by omega)]) | with_reducible first | refine nS ?_ | refine nD ?_ | refine rS fun bq hbq => ?_ | refine rK ?_ | refine rE ?_ | refine rXx ?_ | refine rR ?_ | refine x2 ?_ | refine x3 ?_ | refine x4 ?_ | refine r2 ?_ | refine r3 ?_ | refine r4 ?_
      refine run_loopN (m := k - 1) (by omega) ⟨i + 1, by omega, ?_⟩
      simp only [go_sem, ↓reduceIte, f1, f6]
      exact ⟨rfl, hl', hix⟩
  · rw [List.drop_eq_nil_of_le (by omega), fewL] at hix
    try dsimp only
    repeat first | ((first | (with_reducible first | refine sS ?_ | refine sA ?_ | refine sC ?_) | (with_reducible refine iT ?_; refine sT rfl ?_) | (with_reducible refine i0 ?_; refine s0 rfl ?_) | (with_reducible refine iO ?_; refine sO rfl ?_)); intro bC bR bU hC hR hU; simp only [go_sem, ↓reduceIte, f1, f6, hi]; subst hC hR hU) | (with_reducible refine rN ?_; subst hbq) | (with_reducible refine iR ?_; refine rG (by simp only [compL, gtOf, nthDst]; exact rfl) ?_) | (with_reducible refine rB fun cq hcq => ?_; subst hcq) | (with_reducible refine x1 ?_; clear hbq bq) | (with_reducible refine r1 ?_; clear hbq bq) | (with_reducible refine x5 ?_ ?_; focus rfl) | (with_reducible refine iL ?_; refine rL (by rw [Tryz.results14]) hl' ?_; simp only [go_sem, ↓reduceIte, aPack, Option.some.injEq, exists_eq_left', f1, f6, hi]) | with_reducible first | refine nS ?_ | refine nD ?_ | refine rS fun bq hbq => ?_ | refine rK ?_ | refine rE ?_ | refine rXx ?_ | refine rR ?_ | refine x2 ?_ | refine x3 ?_ | refine x4 ?_ | refine r2 ?_ | refine r3 ?_ | refine r4 ?_
    rw [hix]; exact hq
/- within. -/


def wIdx (k n : Int) (us : List Term) : Int := indexF (fun a => a.kind == k && a.n == n) us 0
def wVar (k n d : Int) : Bool := k == 3 || (k == 2 && decide (n ≥ d))
def wNum (k n d : Int) : Int := if k == 2 then IntKind.i64.wrap (n - d) else n
def wHead (k n : Int) (us : List Term) (d : Int) : Option (Int × Int) :=
  if wVar k n d then (if decide (wIdx k (wNum k n d) us ≥ 0) then some (-1, wIdx k (wNum k n d) us) else if k == 2 then none else some (k, n)) else some (k, n)
mutual
def withinF : Term → List Term → Int → Option Term
  | ⟨k, n, s, l⟩, us, d => (wHead k n us d).bind fun r => (withinL l us (inner k d)).map fun l' => ⟨r.1, r.2, s, l'⟩
def withinL : List Term → List Term → Int → Option (List Term)
  | [], _, _ => some []
  | t :: ts, us, d => (withinF t us d).bind fun t' => (withinL ts us d).map fun ts' => t' :: ts'
end
theorem withinF_eq (t : Term) (us : List Term) (d : Int) : withinF t us d = (wHead t.kind t.n us d).bind fun r => (withinL t.args us (inner t.kind d)).map fun l' => ⟨r.1, r.2, t.name, l'⟩ := by
  obtain ⟨k, n, s, l⟩ := t
  rw [withinF]
theorem same160_am (a b : Term) (h : AHeap) (r : Nat) (hr : h r = some (.cells (cellsT a) 27)) (Q : AOut → AHeap → Prop) (hq : Q (.ret (.bool (isF b a))) h) : AmCalls Tryz.prog 160 [enc b, .ptr r 0] h Q := by
  refine AmCalls.of_sem (fn := Tryz.f160) Tryz.func160 rfl (by kernel_rfl) (by rw [Tryz.ntmps160]; simp) (enters_of Tryz.func160 (by kernel_rfl) (by kernel_rfl)) ?_
  try dsimp only
  repeat first | ((first | (with_reducible first | refine sS ?_ | refine sA ?_ | refine sC ?_) | (with_reducible refine iT ?_; refine sT rfl ?_) | (with_reducible refine i0 ?_; refine s0 rfl ?_) | (with_reducible refine iO ?_; refine sO rfl ?_)); intro bC bR bU hC hR hU; simp only [go_sem, ↓reduceIte]; subst hC hR hU) | (with_reducible refine rN ?_; subst hbq) | (with_reducible refine iR ?_; refine rG (by simp only [compL, gtOf, nthDst]; exact rfl) ?_) | (with_reducible refine rB fun cq hcq => ?_; subst hcq) | (with_reducible refine x1 ?_; clear hbq bq) | (with_reducible refine r1 ?_; clear hbq bq) | (with_reducible refine x5 ?_ ?_; focus rfl) | (with_reducible refine iL ?_; refine rL (by rw [Tryz.results160]) (HLess.refl _) ?_; simp only [go_sem, ↓reduceIte, aPack, Option.some.injEq, exists_eq_left']) | with_reducible first | refine nS ?_ | refine nD ?_ | refine rS fun bq hbq => ?_ | refine rK ?_ | refine rE ?_ | refine rXx ?_ | refine rR ?_ | refine x2 ?_ | refine x3 ?_ | refine x4 ?_ | refine r2 ?_ | refine r3 ?_ | refine r4 ?_
  intro p hp
  have hne := ne_of_new hp hr
  try dsimp only
  repeat first | ((first | (with_reducible first | refine sS ?_ | refine sA ?_ | refine sC ?_) | (with_reducible refine iT ?_; refine sT rfl ?_) | (with_reducible refine i0 ?_; refine s0 rfl ?_) | (with_reducible refine iO ?_; refine sO rfl ?_)); intro bC bR bU hC hR hU; simp only [go_sem, ↓reduceIte, hne, hr]; subst hC hR hU) | (with_reducible refine rN ?_; subst hbq) | (with_reducible refine iR ?_; refine rG (by simp only [compL, gtOf, nthDst]; exact rfl) ?_) | (with_reducible refine rB fun cq hcq => ?_; subst hcq) | (with_reducible refine x1 ?_; clear hbq bq) | (with_reducible refine r1 ?_; clear hbq bq) | (with_reducible refine x5 ?_ ?_; focus rfl) | (with_reducible refine iL ?_; refine rL (by rw [Tryz.results160]) (HLess.one hp) ?_; simp only [go_sem, ↓reduceIte, aPack, Option.some.injEq, exists_eq_left', hne, hr]) | with_reducible first | refine nS ?_ | refine nD ?_ | refine rS fun bq hbq => ?_ | refine rK ?_ | refine rE ?_ | refine rXx ?_ | refine rR ?_ | refine x2 ?_ | refine x3 ?_ | refine x4 ?_ | refine r2 ?_ | refine r3 ?_ | refine r4 ?_
  refine is_am b a _ _ ?_
  try dsimp only
  repeat first | ((first | (with_reducible first | refine sS ?_ | refine sA ?_ | refine sC ?_) | (with_reducible refine iT ?_; refine sT rfl ?_) | (with_reducible refine i0 ?_; refine s0 rfl ?_) | (with_reducible refine iO ?_; refine sO rfl ?_)); intro bC bR bU hC hR hU; simp only [go_sem, ↓reduceIte]; subst hC hR hU) | (with_reducible refine rN ?_; subst hbq) | (with_reducible refine iR ?_; refine rG (by simp only [compL, gtOf, nthDst]; exact rfl) ?_) | (with_reducible refine rB fun cq hcq => ?_; subst hcq) | (with_reducible refine x1 ?_; clear hbq bq) | (with_reducible refine r1 ?_; clear hbq bq) | (with_reducible refine x5 ?_ ?_; focus rfl) | (with_reducible refine iL ?_; refine rL (by rw [Tryz.results160]) (HLess.one hp) ?_; simp only [go_sem, ↓reduceIte, aPack, Option.some.injEq, exists_eq_left']) | with_reducible first | refine nS ?_ | refine nD ?_ | refine rS fun bq hbq => ?_ | refine rK ?_ | refine rE ?_ | refine rXx ?_ | refine rR ?_ | refine x2 ?_ | refine x3 ?_ | refine x4 ?_ | refine r2 ?_ | refine r3 ?_ | refine r4 ?_
  exact hq
theorem indexF_range {α : Type} (f : α → Bool) : ∀ (l : List α) (i : Int), 0 ≤ i → -1 ≤ indexF f l i ∧ indexF f l i < i + l.length + 1 ∧ (indexF f l i ≥ 0 → indexF f l i < i + l.length)
  | [], i, hi => by rw [indexF]; refine ⟨by omega, by simp; omega, fun h => absurd h (by decide)⟩
  | u :: l, i, hi => by
    rw [indexF]
    have := indexF_range f l (i + 1) (by omega)
    simp only [List.length_cons]
    split
    · refine ⟨by omega, by omega, fun _ => by omega⟩
    · refine ⟨by omega, by omega, fun h => ?_⟩
      have := this.2.2 h
      omega
theorem le_list {sz i : Nat} {tok : Tok} {l : List Term} (h1 : l.length = i) (h2 : i = 0 ∨ sz = 4) : LeAV (.list sz (encs l) i tok) (.list 4 (encs l) l.length .none) := by
  rw [h1]
  rcases h2 with h2 | h2
  · subst h2
    rw [List.eq_nil_of_length_eq_zero h1, encs_nil]
    exact LeAV.nil _ _ _
  · rw [h2]; exact LeAV.list _ _ _ _
theorem encs_app (l m : List Term) : encs (l ++ m) = encs l ++ encs m := by rw [encs_eq, encs_eq, encs_eq, List.flatMap_append]
theorem encs_one (x : Term) : encs [x] = cellsT x := by rw [encs_cons, encs_nil]
theorem LeAV.any_ (a : AV) : LeAV a .any := fun G W v _ => by simp only [Rel]
theorem within_am : ∀ (s : Nat) (t : Term) (us : List Term) (d : Int) (h : AHeap) (Q : AOut → AHeap → Prop), t.size ≤ s → 0 ≤ d → d + t.size ≤ 1000000000 → us.length ≤ 1000000000 →
    (∀ t', withinF t us d = some t' → Q (.ret (.tuple [enc t', .bool true])) h) → (withinF t us d = none → ∀ t0, Q (.ret (.tuple [enc t0, .bool false])) h) → AmCalls Tryz.prog 140 [enc t, .list 4 (encs us) us.length .none, .int .i64 d] h Q := by
  intro s
  induction s with
  | zero => intro t us d h Q ht; obtain ⟨a, b, c, l⟩ := t; rw [Term.size] at ht; omega
  | succ s ih =>
    intro t us d h Q ht hd0 hd1 hus hq hn
    have hlen := length_args t
    rw [withinF_eq] at hq hn
    refine AmCalls.of_sem (fn := Tryz.f140) Tryz.func140 rfl (by kernel_rfl) (by rw [Tryz.ntmps140]; simp) (enters_of Tryz.func140 (by kernel_rfl) (by kernel_rfl)) ?_
    try dsimp only
    repeat first | ((first | (with_reducible first | refine sS ?_ | refine sA ?_ | refine sC ?_) | (with_reducible refine iT ?_; refine sT rfl ?_) | (with_reducible refine i0 ?_; refine s0 rfl ?_) | (with_reducible refine iO ?_; refine sO rfl ?_)); intro bC bR bU hC hR hU; simp only [go_sem, ↓reduceIte]; subst hC hR hU) | (with_reducible refine rN ?_; subst hbq) | (with_reducible refine iR ?_; refine rG (by simp only [compL, gtOf, nthDst]; exact rfl) ?_) | (with_reducible refine rB fun cq hcq => ?_; subst hcq) | (with_reducible refine x1 ?_; clear hbq bq) | (with_reducible refine r1 ?_; clear hbq bq) | (with_reducible refine x5 ?_ ?_; focus rfl) | (with_reducible refine iL ?_; refine rL (by rw [Tryz.results140]) (HLess.refl _) ?_; simp only [go_sem, ↓reduceIte, aPack, Option.some.injEq, exists_eq_left']) | with_reducible first | refine nS ?_ | refine nD ?_ | refine rS fun bq hbq => ?_ | refine rK ?_ | refine rE ?_ | refine rXx ?_ | refine rR ?_ | refine x2 ?_ | refine x3 ?_ | refine x4 ?_ | refine r2 ?_ | refine r3 ?_ | refine r4 ?_
    intro p hp
    try dsimp only
    repeat first | ((first | (with_reducible first | refine sS ?_ | refine sA ?_ | refine sC ?_) | (with_reducible refine iT ?_; refine sT rfl ?_) | (with_reducible refine i0 ?_; refine s0 rfl ?_) | (with_reducible refine iO ?_; refine sO rfl ?_)); intro bC bR bU hC hR hU; simp only [go_sem, ↓reduceIte]; subst hC hR hU) | (with_reducible refine rN ?_; subst hbq) | (with_reducible refine iR ?_; refine rG (by simp only [compL, gtOf, nthDst]; exact rfl) ?_) | (with_reducible refine rB fun cq hcq => ?_; subst hcq) | (with_reducible refine x1 ?_; clear hbq bq) | (with_reducible refine r1 ?_; clear hbq bq) | (with_reducible refine x5 ?_ ?_; focus rfl) | (with_reducible refine iL ?_; refine rL (by rw [Tryz.results140]) (HLess.refl _) ?_; simp only [go_sem, ↓reduceIte, aPack, Option.some.injEq, exists_eq_left']) | with_reducible first | refine nS ?_ | refine nD ?_ | refine rS fun bq hbq => ?_ | refine rK ?_ | refine rE ?_ | refine rXx ?_ | refine rR ?_ | refine x2 ?_ | refine x3 ?_ | refine x4 ?_ | refine r2 ?_ | refine r3 ?_ | refine r4 ?_
    intro q6 h6
    have n68 := fresh_if h6
    try dsimp only
    repeat first | ((first | (with_reducible first | refine sS ?_ | refine sA ?_ | refine sC ?_) | (with_reducible refine iT ?_; refine sT rfl ?_) | (with_reducible refine i0 ?_; refine s0 rfl ?_) | (with_reducible refine iO ?_; refine sO rfl ?_)); intro bC bR bU hC hR hU; simp only [go_sem, ↓reduceIte, n68.1, n68.1.symm]; subst hC hR hU) | (with_reducible refine rN ?_; subst hbq) | (with_reducible refine iR ?_; refine rG (by simp only [compL, gtOf, nthDst]; exact rfl) ?_) | (with_reducible refine rB fun cq hcq => ?_; subst hcq) | (with_reducible refine x1 ?_; clear hbq bq) | (with_reducible refine r1 ?_; clear hbq bq) | (with_reducible refine x5 ?_ ?_; focus rfl) | (with_reducible refine iL ?_; refine rL (by rw [Tryz.results140]) (HLess.refl _) ?_; simp only [go_sem, ↓reduceIte, aPack, Option.some.injEq, exists_eq_left', n68.1, n68.1.symm]) | with_reducible first | refine nS ?_ | refine nD ?_ | refine rS fun bq hbq => ?_ | refine rK ?_ | refine rE ?_ | refine rXx ?_ | refine rR ?_ | refine x2 ?_ | refine x3 ?_ | refine x4 ?_ | refine r2 ?_ | refine r3 ?_ | refine r4 ?_
    intro q8 h8
    have n8 := fresh_if h8
    have m8 := fresh_if n8.2
    try dsimp only
    repeat first | ((first | (with_reducible first | refine sS ?_ | refine sA ?_ | refine sC ?_) | (with_reducible refine iT ?_; refine sT rfl ?_) | (with_reducible refine i0 ?_; refine s0 rfl ?_) | (with_reducible refine iO ?_; refine sO rfl ?_)); intro bC bR bU hC hR hU; simp only [go_sem, ↓reduceIte, n68.1, n68.1.symm, n8.1, n8.1.symm, m8.1, m8.1.symm]; subst hC hR hU) | (with_reducible refine rN ?_; subst hbq) | (with_reducible refine iR ?_; refine rG (by simp only [compL, gtOf, nthDst]; exact rfl) ?_) | (with_reducible refine rB fun cq hcq => ?_; subst hcq) | (with_reducible refine x1 ?_; clear hbq bq) | (with_reducible refine r1 ?_; clear hbq bq) | (with_reducible refine x5 ?_ ?_; focus rfl) | (with_reducible refine iL ?_; refine rL (by rw [Tryz.results140]) (HLess.refl _) ?_; simp only [go_sem, ↓reduceIte, aPack, Option.some.injEq, exists_eq_left', n68.1, n68.1.symm, n8.1, n8.1.symm, m8.1, m8.1.symm]) | with_reducible first | refine nS ?_ | refine nD ?_ | refine rS fun bq hbq => ?_ | refine rK ?_ | refine rE ?_ | refine rXx ?_ | refine rR ?_ | refine x2 ?_ | refine x3 ?_ | refine x4 ?_ | refine r2 ?_ | refine r3 ?_ | refine r4 ?_
    intro q9 h9
    have n9 := fresh_if h9
    have m9 := fresh_if n9.2
    have k9 := fresh_if m9.2
    try dsimp only
    repeat first | ((first | (with_reducible first | refine sS ?_ | refine sA ?_) | (with_reducible refine iT ?_; refine sT rfl ?_) | (with_reducible refine i0 ?_; refine s0 rfl ?_) | (with_reducible refine iO ?_; refine sO rfl ?_)); intro bC bR bU hC hR hU; simp only [go_sem, ↓reduceIte, n68.1, n68.1.symm, n8.1, n8.1.symm, m8.1, m8.1.symm, n9.1, n9.1.symm, m9.1, m9.1.symm, k9.1, k9.1.symm]; subst hC hR hU) | with_reducible first | refine nS ?_ | refine nD ?_
    refine run_next ?_; subst hbq
    repeat with_reducible refine run_seq fun bq hbq => ?_
    refine run_cutS (fun τ h' => τ 1 = .list 4 (encs us) us.length .none ∧ τ 2 = .int .i64 d ∧ τ 3 = .ptr p 0 ∧ τ 6 = .ptr q6 0 ∧ τ 7 = .bool false ∧ τ 8 = .ptr q8 0 ∧ τ 9 = .ptr q9 0 ∧ τ 32 = .bool (wVar t.kind t.n d) ∧ HLess h' h ∧ h' p = some (.cells (cellsT t) 27) ∧ h' q6 = some (.cells [.int .i64 0, .int .i64 0, .str noName, .list 0 [] 0 .nil] 27) ∧ h' q8 = some (.cells [.int .i64 t.kind, .int .i64 t.n, .str t.name, .list 0 [] 0 .nil] 27) ∧ h' q9 = some (.cells (cellsT t) 27)) ?_ fun τ h' hI => ?_
    · cases k3 : (t.kind == 3) <;> cases k2 : (t.kind == 2)
      all_goals
        try dsimp only
        repeat first | ((first | (with_reducible first | refine sS ?_ | refine sA ?_ | refine sC ?_) | (with_reducible refine iT ?_; refine sT rfl ?_) | (with_reducible refine i0 ?_; refine s0 rfl ?_) | (with_reducible refine iO ?_; refine sO rfl ?_)); intro bC bR bU hC hR hU; simp only [go_sem, ↓reduceIte, n68.1, n68.1.symm, n8.1, n8.1.symm, m8.1, m8.1.symm, n9.1, n9.1.symm, m9.1, m9.1.symm, k9.1, k9.1.symm, k2, k3]; subst hC hR hU) | (with_reducible refine rN ?_; subst hbq) | (with_reducible refine iR ?_; refine rG (by simp only [compL, gtOf, nthDst]; exact rfl) ?_) | (with_reducible refine rB fun cq hcq => ?_; subst hcq) | (with_reducible refine x1 ?_; clear hbq bq) | (with_reducible refine r1 ?_; clear hbq bq) | (with_reducible refine x5 ?_ ?_; focus rfl) | (with_reducible refine iL ?_; refine rL (by rw [Tryz.results140]) (HLess.refl _) ?_; simp only [go_sem, ↓reduceIte, aPack, Option.some.injEq, exists_eq_left', n68.1, n68.1.symm, n8.1, n8.1.symm, m8.1, m8.1.symm, n9.1, n9.1.symm, m9.1, m9.1.symm, k9.1, k9.1.symm, k2, k3]) | with_reducible first | refine nS ?_ | refine nD ?_ | refine rS fun bq hbq => ?_ | refine rK ?_ | refine rE ?_ | refine rXx ?_ | refine rR ?_ | refine x2 ?_ | refine x3 ?_ | refine x4 ?_ | refine r2 ?_ | refine r3 ?_ | refine r4 ?_
        refine run_endcut ?_
        simp only [go_sem, ↓reduceIte, n68.1, n68.1.symm, n8.1, n8.1.symm, m8.1, m8.1.symm, n9.1, n9.1.symm, m9.1, m9.1.symm, k9.1, k9.1.symm, wVar, k2, k3]
        first
        | exact (((HLess.refl h).new hp).new n68.2 |>.new m8.2 |>.new k9.2)
        | exact (((HLess.refl h).new hp).new n68.2 |>.new m8.2 |>.new m8.2 |>.new m8.2 |>.new k9.2 |>.new k9.2)
        | trace_state
    obtain ⟨f1, f2, f3, f6, f7, f8, f9, f32, hl', lp, l6, l8, l9⟩ := hI
    subst hbq
    repeat with_reducible refine run_seq fun bq hbq => ?_
    refine run_cutS (fun τ h' => ∃ r, wHead t.kind t.n us d = some r ∧ τ 1 = .list 4 (encs us) us.length .none ∧ τ 2 = .int .i64 d ∧ τ 3 = .ptr p 0 ∧ τ 6 = .ptr q6 0 ∧ τ 7 = .bool false ∧ τ 8 = .ptr q8 0 ∧ HLess h' h ∧ h' p = some (.cells (cellsT t) 27) ∧ h' q6 = some (.cells [.int .i64 0, .int .i64 0, .str noName, .list 0 [] 0 .nil] 27) ∧ h' q8 = some (.cells [.int .i64 r.1, .int .i64 r.2, .str t.name, .list 0 [] 0 .nil] 27)) ?_ fun τ h' hI => ?_
    · cases hv : wVar t.kind t.n d
      · rw [hv] at f32
        try dsimp only
        repeat first | ((first | (with_reducible first | refine sS ?_ | refine sA ?_ | refine sC ?_) | (with_reducible refine iT ?_; refine sT rfl ?_) | (with_reducible refine i0 ?_; refine s0 rfl ?_) | (with_reducible refine iO ?_; refine sO rfl ?_)); intro bC bR bU hC hR hU; simp only [go_sem, ↓reduceIte, f32]; subst hC hR hU) | (with_reducible refine rN ?_; subst hbq) | (with_reducible refine iR ?_; refine rG (by simp only [compL, gtOf, nthDst]; exact rfl) ?_) | (with_reducible refine rB fun cq hcq => ?_; subst hcq) | (with_reducible refine x1 ?_; clear hbq bq) | (with_reducible refine r1 ?_; clear hbq bq) | (with_reducible refine x5 ?_ ?_; focus rfl) | (with_reducible refine iL ?_; refine rL (by rw [Tryz.results140]) hl' ?_; simp only [go_sem, ↓reduceIte, aPack, Option.some.injEq, exists_eq_left', f32]) | with_reducible first | refine nS ?_ | refine nD ?_ | refine rS fun bq hbq => ?_ | refine rK ?_ | refine rE ?_ | refine rXx ?_ | refine rR ?_ | refine x2 ?_ | refine x3 ?_ | refine x4 ?_ | refine r2 ?_ | refine r3 ?_ | refine r4 ?_
        refine run_endcut ?_
        refine ⟨(t.kind, t.n), by simp only [wHead, hv]; rfl, f1, f2, f3, f6, f7, f8, hl', lp, l6, l8⟩
      · rw [hv] at f32
        have d9 : q8 ≠ q9 := by intro e; exact n9.1 e.symm
        cases k2 : (t.kind == 2)
        · have hnum : wNum t.kind t.n d = t.n := by simp only [wNum, k2]; rfl
          try dsimp only
          repeat first | ((first | (with_reducible first | refine sS ?_ | refine sA ?_ | refine sC ?_) | (with_reducible refine iT ?_; refine sT rfl ?_) | (with_reducible refine i0 ?_; refine s0 rfl ?_) | (with_reducible refine iO ?_; refine sO rfl ?_)); intro bC bR bU hC hR hU; simp only [go_sem, ↓reduceIte, f1, f9, f32, l9, k2]; subst hC hR hU) | (with_reducible refine rN ?_; subst hbq) | (with_reducible refine iR ?_; refine rG (by simp only [compL, gtOf, nthDst]; exact rfl) ?_) | (with_reducible refine rB fun cq hcq => ?_; subst hcq) | (with_reducible refine x1 ?_; clear hbq bq) | (with_reducible refine r1 ?_; clear hbq bq) | (with_reducible refine x5 ?_ ?_; focus rfl) | (with_reducible refine iL ?_; refine rL (by rw [Tryz.results140]) hl' ?_; simp only [go_sem, ↓reduceIte, aPack, Option.some.injEq, exists_eq_left', f1, f9, f32, l9, k2]) | with_reducible first | refine nS ?_ | refine nD ?_ | refine rS fun bq hbq => ?_ | refine rK ?_ | refine rE ?_ | refine rXx ?_ | refine rR ?_ | refine x2 ?_ | refine x3 ?_ | refine x4 ?_ | refine r2 ?_ | refine r3 ?_ | refine r4 ?_
          refine indexFunc_am us 160 [] [.ptr q9 0] (fun a => a.kind == t.kind && a.n == t.n) _ _ hus (fun i u hu _ h2 Q2 hl2 hq2 => same160_am t u h2 q9 (hl2 _ _ l9) Q2 hq2) ?_
          have hidx : indexF (fun a => a.kind == t.kind && a.n == t.n) us 0 = wIdx t.kind t.n us := rfl
          cases hw : decide (wIdx t.kind t.n us ≥ 0)
          · try dsimp only
            repeat first | ((first | (with_reducible first | refine sS ?_ | refine sA ?_ | refine sC ?_) | (with_reducible refine iT ?_; refine sT rfl ?_) | (with_reducible refine i0 ?_; refine s0 rfl ?_) | (with_reducible refine iO ?_; refine sO rfl ?_)); intro bC bR bU hC hR hU; simp only [go_sem, ↓reduceIte, f1, f9, f32, l9, k2, hidx, hw]; subst hC hR hU) | (with_reducible refine rN ?_; subst hbq) | (with_reducible refine iR ?_; refine rG (by simp only [compL, gtOf, nthDst]; exact rfl) ?_) | (with_reducible refine rB fun cq hcq => ?_; subst hcq) | (with_reducible refine x1 ?_; clear hbq bq) | (with_reducible refine r1 ?_; clear hbq bq) | (with_reducible refine x5 ?_ ?_; focus rfl) | (with_reducible refine iL ?_; refine rL (by rw [Tryz.results140]) hl' ?_; simp only [go_sem, ↓reduceIte, aPack, Option.some.injEq, exists_eq_left', f1, f9, f32, l9, k2, hidx, hw]) | with_reducible first | refine nS ?_ | refine nD ?_ | refine rS fun bq hbq => ?_ | refine rK ?_ | refine rE ?_ | refine rXx ?_ | refine rR ?_ | refine x2 ?_ | refine x3 ?_ | refine x4 ?_ | refine r2 ?_ | refine r3 ?_ | refine r4 ?_
            refine run_endcut ?_
            refine ⟨(t.kind, t.n), by simp only [wHead, hv, hnum, hw, k2]; rfl, ?_⟩
            simp only [go_sem, ↓reduceIte, f1, f2, f3, f6, f7, f8]
            exact ⟨hl', lp, l6, l8⟩
          · try dsimp only
            repeat first | ((first | (with_reducible first | refine sS ?_ | refine sA ?_ | refine sC ?_) | (with_reducible refine iT ?_; refine sT rfl ?_) | (with_reducible refine i0 ?_; refine s0 rfl ?_) | (with_reducible refine iO ?_; refine sO rfl ?_)); intro bC bR bU hC hR hU; simp only [go_sem, ↓reduceIte, f1, f8, f9, f32, l8, l9, k2, hidx, hw]; subst hC hR hU) | (with_reducible refine rN ?_; subst hbq) | (with_reducible refine iR ?_; refine rG (by simp only [compL, gtOf, nthDst]; exact rfl) ?_) | (with_reducible refine rB fun cq hcq => ?_; subst hcq) | (with_reducible refine x1 ?_; clear hbq bq) | (with_reducible refine r1 ?_; clear hbq bq) | (with_reducible refine x5 ?_ ?_; focus rfl) | (with_reducible refine iL ?_; refine rL (by rw [Tryz.results140]) hl' ?_; simp only [go_sem, ↓reduceIte, aPack, Option.some.injEq, exists_eq_left', f1, f8, f9, f32, l8, l9, k2, hidx, hw]) | with_reducible first | refine nS ?_ | refine nD ?_ | refine rS fun bq hbq => ?_ | refine rK ?_ | refine rE ?_ | refine rXx ?_ | refine rR ?_ | refine x2 ?_ | refine x3 ?_ | refine x4 ?_ | refine r2 ?_ | refine r3 ?_ | refine r4 ?_
            refine run_endcut ?_
            refine ⟨(-1, wIdx t.kind t.n us), by simp only [wHead, hv, hnum, hw]; rfl, ?_⟩
            simp only [go_sem, ↓reduceIte, f1, f2, f3, f6, f7, f8, n8.1, m8.1, n8.1.symm, m8.1.symm, lp, l6]
            exact hl'.new m8.2
        · have hnum : wNum t.kind t.n d = IntKind.i64.wrap (t.n - d) := by simp only [wNum, k2]; rfl
          generalize hN : IntKind.i64.wrap (t.n - d) = N at hnum
          try dsimp only
          repeat first | ((first | (with_reducible first | refine sS ?_ | refine sA ?_ | refine sC ?_) | (with_reducible refine iT ?_; refine sT rfl ?_) | (with_reducible refine i0 ?_; refine s0 rfl ?_) | (with_reducible refine iO ?_; refine sO rfl ?_)); intro bC bR bU hC hR hU; simp only [go_sem, ↓reduceIte, f1, f2, f9, f32, l9, k2, hN]; subst hC hR hU) | (with_reducible refine rN ?_; subst hbq) | (with_reducible refine iR ?_; refine rG (by simp only [compL, gtOf, nthDst]; exact rfl) ?_) | (with_reducible refine rB fun cq hcq => ?_; subst hcq) | (with_reducible refine x1 ?_; clear hbq bq) | (with_reducible refine r1 ?_; clear hbq bq) | (with_reducible refine x5 ?_ ?_; focus rfl) | (with_reducible refine iL ?_; refine rL (by rw [Tryz.results140]) hl' ?_; simp only [go_sem, ↓reduceIte, aPack, Option.some.injEq, exists_eq_left', f1, f2, f9, f32, l9, k2, hN]) | with_reducible first | refine nS ?_ | refine nD ?_ | refine rS fun bq hbq => ?_ | refine rK ?_ | refine rE ?_ | refine rXx ?_ | refine rR ?_ | refine x2 ?_ | refine x3 ?_ | refine x4 ?_ | refine r2 ?_ | refine r3 ?_ | refine r4 ?_
          have hfin : HLess (upd h' q9 (some (.cells (cellsT ⟨t.kind, N, t.name, t.args⟩) 27))) h := hl'.new k9.2
          refine indexFunc_am us 160 [] [.ptr q9 0] (fun a => a.kind == t.kind && a.n == N) _ _ hus (fun i u hu _ h2 Q2 hl2 hq2 => same160_am ⟨t.kind, N, t.name, t.args⟩ u h2 q9 (hl2 _ _ (upd_same _ _ _)) Q2 hq2) ?_
          have hidx : indexF (fun a => a.kind == t.kind && a.n == N) us 0 = wIdx t.kind N us := rfl
          cases hw : decide (wIdx t.kind N us ≥ 0)
          · have hno : wHead t.kind t.n us d = none := by simp only [wHead, hv, hnum, hw, k2]; rfl
            try dsimp only
            repeat first | ((first | (with_reducible first | refine sS ?_ | refine sA ?_ | refine sC ?_) | (with_reducible refine iT ?_; refine sT rfl ?_) | (with_reducible refine i0 ?_; refine s0 rfl ?_) | (with_reducible refine iO ?_; refine sO rfl ?_)); intro bC bR bU hC hR hU; simp only [go_sem, ↓reduceIte, f1, f2, f6, f8, f9, f32, l6, l8, l9, k2, hidx, hw, n9.1, n9.1.symm, m9.1, m9.1.symm, n8.1, n8.1.symm]; subst hC hR hU) | (with_reducible refine rN ?_; subst hbq) | (with_reducible refine iR ?_; refine rG (by simp only [compL, gtOf, nthDst]; exact rfl) ?_) | (with_reducible refine rB fun cq hcq => ?_; subst hcq) | (with_reducible refine x1 ?_; clear hbq bq) | (with_reducible refine r1 ?_; clear hbq bq) | (with_reducible refine x5 ?_ ?_; focus rfl) | (with_reducible refine iL ?_; refine rL (by rw [Tryz.results140]) hfin ?_; simp only [go_sem, ↓reduceIte, aPack, Option.some.injEq, exists_eq_left', f1, f2, f6, f8, f9, f32, l6, l8, l9, k2, hidx, hw, n9.1, n9.1.symm, m9.1, m9.1.symm, n8.1, n8.1.symm]) | with_reducible first | refine nS ?_ | refine nD ?_ | refine rS fun bq hbq => ?_ | refine rK ?_ | refine rE ?_ | refine rXx ?_ | refine rR ?_ | refine x2 ?_ | refine x3 ?_ | refine x4 ?_ | refine r2 ?_ | refine r3 ?_ | refine r4 ?_
            rw [hno] at hn
            refine last_as (v := .tuple [enc ⟨t.kind, t.n, t.name, []⟩, .bool false]) (by rw [Tryz.results140]) ((hl'.new k9.2).new n68.2) ?_ (hn rfl _)
            simp only [go_sem, ↓reduceIte, f6, f7, aPack, Option.some.injEq, exists_eq_left']
            refine LeAV.tuple (.cons (LeAV.agg (.cons (LeAV.refl _) (.cons (LeAV.refl _) (.cons (LeAV.refl _) (.cons ?_ .nil))))) (.cons (LeAV.refl _) .nil))
            rw [encs_nil]
            exact LeAV.nil _ _ _
          · try dsimp only
            repeat first | ((first | (with_reducible first | refine sS ?_ | refine sA ?_ | refine sC ?_) | (with_reducible refine iT ?_; refine sT rfl ?_) | (with_reducible refine i0 ?_; refine s0 rfl ?_) | (with_reducible refine iO ?_; refine sO rfl ?_)); intro bC bR bU hC hR hU; simp only [go_sem, ↓reduceIte, f1, f8, f9, f32, l8, l9, k2, hidx, hw, n9.1, n9.1.symm]; subst hC hR hU) | (with_reducible refine rN ?_; subst hbq) | (with_reducible refine iR ?_; refine rG (by simp only [compL, gtOf, nthDst]; exact rfl) ?_) | (with_reducible refine rB fun cq hcq => ?_; subst hcq) | (with_reducible refine x1 ?_; clear hbq bq) | (with_reducible refine r1 ?_; clear hbq bq) | (with_reducible refine x5 ?_ ?_; focus rfl) | (with_reducible refine iL ?_; refine rL (by rw [Tryz.results140]) hfin ?_; simp only [go_sem, ↓reduceIte, aPack, Option.some.injEq, exists_eq_left', f1, f8, f9, f32, l8, l9, k2, hidx, hw, n9.1, n9.1.symm]) | with_reducible first | refine nS ?_ | refine nD ?_ | refine rS fun bq hbq => ?_ | refine rK ?_ | refine rE ?_ | refine rXx ?_ | refine rR ?_ | refine x2 ?_ | refine x3 ?_ | refine x4 ?_ | refine r2 ?_ | refine r3 ?_ | refine r4 ?_
            refine run_endcut ?_
            refine ⟨(-1, wIdx t.kind N us), by simp only [wHead, hv, hnum, hw]; rfl, ?_⟩
            simp only [go_sem, ↓reduceIte, f1, f2, f3, f6, f7, f8, n8.1, m8.1, n8.1.symm, m8.1.symm, lp, l6, n9.1, n9.1.symm, m9.1, m9.1.symm, k9.1, k9.1.symm]
            exact (hl'.new k9.2).new m8.2
    obtain ⟨r, hr, f1, f2, f3, f6, f7, f8, hl', lp, l6, l8⟩ := hI
    subst hbq
    rw [hr] at hq hn
    simp only [Option.bind_some] at hq hn
    generalize hD : inner t.kind d = D at hq hn
    have hDb : 0 ≤ D ∧ D ≤ d + 1 := by rw [← hD]; unfold inner; split <;> omega
    repeat with_reducible refine run_seq fun bq hbq => ?_
    refine run_region (by simp only [compL, gtOf, nthDst]; exact rfl) ?_
    try dsimp only
    repeat first | ((first | (with_reducible first | refine sS ?_ | refine sA ?_) | (with_reducible refine iT ?_; refine sT rfl ?_) | (with_reducible refine i0 ?_; refine s0 rfl ?_) | (with_reducible refine iO ?_; refine sO rfl ?_)); intro bC bR bU hC hR hU; simp only [go_sem, ↓reduceIte, f2]; subst hC hR hU) | with_reducible first | refine nS ?_ | refine nD ?_
    refine run_next ?_; subst hbq
    refine run_cut (fun τ h' => τ 1 = .list 4 (encs us) us.length .none ∧ τ 3 = .ptr p 0 ∧ τ 6 = .ptr q6 0 ∧ τ 7 = .bool false ∧ τ 8 = .ptr q8 0 ∧ τ 11 = .int .i64 D ∧ HLess h' h ∧ h' p = some (.cells (cellsT t) 27) ∧ h' q6 = some (.cells [.int .i64 0, .int .i64 0, .str noName, .list 0 [] 0 .nil] 27) ∧ h' q8 = some (.cells [.int .i64 r.1, .int .i64 r.2, .str t.name, .list 0 [] 0 .nil] 27)) ?_ fun bq hbq τ h' hI => ?_
    · cases k5 : (t.kind == 5)
      · have hdd : D = d := by rw [← hD]; simp only [inner, k5]; rfl
        try dsimp only
        repeat first | ((first | (with_reducible first | refine sS ?_ | refine sA ?_ | refine sC ?_) | (with_reducible refine iT ?_; refine sT rfl ?_) | (with_reducible refine i0 ?_; refine s0 rfl ?_) | (with_reducible refine iO ?_; refine sO rfl ?_)); intro bC bR bU hC hR hU; simp only [go_sem, ↓reduceIte, f2, f3, lp, k5]; subst hC hR hU) | (with_reducible refine rN ?_; subst hbq) | (with_reducible refine iR ?_; refine rG (by simp only [compL, gtOf, nthDst]; exact rfl) ?_) | (with_reducible refine rB fun cq hcq => ?_; subst hcq) | (with_reducible refine x1 ?_; clear hbq bq) | (with_reducible refine r1 ?_; clear hbq bq) | (with_reducible refine x5 ?_ ?_; focus rfl) | (with_reducible refine iL ?_; refine rL (by rw [Tryz.results140]) hl' ?_; simp only [go_sem, ↓reduceIte, aPack, Option.some.injEq, exists_eq_left', f2, f3, lp, k5]) | with_reducible first | refine nS ?_ | refine nD ?_ | refine rS fun bq hbq => ?_ | refine rK ?_ | refine rE ?_ | refine rXx ?_ | refine rR ?_ | refine x2 ?_ | refine x3 ?_ | refine x4 ?_ | refine r2 ?_ | refine r3 ?_ | refine r4 ?_
        refine run_endcut ?_
        simp only [go_sem, ↓reduceIte, f1, f3, f6, f7, f8, hdd]
        exact ⟨hl', lp, l6, l8⟩
      · have hdd : D = d + 1 := by rw [← hD]; simp only [inner, k5]; rfl
        try dsimp only
        repeat first | ((first | (with_reducible first | refine sS ?_ | refine sA ?_ | refine sC ?_) | (with_reducible refine iT ?_; refine sT rfl ?_) | (with_reducible refine i0 ?_; refine s0 rfl ?_) | (with_reducible refine iO ?_; refine sO rfl ?_)); intro bC bR bU hC hR hU; simp only [go_sem, ↓reduceIte, f2, f3, lp, k5, wrap_in (show -9223372036854775808 ≤ d + 1 by omega) (show d + 1 ≤ 9223372036854775807 by omega)]; subst hC hR hU) | (with_reducible refine rN ?_; subst hbq) | (with_reducible refine iR ?_; refine rG (by simp only [compL, gtOf, nthDst]; exact rfl) ?_) | (with_reducible refine rB fun cq hcq => ?_; subst hcq) | (with_reducible refine x1 ?_; clear hbq bq) | (with_reducible refine r1 ?_; clear hbq bq) | (with_reducible refine x5 ?_ ?_; focus rfl) | (with_reducible refine iL ?_; refine rL (by rw [Tryz.results140]) hl' ?_; simp only [go_sem, ↓reduceIte, aPack, Option.some.injEq, exists_eq_left', f2, f3, lp, k5, wrap_in (show -9223372036854775808 ≤ d + 1 by omega) (show d + 1 ≤ 9223372036854775807 by omega)]) | with_reducible first | refine nS ?_ | refine nD ?_ | refine rS fun bq hbq => ?_ | refine rK ?_ | refine rE ?_ | refine rXx ?_ | refine rR ?_ | refine x2 ?_ | refine x3 ?_ | refine x4 ?_ | refine r2 ?_ | refine r3 ?_ | refine r4 ?_
        refine run_endcut ?_
        simp only [go_sem, ↓reduceIte, f1, f3, f6, f7, f8, hdd]
        exact ⟨hl', lp, l6, l8⟩
    clear f1 f2 f3 f6 f7 f8 hl' lp l6 l8
    obtain ⟨f1, f3, f6, f7, f8, f11, hl', lp, l6, l8⟩ := hI
    subst hbq
    try dsimp only
    repeat first | ((first | (with_reducible first | refine sS ?_ | refine sA ?_ | refine sC ?_) | (with_reducible refine iT ?_; refine sT rfl ?_) | (with_reducible refine i0 ?_; refine s0 rfl ?_) | (with_reducible refine iO ?_; refine sO rfl ?_)); intro bC bR bU hC hR hU; simp only [go_sem, ↓reduceIte, f3, lp]; subst hC hR hU) | (with_reducible refine rN ?_; subst hbq) | (with_reducible refine iR ?_; refine rG (by simp only [compL, gtOf, nthDst]; exact rfl) ?_) | (with_reducible refine rB fun cq hcq => ?_; subst hcq) | (with_reducible refine x1 ?_; clear hbq bq) | (with_reducible refine r1 ?_; clear hbq bq) | (with_reducible refine x5 ?_ ?_; focus rfl) | (with_reducible refine iL ?_; refine rL (by rw [Tryz.results140]) hl' ?_; simp only [go_sem, ↓reduceIte, aPack, Option.some.injEq, exists_eq_left', f3, lp]) | with_reducible first | refine nS ?_ | refine nD ?_ | refine rS fun bq hbq => ?_ | refine rK ?_ | refine rE ?_ | refine rXx ?_ | refine rR ?_ | refine x2 ?_ | refine x3 ?_ | refine x4 ?_ | refine r2 ?_ | refine r3 ?_ | refine r4 ?_
    refine run_loop (fun k τ h2 => ∃ (i sz : Nat) (tok : Tok) (done : List Term), k + i = t.args.length ∧ done.length = i ∧ withinL t.args us D = (withinL (t.args.drop i) us D).map (fun l => done ++ l) ∧ τ 1 = .list 4 (encs us) us.length .none ∧ τ 6 = .ptr q6 0 ∧ τ 7 = .bool false ∧ τ 8 = .ptr q8 0 ∧ τ 11 = .int .i64 D ∧ τ 60 = .list 4 (encs t.args) t.args.length .none ∧ τ 61 = .int .i64 t.args.length ∧ τ 62 = .int .i64 i ∧ HLess h2 h ∧ h2 q6 = some (.cells [.int .i64 0, .int .i64 0, .str noName, .list 0 [] 0 .nil] 27) ∧ h2 q8 = some (.cells [.int .i64 r.1, .int .i64 r.2, .str t.name, .list sz (encs done) i tok] 27) ∧ Grow 27 h h2 tok ∧ (i = 0 ∨ sz = 4)) t.args.length ?_ ?_
    · refine ⟨0, 0, .nil, [], rfl, rfl, ?_⟩
      simp only [go_sem, ↓reduceIte, f1, f3, f6, f7, f8, f11, List.drop_zero, encs_nil, lp, l6, l8]
      refine ⟨by simp, rfl, hl', .inl (.inr rfl), by simp⟩
    intro c hc k τ h2 hI
    clear f1 f3 f6 f7 f8 f11 lp l6 l8 hl'
    obtain ⟨i, sz, tok, done, hk, hdl, hdone, f1, f6, f7, f8, f11, f60, f61, f62, hl', m6, m8', hg, hsz0⟩ := hI
    subst hc
    by_cases hi : i < t.args.length
    · obtain ⟨u, hu⟩ : ∃ u, t.args[i]? = some u := ⟨_, List.getElem?_eq_getElem hi⟩
      obtain ⟨rr, hrr⟩ := encs_at t.args i hu
      have hus' := size_arg t i hu
      have hdrop : t.args.drop i = u :: t.args.drop (i + 1) := by
        rw [List.drop_eq_getElem_cons hi]
        rw [List.getElem?_eq_getElem hi] at hu; injection hu with hu; rw [hu]
      rw [hdrop, withinL] at hdone
      try dsimp only
      repeat first | ((first | (with_reducible first | refine sS ?_ | refine sA ?_ | refine sC ?_) | (with_reducible refine iT ?_; refine sT rfl ?_) | (with_reducible refine i0 ?_; refine s0 rfl ?_) | (with_reducible refine iO ?_; refine sO rfl ?_)); intro bC bR bU hC hR hU; simp only [go_sem, ↓reduceIte, f60, f61, f62, hi, hrr]; subst hC hR hU) | (with_reducible refine rN ?_; subst hbq) | (with_reducible refine iR ?_; refine rG (by simp only [compL, gtOf, nthDst]; exact rfl) ?_) | (with_reducible refine rB fun cq hcq => ?_; subst hcq) | (with_reducible refine x1 ?_; clear hbq bq) | (with_reducible refine r1 ?_; clear hbq bq) | (with_reducible refine x5 ?_ ?_; focus rfl) | (with_reducible refine iL ?_; refine rL (by rw [Tryz.results140]) hl' ?_; simp only [go_sem, ↓reduceIte, aPack, Option.some.injEq, exists_eq_left', f60, f61, f62, hi, hrr]) | with_reducible first | refine nS ?_ | refine nD ?_ | refine rS fun bq hbq => ?_ | refine rK ?_ | refine rE ?_ | refine rXx ?_ | refine rR ?_ | refine x2 ?_ | refine x3 ?_ | refine x4 ?_ | refine r2 ?_ | refine r3 ?_ | refine r4 ?_
      intro w hw
      have hw6 := ne_of_new hw m6
      have hw8 := ne_of_new hw m8'
      try dsimp only
      repeat first | ((first | (with_reducible first | refine sS ?_ | refine sA ?_ | refine sC ?_) | (with_reducible refine iT ?_; refine sT rfl ?_) | (with_reducible refine i0 ?_; refine s0 rfl ?_) | (with_reducible refine iO ?_; refine sO rfl ?_)); intro bC bR bU hC hR hU; simp only [go_sem, ↓reduceIte, f1, f11]; subst hC hR hU) | (with_reducible refine rN ?_; subst hbq) | (with_reducible refine iR ?_; refine rG (by simp only [compL, gtOf, nthDst]; exact rfl) ?_) | (with_reducible refine rB fun cq hcq => ?_; subst hcq) | (with_reducible refine x1 ?_; clear hbq bq) | (with_reducible refine r1 ?_; clear hbq bq) | (with_reducible refine x5 ?_ ?_; focus rfl) | (with_reducible refine iL ?_; refine rL (by rw [Tryz.results140]) hl' ?_; simp only [go_sem, ↓reduceIte, aPack, Option.some.injEq, exists_eq_left', f1, f11]) | with_reducible first | refine nS ?_ | refine nD ?_ | refine rS fun bq hbq => ?_ | refine rK ?_ | refine rE ?_ | refine rXx ?_ | refine rR ?_ | refine x2 ?_ | refine x3 ?_ | refine x4 ?_ | refine r2 ?_ | refine r3 ?_ | refine r4 ?_
      refine ih u us D _ _ (by omega) (by omega) (by omega) hus (fun u' hu' => ?_) (fun hu' t0 => ?_)
      · rw [hu', Option.bind_some] at hdone
        try dsimp only
        repeat first | ((first | (with_reducible first | refine sS ?_ | refine sA ?_ | refine sC ?_) | (with_reducible refine iT ?_; refine sT rfl ?_) | (with_reducible refine i0 ?_; refine s0 rfl ?_) | (with_reducible refine iO ?_; refine sO rfl ?_)); intro bC bR bU hC hR hU; simp only [go_sem, ↓reduceIte, f1, f11]; subst hC hR hU) | (with_reducible refine rN ?_; subst hbq) | (with_reducible refine iR ?_; refine rG (by simp only [compL, gtOf, nthDst]; exact rfl) ?_) | (with_reducible refine rB fun cq hcq => ?_; subst hcq) | (with_reducible refine x1 ?_; clear hbq bq) | (with_reducible refine r1 ?_; clear hbq bq) | (with_reducible refine x5 ?_ ?_; focus rfl) | (with_reducible refine iL ?_; refine rL (by rw [Tryz.results140]) hl' ?_; simp only [go_sem, ↓reduceIte, aPack, Option.some.injEq, exists_eq_left', f1, f11]) | with_reducible first | refine nS ?_ | refine nD ?_ | refine rS fun bq hbq => ?_ | refine rK ?_ | refine rE ?_ | refine rXx ?_ | refine rR ?_ | refine x2 ?_ | refine x3 ?_ | refine x4 ?_ | refine r2 ?_ | refine r3 ?_ | refine r4 ?_
        intro w2 hw2
        have e2 := fresh_if hw2
        have hw26 := ne_of_new e2.2 m6
        have hw28 := ne_of_new e2.2 m8'
        try dsimp only
        repeat first | ((first | (with_reducible first | refine sS ?_ | refine sA ?_ | refine sC ?_) | (with_reducible refine iT ?_; refine sT rfl ?_) | (with_reducible refine i0 ?_; refine s0 rfl ?_) | (with_reducible refine iO ?_; refine sO rfl ?_)); intro bC bR bU hC hR hU; simp only [go_sem, ↓reduceIte, f8, hw6, hw8, hw26, hw28, m8', e2.1, e2.1.symm, build_term]; subst hC hR hU) | (with_reducible refine rN ?_; subst hbq) | (with_reducible refine iR ?_; refine rG (by simp only [compL, gtOf, nthDst]; exact rfl) ?_) | (with_reducible refine rB fun cq hcq => ?_; subst hcq) | (with_reducible refine x1 ?_; clear hbq bq) | (with_reducible refine r1 ?_; clear hbq bq) | (with_reducible refine x5 ?_ ?_; focus rfl) | (with_reducible refine iL ?_; refine rL (by rw [Tryz.results140]) hl' ?_; simp only [go_sem, ↓reduceIte, aPack, Option.some.injEq, exists_eq_left', f8, hw6, hw8, hw26, hw28, m8', e2.1, e2.1.symm, build_term]) | with_reducible first | refine nS ?_ | refine nD ?_ | refine rS fun bq hbq => ?_ | refine rK ?_ | refine rE ?_ | refine rXx ?_ | refine rR ?_ | refine x2 ?_ | refine x3 ?_ | refine x4 ?_ | refine r2 ?_ | refine r3 ?_ | refine r4 ?_
        refine cAppend_list ?_
        simp only [go_sem, ↓reduceIte]
        intro a ha
        have ea0 := fresh_if ha
        have ea1 := fresh_if ea0.2
        have hg3 : Grow 27 h (upd (upd h2 w (some (.cells (cellsT u) 27))) w2 (some (.cells (cellsT u') 27))) tok := by
          rcases hg with e | ⟨f, ef, hf, hf0⟩
          · exact .inl e
          · exact .inr ⟨f, ef, by rw [upd_other _ _ (ne_of_new e2.2 hf), upd_other _ _ (ne_of_new hw hf)]; exact hf, hf0⟩
        obtain ⟨h4, ea, hg4, hl4, keep⟩ := append_grow el_25 el_25 sz_27 by_27 ze_27 ⟨rfl, by decide⟩ (h0 := h) (h := upd (upd h2 w (some (.cells (cellsT u) 27))) w2 (some (.cells (cellsT u') 27))) (p := a) ((hl'.new (hl'.none hw)).new (hl'.none e2.2)) ha (sz1 := sz) (c1 := encs done) (n1 := i) (t := tok) (c2 := cellsT u') (n2 := 1) (t2 := .full) hg3 hsz0 (sz2 := 4) rfl (by decide) (by omega)
        · have r4 := keep q8 _ _ (by rw [upd_other _ _ hw28, upd_other _ _ hw8]; exact m8')
          have r6 := keep q6 _ _ (by rw [upd_other _ _ hw26, upd_other _ _ hw6]; exact m6)
          simp only [ea, go_sem, ↓reduceIte, f8, r4]
          try dsimp only
          repeat first | ((first | (with_reducible first | refine sS ?_ | refine sA ?_ | refine sC ?_) | (with_reducible refine iT ?_; refine sT rfl ?_) | (with_reducible refine i0 ?_; refine s0 rfl ?_) | (with_reducible refine iO ?_; refine sO rfl ?_)); intro bC bR bU hC hR hU; simp only [go_sem, ↓reduceIte, f8, r4, f62, wrap_in (show -9223372036854775808 ≤ (i : Int) + 1 by omega) (show (i : Int) + 1 ≤ 9223372036854775807 by omega)]; subst hC hR hU) | (with_reducible refine rN ?_; subst hbq) | (with_reducible refine iR ?_; refine rG (by simp only [compL, gtOf, nthDst]; exact rfl) ?_) | (with_reducible refine rB fun cq hcq => ?_; subst hcq) | (with_reducible refine x1 ?_; clear hbq bq) | (with_reducible refine r1 ?_; clear hbq bq) | (with_reducible refine x5 ?_ ?_; focus rfl) | (with_reducible refine iL ?_; refine rL (by rw [Tryz.results140]) hl4 ?_; simp only [go_sem, ↓reduceIte, aPack, Option.some.injEq, exists_eq_left', f8, r4, f62, wrap_in (show -9223372036854775808 ≤ (i : Int) + 1 by omega) (show (i : Int) + 1 ≤ 9223372036854775807 by omega)]) | with_reducible first | refine nS ?_ | refine nD ?_ | refine rS fun bq hbq => ?_ | refine rK ?_ | refine rE ?_ | refine rXx ?_ | refine rR ?_ | refine x2 ?_ | refine x3 ?_ | refine x4 ?_ | refine r2 ?_ | refine r3 ?_ | refine r4 ?_
          refine run_loopN (m := k - 1) (by omega) ⟨i + 1, 4, .id a, done ++ [u'], by omega, by rw [List.length_append, hdl]; rfl, ?_, ?_⟩
          · rw [hdone]
            cases withinL (List.drop (i + 1) t.args) us D with
            | none => rfl
            | some l => simp
          · simp only [go_sem, ↓reduceIte, f1, f6, f7, f8, f11, f60, f61, n8.1, n8.1.symm, r6, encs_app, encs_one]
            refine ⟨rfl, hl4.new m8.2, ?_, by simp⟩
            rcases hg4 with e | ⟨f, ef, hf, hf0⟩
            · rcases e with e | e <;> cases e
            · injection ef with ef; subst ef
              exact .inr ⟨a, rfl, by rw [upd_other _ _ (by intro e; rw [e, r4] at hf; cases hf)]; exact hf, hf0⟩
      · rw [hu', Option.bind_none] at hdone
        rw [hdone] at hn
        try dsimp only
        repeat first | ((first | (with_reducible first | refine sS ?_ | refine sA ?_ | refine sC ?_) | (with_reducible refine iT ?_; refine sT rfl ?_) | (with_reducible refine i0 ?_; refine s0 rfl ?_) | (with_reducible refine iO ?_; refine sO rfl ?_)); intro bC bR bU hC hR hU; simp only [go_sem, ↓reduceIte, f1, f11]; subst hC hR hU) | (with_reducible refine rN ?_; subst hbq) | (with_reducible refine iR ?_; refine rG (by simp only [compL, gtOf, nthDst]; exact rfl) ?_) | (with_reducible refine rB fun cq hcq => ?_; subst hcq) | (with_reducible refine x1 ?_; clear hbq bq) | (with_reducible refine r1 ?_; clear hbq bq) | (with_reducible refine x5 ?_ ?_; focus rfl) | (with_reducible refine iL ?_; refine rL (by rw [Tryz.results140]) hl' ?_; simp only [go_sem, ↓reduceIte, aPack, Option.some.injEq, exists_eq_left', f1, f11]) | with_reducible first | refine nS ?_ | refine nD ?_ | refine rS fun bq hbq => ?_ | refine rK ?_ | refine rE ?_ | refine rXx ?_ | refine rR ?_ | refine x2 ?_ | refine x3 ?_ | refine x4 ?_ | refine r2 ?_ | refine r3 ?_ | refine r4 ?_
        intro w2 hw2
        have e2 := fresh_if hw2
        have hw26 := ne_of_new e2.2 m6
        have hw28 := ne_of_new e2.2 m8'
        try dsimp only
        repeat first | ((first | (with_reducible first | refine sS ?_ | refine sA ?_ | refine sC ?_) | (with_reducible refine iT ?_; refine sT rfl ?_) | (with_reducible refine i0 ?_; refine s0 rfl ?_) | (with_reducible refine iO ?_; refine sO rfl ?_)); intro bC bR bU hC hR hU; simp only [go_sem, ↓reduceIte, f6, f7, f8, hw6, hw8, hw26, hw28, m6, m8', e2.1, e2.1.symm, build_term]; subst hC hR hU) | (with_reducible refine rN ?_; subst hbq) | (with_reducible refine iR ?_; refine rG (by simp only [compL, gtOf, nthDst]; exact rfl) ?_) | (with_reducible refine rB fun cq hcq => ?_; subst hcq) | (with_reducible refine x1 ?_; clear hbq bq) | (with_reducible refine r1 ?_; clear hbq bq) | (with_reducible refine x5 ?_ ?_; focus rfl) | (with_reducible refine iL ?_; refine rL (by rw [Tryz.results140]) hl' ?_; simp only [go_sem, ↓reduceIte, aPack, Option.some.injEq, exists_eq_left', f6, f7, f8, hw6, hw8, hw26, hw28, m6, m8', e2.1, e2.1.symm, build_term]) | with_reducible first | refine nS ?_ | refine nD ?_ | refine rS fun bq hbq => ?_ | refine rK ?_ | refine rE ?_ | refine rXx ?_ | refine rR ?_ | refine x2 ?_ | refine x3 ?_ | refine x4 ?_ | refine r2 ?_ | refine r3 ?_ | refine r4 ?_
        refine last_as (v := .tuple [enc ⟨r.1, r.2, t.name, done⟩, .bool false]) (by rw [Tryz.results140]) (((hl'.new (hl'.none hw)).new (hl'.none e2.2)).new n68.2) ?_ (hn rfl _)
        simp only [go_sem, ↓reduceIte, f6, f7, aPack, Option.some.injEq, exists_eq_left']
        exact LeAV.tuple (.cons (LeAV.agg (.cons (LeAV.refl _) (.cons (LeAV.refl _) (.cons (LeAV.refl _) (.cons (le_list hdl hsz0) .nil))))) (.cons (LeAV.refl _) .nil))
    · have hnil : t.args.drop i = [] := List.drop_eq_nil_of_le (by omega)
      rw [hnil, withinL, Option.map_some, List.append_nil] at hdone
      rw [hdone] at hq
      try dsimp only
      repeat first | ((first | (with_reducible first | refine sS ?_ | refine sA ?_ | refine sC ?_) | (with_reducible refine iT ?_; refine sT rfl ?_) | (with_reducible refine i0 ?_; refine s0 rfl ?_) | (with_reducible refine iO ?_; refine sO rfl ?_)); intro bC bR bU hC hR hU; simp only [go_sem, ↓reduceIte, f6, f7, f8, f60, f61, f62, hi, m6, m8', n8.1, n8.1.symm]; subst hC hR hU) | (with_reducible refine rN ?_; subst hbq) | (with_reducible refine iR ?_; refine rG (by simp only [compL, gtOf, nthDst]; exact rfl) ?_) | (with_reducible refine rB fun cq hcq => ?_; subst hcq) | (with_reducible refine x1 ?_; clear hbq bq) | (with_reducible refine r1 ?_; clear hbq bq) | (with_reducible refine x5 ?_ ?_; focus rfl) | (with_reducible refine iL ?_; refine rL (by rw [Tryz.results140]) hl' ?_; simp only [go_sem, ↓reduceIte, aPack, Option.some.injEq, exists_eq_left', f6, f7, f8, f60, f61, f62, hi, m6, m8', n8.1, n8.1.symm]) | with_reducible first | refine nS ?_ | refine nD ?_ | refine rS fun bq hbq => ?_ | refine rK ?_ | refine rE ?_ | refine rXx ?_ | refine rR ?_ | refine x2 ?_ | refine x3 ?_ | refine x4 ?_ | refine r2 ?_ | refine r3 ?_ | refine r4 ?_
      refine last_as (v := .tuple [enc ⟨r.1, r.2, t.name, done⟩, .bool true]) (by rw [Tryz.results140]) (hl'.new n68.2) ?_ (hq _ rfl)
      simp only [go_sem, ↓reduceIte, f6, f7, aPack, Option.some.injEq, exists_eq_left']
      exact LeAV.tuple (.cons (LeAV.agg (.cons (LeAV.refl _) (.cons (LeAV.refl _) (.cons (LeAV.refl _) (.cons (le_list hdl hsz0) .nil))))) (.cons (LeAV.refl _) .nil))
/- Closed. -/


def cNew (us : List Term) (d i : Int) : Int := d + us.length - 1 - i
def cHead (k n : Int) (us : List Term) (d : Int) : Option (Int × Int) :=
  if k == 2 && decide (n ≥ d) then (if decide (wIdx 2 (IntKind.i64.wrap (n - d)) us < 0) then none else some (k, cNew us d (wIdx 2 (IntKind.i64.wrap (n - d)) us)))
  else if k == 3 && decide (wIdx k n us ≥ 0) then some (2, cNew us d (wIdx k n us)) else some (k, n)
mutual
def closedF : Term → List Term → Int → Option Term
  | ⟨k, n, s, l⟩, us, d => (cHead k n us d).bind fun r => (closedL l us (inner k d)).map fun l' => ⟨r.1, r.2, s, l'⟩
def closedL : List Term → List Term → Int → Option (List Term)
  | [], _, _ => some []
  | t :: ts, us, d => (closedF t us d).bind fun t' => (closedL ts us d).map fun ts' => t' :: ts'
end
theorem closedF_eq (t : Term) (us : List Term) (d : Int) : closedF t us d = (cHead t.kind t.n us d).bind fun r => (closedL t.args us (inner t.kind d)).map fun l' => ⟨r.1, r.2, t.name, l'⟩ := by
  obtain ⟨k, n, s, l⟩ := t
  rw [closedF]
theorem cNew_step (us : List Term) (d i : Int) (hd0 : 0 ≤ d) (hd1 : d ≤ 1000000000) (hus : us.length ≤ 1000000000) (hi : -1 ≤ i) (hi2 : i < us.length + 1) :
    IntKind.i64.wrap (IntKind.i64.wrap (IntKind.i64.wrap (d + us.length) - 1) - i) = cNew us d i := by
  rw [wrap_in (a := d + us.length) (by omega) (by omega), wrap_in (a := d + us.length - 1) (by omega) (by omega), wrap_in (by omega) (by omega)]
  rfl
theorem build27_0 : aBuild Tryz.prog 27 [] = some (.agg [.int .i64 0, .int .i64 0, .str noName, .list 0 [] 0 .nil]) := by
  simp only [aBuild, ze_27, pl_27, aFill]
  rfl
theorem build27_2 (k n : Int) : aBuild Tryz.prog 27 [(0, .int .i64 k), (1, .int .i64 n)] = some (.agg [.int .i64 k, .int .i64 n, .str noName, .list 0 [] 0 .nil]) := by
  simp only [aBuild, ze_27, pl_27, aFill]
  rfl
theorem build27_3 (k n : Int) (s : ByteArray) : aBuild Tryz.prog 27 [(0, .int .i64 k), (1, .int .i64 n), (2, .str s)] = some (.agg [.int .i64 k, .int .i64 n, .str s, .list 0 [] 0 .nil]) := by
  simp only [aBuild, ze_27, pl_27, aFill]
  rfl
theorem closed_am : ∀ (s : Nat) (t : Term) (us : List Term) (d : Int) (h : AHeap) (Q : AOut → AHeap → Prop), t.size ≤ s → 0 ≤ d → d + t.size ≤ 1000000000 → us.length ≤ 1000000000 →
    (∀ t', closedF t us d = some t' → Q (.ret (.tuple [enc t', .bool true])) h) → (closedF t us d = none → ∀ t0, Q (.ret (.tuple [enc t0, .bool false])) h) → AmCalls Tryz.prog 141 [enc t, .list 4 (encs us) us.length .none, .int .i64 d] h Q := by
  intro s
  induction s with
  | zero => intro t us d h Q ht; obtain ⟨a, b, c, l⟩ := t; rw [Term.size] at ht; omega
  | succ s ih =>
    intro t us d h Q ht hd0 hd1 hus hq hn
    have hlen := length_args t
    rw [closedF_eq] at hq hn
    refine AmCalls.of_sem (fn := Tryz.f141) Tryz.func141 rfl (by kernel_rfl) (by rw [Tryz.ntmps141]; simp) (enters_of Tryz.func141 (by kernel_rfl) (by kernel_rfl)) ?_
    try dsimp only
    repeat first | ((first | (with_reducible first | refine sS ?_ | refine sA ?_ | refine sC ?_) | (with_reducible refine iT ?_; refine sT rfl ?_) | (with_reducible refine i0 ?_; refine s0 rfl ?_) | (with_reducible refine iO ?_; refine sO rfl ?_)); intro bC bR bU hC hR hU; simp only [go_sem, ↓reduceIte]; subst hC hR hU) | (with_reducible refine rN ?_; subst hbq) | (with_reducible refine iR ?_; refine rG (by simp only [compL, gtOf, nthDst]; exact rfl) ?_) | (with_reducible refine rB fun cq hcq => ?_; subst hcq) | (with_reducible refine x1 ?_; clear hbq bq) | (with_reducible refine r1 ?_; clear hbq bq) | (with_reducible refine x5 ?_ ?_; focus rfl) | (with_reducible refine iL ?_; refine rL (by rw [Tryz.results141]) (HLess.refl _) ?_; simp only [go_sem, ↓reduceIte, aPack, Option.some.injEq, exists_eq_left']) | with_reducible first | refine nS ?_ | refine nD ?_ | refine rS fun bq hbq => ?_ | refine rK ?_ | refine rE ?_ | refine rXx ?_ | refine rR ?_ | refine x2 ?_ | refine x3 ?_ | refine x4 ?_ | refine r2 ?_ | refine r3 ?_ | refine r4 ?_
    intro p hp
    try dsimp only
    repeat first | ((first | (with_reducible first | refine sS ?_ | refine sA ?_ | refine sC ?_) | (with_reducible refine iT ?_; refine sT rfl ?_) | (with_reducible refine i0 ?_; refine s0 rfl ?_) | (with_reducible refine iO ?_; refine sO rfl ?_)); intro bC bR bU hC hR hU; simp only [go_sem, ↓reduceIte]; subst hC hR hU) | (with_reducible refine rN ?_; subst hbq) | (with_reducible refine iR ?_; refine rG (by simp only [compL, gtOf, nthDst]; exact rfl) ?_) | (with_reducible refine rB fun cq hcq => ?_; subst hcq) | (with_reducible refine x1 ?_; clear hbq bq) | (with_reducible refine r1 ?_; clear hbq bq) | (with_reducible refine x5 ?_ ?_; focus rfl) | (with_reducible refine iL ?_; refine rL (by rw [Tryz.results141]) (HLess.refl _) ?_; simp only [go_sem, ↓reduceIte, aPack, Option.some.injEq, exists_eq_left']) | with_reducible first | refine nS ?_ | refine nD ?_ | refine rS fun bq hbq => ?_ | refine rK ?_ | refine rE ?_ | refine rXx ?_ | refine rR ?_ | refine x2 ?_ | refine x3 ?_ | refine x4 ?_ | refine r2 ?_ | refine r3 ?_ | refine r4 ?_
    intro q6 h6
    have n68 := fresh_if h6
    try dsimp only
    repeat first | ((first | (with_reducible first | refine sS ?_ | refine sA ?_ | refine sC ?_) | (with_reducible refine iT ?_; refine sT rfl ?_) | (with_reducible refine i0 ?_; refine s0 rfl ?_) | (with_reducible refine iO ?_; refine sO rfl ?_)); intro bC bR bU hC hR hU; simp only [go_sem, ↓reduceIte, n68.1, n68.1.symm, build27_3]; subst hC hR hU) | (with_reducible refine rN ?_; subst hbq) | (with_reducible refine iR ?_; refine rG (by simp only [compL, gtOf, nthDst]; exact rfl) ?_) | (with_reducible refine rB fun cq hcq => ?_; subst hcq) | (with_reducible refine x1 ?_; clear hbq bq) | (with_reducible refine r1 ?_; clear hbq bq) | (with_reducible refine x5 ?_ ?_; focus rfl) | (with_reducible refine iL ?_; refine rL (by rw [Tryz.results141]) (HLess.refl _) ?_; simp only [go_sem, ↓reduceIte, aPack, Option.some.injEq, exists_eq_left', n68.1, n68.1.symm, build27_3]) | with_reducible first | refine nS ?_ | refine nD ?_ | refine rS fun bq hbq => ?_ | refine rK ?_ | refine rE ?_ | refine rXx ?_ | refine rR ?_ | refine x2 ?_ | refine x3 ?_ | refine x4 ?_ | refine r2 ?_ | refine r3 ?_ | refine r4 ?_
    intro q8 h8
    have n8 := fresh_if h8
    have m8 := fresh_if n8.2
    try dsimp only
    repeat first | ((first | (with_reducible first | refine sS ?_ | refine sA ?_) | (with_reducible refine iT ?_; refine sT rfl ?_) | (with_reducible refine i0 ?_; refine s0 rfl ?_) | (with_reducible refine iO ?_; refine sO rfl ?_)); intro bC bR bU hC hR hU; simp only [go_sem, ↓reduceIte, n68.1, n68.1.symm, n8.1, n8.1.symm, m8.1, m8.1.symm]; subst hC hR hU) | with_reducible first | refine nS ?_ | refine nD ?_
    refine run_next ?_; subst hbq
    repeat with_reducible refine run_seq fun bq hbq => ?_
    refine run_cutS (fun τ h' => τ 1 = .list 4 (encs us) us.length .none ∧ τ 2 = .int .i64 d ∧ τ 3 = .ptr p 0 ∧ τ 6 = .ptr q6 0 ∧ τ 7 = .bool false ∧ τ 8 = .ptr q8 0 ∧ τ 30 = .bool (t.kind == 2 && decide (t.n ≥ d)) ∧ HLess h' h ∧ h' p = some (.cells (cellsT t) 27) ∧ h' q6 = some (.cells [.int .i64 0, .int .i64 0, .str noName, .list 0 [] 0 .nil] 27) ∧ h' q8 = some (.cells [.int .i64 t.kind, .int .i64 t.n, .str t.name, .list 0 [] 0 .nil] 27)) ?_ fun τ h' hI => ?_
    · cases k2 : (t.kind == 2)
      all_goals
        try dsimp only
        repeat first | ((first | (with_reducible first | refine sS ?_ | refine sA ?_ | refine sC ?_) | (with_reducible refine iT ?_; refine sT rfl ?_) | (with_reducible refine i0 ?_; refine s0 rfl ?_) | (with_reducible refine iO ?_; refine sO rfl ?_)); intro bC bR bU hC hR hU; simp only [go_sem, ↓reduceIte, n68.1, n68.1.symm, n8.1, n8.1.symm, m8.1, m8.1.symm, k2]; subst hC hR hU) | (with_reducible refine rN ?_; subst hbq) | (with_reducible refine iR ?_; refine rG (by simp only [compL, gtOf, nthDst]; exact rfl) ?_) | (with_reducible refine rB fun cq hcq => ?_; subst hcq) | (with_reducible refine x1 ?_; clear hbq bq) | (with_reducible refine r1 ?_; clear hbq bq) | (with_reducible refine x5 ?_ ?_; focus rfl) | (with_reducible refine iL ?_; refine rL (by rw [Tryz.results141]) (HLess.refl _) ?_; simp only [go_sem, ↓reduceIte, aPack, Option.some.injEq, exists_eq_left', n68.1, n68.1.symm, n8.1, n8.1.symm, m8.1, m8.1.symm, k2]) | with_reducible first | refine nS ?_ | refine nD ?_ | refine rS fun bq hbq => ?_ | refine rK ?_ | refine rE ?_ | refine rXx ?_ | refine rR ?_ | refine x2 ?_ | refine x3 ?_ | refine x4 ?_ | refine r2 ?_ | refine r3 ?_ | refine r4 ?_
        refine run_endcut ?_
        simp only [go_sem, ↓reduceIte, n68.1, n68.1.symm, n8.1, n8.1.symm, m8.1, m8.1.symm, k2]
        first
        | exact (((HLess.refl h).new hp).new n68.2 |>.new m8.2)
        | exact (((HLess.refl h).new hp).new n68.2 |>.new m8.2 |>.new m8.2)
        | trace_state
    obtain ⟨f1, f2, f3, f6, f7, f8, f30, hl', lp, l6, l8⟩ := hI
    subst hbq
    repeat with_reducible refine run_seq fun bq hbq => ?_
    refine run_cutS (fun τ h' => ∃ r, cHead t.kind t.n us d = (if t.kind == 3 && decide (wIdx t.kind t.n us ≥ 0) then some (2, cNew us d (wIdx t.kind t.n us)) else some r) ∧ ((t.kind == 3) = true → r = (t.kind, t.n)) ∧ τ 1 = .list 4 (encs us) us.length .none ∧ τ 2 = .int .i64 d ∧ τ 3 = .ptr p 0 ∧ τ 6 = .ptr q6 0 ∧ τ 7 = .bool false ∧ τ 8 = .ptr q8 0 ∧ HLess h' h ∧ h' p = some (.cells (cellsT t) 27) ∧ h' q6 = some (.cells [.int .i64 0, .int .i64 0, .str noName, .list 0 [] 0 .nil] 27) ∧ h' q8 = some (.cells [.int .i64 r.1, .int .i64 r.2, .str t.name, .list 0 [] 0 .nil] 27)) ?_ fun τ h' hI => ?_
    · cases hv : (t.kind == 2 && decide (t.n ≥ d))
      · rw [hv] at f30
        try dsimp only
        repeat first | ((first | (with_reducible first | refine sS ?_ | refine sA ?_ | refine sC ?_) | (with_reducible refine iT ?_; refine sT rfl ?_) | (with_reducible refine i0 ?_; refine s0 rfl ?_) | (with_reducible refine iO ?_; refine sO rfl ?_)); intro bC bR bU hC hR hU; simp only [go_sem, ↓reduceIte, f30]; subst hC hR hU) | (with_reducible refine rN ?_; subst hbq) | (with_reducible refine iR ?_; refine rG (by simp only [compL, gtOf, nthDst]; exact rfl) ?_) | (with_reducible refine rB fun cq hcq => ?_; subst hcq) | (with_reducible refine x1 ?_; clear hbq bq) | (with_reducible refine r1 ?_; clear hbq bq) | (with_reducible refine x5 ?_ ?_; focus rfl) | (with_reducible refine iL ?_; refine rL (by rw [Tryz.results141]) hl' ?_; simp only [go_sem, ↓reduceIte, aPack, Option.some.injEq, exists_eq_left', f30]) | with_reducible first | refine nS ?_ | refine nD ?_ | refine rS fun bq hbq => ?_ | refine rK ?_ | refine rE ?_ | refine rXx ?_ | refine rR ?_ | refine x2 ?_ | refine x3 ?_ | refine x4 ?_ | refine r2 ?_ | refine r3 ?_ | refine r4 ?_
        refine run_endcut ?_
        refine ⟨(t.kind, t.n), by simp only [cHead, hv]; rfl, fun _ => rfl, f1, f2, f3, f6, f7, f8, hl', lp, l6, l8⟩
      · rw [hv] at f30
        have hk2 := (Bool.and_eq_true_iff.1 hv).1
        have hk3 : (t.kind == 3) = false := by simp only [beq_iff_eq] at hk2; rw [hk2]; rfl
        generalize hN : IntKind.i64.wrap (t.n - d) = N
        try dsimp only
        repeat first | ((first | (with_reducible first | refine sS ?_ | refine sA ?_ | refine sC ?_) | (with_reducible refine iT ?_; refine sT rfl ?_) | (with_reducible refine i0 ?_; refine s0 rfl ?_) | (with_reducible refine iO ?_; refine sO rfl ?_)); intro bC bR bU hC hR hU; simp only [go_sem, ↓reduceIte, f1, f2, f3, f30, lp, hN, build27_2]; subst hC hR hU) | (with_reducible refine rN ?_; subst hbq) | (with_reducible refine iR ?_; refine rG (by simp only [compL, gtOf, nthDst]; exact rfl) ?_) | (with_reducible refine rB fun cq hcq => ?_; subst hcq) | (with_reducible refine x1 ?_; clear hbq bq) | (with_reducible refine r1 ?_; clear hbq bq) | (with_reducible refine x5 ?_ ?_; focus rfl) | (with_reducible refine iL ?_; refine rL (by rw [Tryz.results141]) hl' ?_; simp only [go_sem, ↓reduceIte, aPack, Option.some.injEq, exists_eq_left', f1, f2, f3, f30, lp, hN, build27_2]) | with_reducible first | refine nS ?_ | refine nD ?_ | refine rS fun bq hbq => ?_ | refine rK ?_ | refine rE ?_ | refine rXx ?_ | refine rR ?_ | refine x2 ?_ | refine x3 ?_ | refine x4 ?_ | refine r2 ?_ | refine r3 ?_ | refine r4 ?_
        refine AmCalls.args (args' := [.list 4 (encs us) us.length .none, enc ⟨2, N, noName, []⟩]) ?_ (at_am us ⟨2, N, noName, []⟩ _ _ hus ?_)
        · refine .cons (LeAV.refl _) (.cons (LeAV.agg (.cons (LeAV.refl _) (.cons (LeAV.refl _) (.cons (LeAV.refl _) (.cons ?_ .nil))))) .nil)
          rw [encs_nil]
          exact LeAV.nil _ _ _
        · have hidx : indexF (fun u => isF u ⟨2, N, noName, []⟩) us 0 = wIdx 2 N us := rfl
          have hrg : -1 ≤ wIdx 2 N us ∧ wIdx 2 N us < us.length + 1 := by
            have := indexF_range (fun a : Term => a.kind == 2 && a.n == N) us 0 (by decide)
            unfold wIdx; omega
          cases hw : decide (wIdx 2 N us < 0)
          · try dsimp only
            repeat first | ((first | (with_reducible first | refine sS ?_ | refine sA ?_ | refine sC ?_) | (with_reducible refine iT ?_; refine sT rfl ?_) | (with_reducible refine i0 ?_; refine s0 rfl ?_) | (with_reducible refine iO ?_; refine sO rfl ?_)); intro bC bR bU hC hR hU; simp only [go_sem, ↓reduceIte, f1, f2, f8, hidx, hw, l8, cNew_step us d (wIdx 2 N us) hd0 (by omega) hus hrg.1 hrg.2]; subst hC hR hU) | (with_reducible refine rN ?_; subst hbq) | (with_reducible refine iR ?_; refine rG (by simp only [compL, gtOf, nthDst]; exact rfl) ?_) | (with_reducible refine rB fun cq hcq => ?_; subst hcq) | (with_reducible refine x1 ?_; clear hbq bq) | (with_reducible refine r1 ?_; clear hbq bq) | (with_reducible refine x5 ?_ ?_; focus rfl) | (with_reducible refine iL ?_; refine rL (by rw [Tryz.results141]) hl' ?_; simp only [go_sem, ↓reduceIte, aPack, Option.some.injEq, exists_eq_left', f1, f2, f8, hidx, hw, l8, cNew_step us d (wIdx 2 N us) hd0 (by omega) hus hrg.1 hrg.2]) | with_reducible first | refine nS ?_ | refine nD ?_ | refine rS fun bq hbq => ?_ | refine rK ?_ | refine rE ?_ | refine rXx ?_ | refine rR ?_ | refine x2 ?_ | refine x3 ?_ | refine x4 ?_ | refine r2 ?_ | refine r3 ?_ | refine r4 ?_
            refine run_endcut ?_
            refine ⟨(t.kind, cNew us d (wIdx 2 N us)), by simp only [cHead, hv, hN, hw, hk3]; rfl, fun h => (by rw [hk3] at h; cases h), ?_⟩
            simp only [go_sem, ↓reduceIte, f1, f2, f3, f6, f7, f8, n68.1, n68.1.symm, n8.1, n8.1.symm, m8.1, m8.1.symm, lp, l6]
            exact hl'.new m8.2
          · have hno : cHead t.kind t.n us d = none := by simp only [cHead, hv, hN, hw]; rfl
            rw [hno] at hn
            try dsimp only
            repeat first | ((first | (with_reducible first | refine sS ?_ | refine sA ?_ | refine sC ?_) | (with_reducible refine iT ?_; refine sT rfl ?_) | (with_reducible refine i0 ?_; refine s0 rfl ?_) | (with_reducible refine iO ?_; refine sO rfl ?_)); intro bC bR bU hC hR hU; simp only [go_sem, ↓reduceIte, f1, f2, f6, f8, hidx, hw, l6, build27_0]; subst hC hR hU) | (with_reducible refine rN ?_; subst hbq) | (with_reducible refine iR ?_; refine rG (by simp only [compL, gtOf, nthDst]; exact rfl) ?_) | (with_reducible refine rB fun cq hcq => ?_; subst hcq) | (with_reducible refine x1 ?_; clear hbq bq) | (with_reducible refine r1 ?_; clear hbq bq) | (with_reducible refine x5 ?_ ?_; focus rfl) | (with_reducible refine iL ?_; refine rL (by rw [Tryz.results141]) hl' ?_; simp only [go_sem, ↓reduceIte, aPack, Option.some.injEq, exists_eq_left', f1, f2, f6, f8, hidx, hw, l6, build27_0]) | with_reducible first | refine nS ?_ | refine nD ?_ | refine rS fun bq hbq => ?_ | refine rK ?_ | refine rE ?_ | refine rXx ?_ | refine rR ?_ | refine x2 ?_ | refine x3 ?_ | refine x4 ?_ | refine r2 ?_ | refine r3 ?_ | refine r4 ?_
            refine last_as (v := .tuple [enc ⟨0, 0, noName, []⟩, .bool false]) (by rw [Tryz.results141]) (hl'.new n68.2) ?_ (hn rfl _)
            simp only [go_sem, ↓reduceIte, f6, f7, aPack, Option.some.injEq, exists_eq_left']
            refine LeAV.tuple (.cons (LeAV.agg (.cons (LeAV.refl _) (.cons (LeAV.refl _) (.cons (LeAV.refl _) (.cons ?_ .nil))))) (.cons (LeAV.refl _) .nil))
            rw [encs_nil]
            exact LeAV.nil _ _ _
    clear f1 f2 f3 f6 f7 f8 f30 hl' lp l6 l8
    obtain ⟨r0, hr0, hr3, f1, f2, f3, f6, f7, f8, hl', lp, l6, l8⟩ := hI
    subst hbq
    refine run_cut (fun τ h' => ∃ r, cHead t.kind t.n us d = some r ∧ τ 1 = .list 4 (encs us) us.length .none ∧ τ 2 = .int .i64 d ∧ τ 3 = .ptr p 0 ∧ τ 6 = .ptr q6 0 ∧ τ 7 = .bool false ∧ τ 8 = .ptr q8 0 ∧ HLess h' h ∧ h' p = some (.cells (cellsT t) 27) ∧ h' q6 = some (.cells [.int .i64 0, .int .i64 0, .str noName, .list 0 [] 0 .nil] 27) ∧ h' q8 = some (.cells [.int .i64 r.1, .int .i64 r.2, .str t.name, .list 0 [] 0 .nil] 27)) ?_ fun bq hbq τ h' hI => ?_
    · cases hk3 : (t.kind == 3)
      · rw [hk3, Bool.false_and] at hr0
        try dsimp only
        repeat first | ((first | (with_reducible first | refine sS ?_ | refine sA ?_ | refine sC ?_) | (with_reducible refine iT ?_; refine sT rfl ?_) | (with_reducible refine i0 ?_; refine s0 rfl ?_) | (with_reducible refine iO ?_; refine sO rfl ?_)); intro bC bR bU hC hR hU; simp only [go_sem, ↓reduceIte, f3, lp, hk3]; subst hC hR hU) | (with_reducible refine rN ?_; subst hbq) | (with_reducible refine iR ?_; refine rG (by simp only [compL, gtOf, nthDst]; exact rfl) ?_) | (with_reducible refine rB fun cq hcq => ?_; subst hcq) | (with_reducible refine x1 ?_; clear hbq bq) | (with_reducible refine r1 ?_; clear hbq bq) | (with_reducible refine x5 ?_ ?_; focus rfl) | (with_reducible refine iL ?_; refine rL (by rw [Tryz.results141]) hl' ?_; simp only [go_sem, ↓reduceIte, aPack, Option.some.injEq, exists_eq_left', f3, lp, hk3]) | with_reducible first | refine nS ?_ | refine nD ?_ | refine rS fun bq hbq => ?_ | refine rK ?_ | refine rE ?_ | refine rXx ?_ | refine rR ?_ | refine x2 ?_ | refine x3 ?_ | refine x4 ?_ | refine r2 ?_ | refine r3 ?_ | refine r4 ?_
        refine run_endcut ?_
        refine ⟨r0, hr0, ?_⟩
        simp only [go_sem, ↓reduceIte, f1, f2, f3, f6, f7, f8]
        exact ⟨hl', lp, l6, l8⟩
      · rw [hk3, Bool.true_and] at hr0
        have hr3 := hr3 hk3
        subst hr3
        try dsimp only
        repeat first | ((first | (with_reducible first | refine sS ?_ | refine sA ?_ | refine sC ?_) | (with_reducible refine iT ?_; refine sT rfl ?_) | (with_reducible refine i0 ?_; refine s0 rfl ?_) | (with_reducible refine iO ?_; refine sO rfl ?_)); intro bC bR bU hC hR hU; simp only [go_sem, ↓reduceIte, f1, f3, lp, hk3]; subst hC hR hU) | (with_reducible refine rN ?_; subst hbq) | (with_reducible refine iR ?_; refine rG (by simp only [compL, gtOf, nthDst]; exact rfl) ?_) | (with_reducible refine rB fun cq hcq => ?_; subst hcq) | (with_reducible refine x1 ?_; clear hbq bq) | (with_reducible refine r1 ?_; clear hbq bq) | (with_reducible refine x5 ?_ ?_; focus rfl) | (with_reducible refine iL ?_; refine rL (by rw [Tryz.results141]) hl' ?_; simp only [go_sem, ↓reduceIte, aPack, Option.some.injEq, exists_eq_left', f1, f3, lp, hk3]) | with_reducible first | refine nS ?_ | refine nD ?_ | refine rS fun bq hbq => ?_ | refine rK ?_ | refine rE ?_ | refine rXx ?_ | refine rR ?_ | refine x2 ?_ | refine x3 ?_ | refine x4 ?_ | refine r2 ?_ | refine r3 ?_ | refine r4 ?_
        refine at_am us t _ _ hus ?_
        have hidx : indexF (fun u => isF u t) us 0 = wIdx t.kind t.n us := rfl
        have hrg : -1 ≤ wIdx t.kind t.n us ∧ wIdx t.kind t.n us < us.length + 1 := by
          have := indexF_range (fun a : Term => a.kind == t.kind && a.n == t.n) us 0 (by decide)
          unfold wIdx; omega
        cases hw : decide (wIdx t.kind t.n us ≥ 0)
        · rw [hw] at hr0
          try dsimp only
          repeat first | ((first | (with_reducible first | refine sS ?_ | refine sA ?_ | refine sC ?_) | (with_reducible refine iT ?_; refine sT rfl ?_) | (with_reducible refine i0 ?_; refine s0 rfl ?_) | (with_reducible refine iO ?_; refine sO rfl ?_)); intro bC bR bU hC hR hU; simp only [go_sem, ↓reduceIte, hidx, hw]; subst hC hR hU) | (with_reducible refine rN ?_; subst hbq) | (with_reducible refine iR ?_; refine rG (by simp only [compL, gtOf, nthDst]; exact rfl) ?_) | (with_reducible refine rB fun cq hcq => ?_; subst hcq) | (with_reducible refine x1 ?_; clear hbq bq) | (with_reducible refine r1 ?_; clear hbq bq) | (with_reducible refine x5 ?_ ?_; focus rfl) | (with_reducible refine iL ?_; refine rL (by rw [Tryz.results141]) hl' ?_; simp only [go_sem, ↓reduceIte, aPack, Option.some.injEq, exists_eq_left', hidx, hw]) | with_reducible first | refine nS ?_ | refine nD ?_ | refine rS fun bq hbq => ?_ | refine rK ?_ | refine rE ?_ | refine rXx ?_ | refine rR ?_ | refine x2 ?_ | refine x3 ?_ | refine x4 ?_ | refine r2 ?_ | refine r3 ?_ | refine r4 ?_
          refine run_endcut ?_
          refine ⟨(t.kind, t.n), hr0, ?_⟩
          simp only [go_sem, ↓reduceIte, f1, f2, f3, f6, f7, f8]
          exact ⟨hl', lp, l6, l8⟩
        · rw [hw] at hr0
          try dsimp only
          repeat first | ((first | (with_reducible first | refine sS ?_ | refine sA ?_ | refine sC ?_) | (with_reducible refine iT ?_; refine sT rfl ?_) | (with_reducible refine i0 ?_; refine s0 rfl ?_) | (with_reducible refine iO ?_; refine sO rfl ?_)); intro bC bR bU hC hR hU; simp only [go_sem, ↓reduceIte, f1, f2, f8, hidx, hw, l8, cNew_step us d (wIdx t.kind t.n us) hd0 (by omega) hus hrg.1 hrg.2]; subst hC hR hU) | (with_reducible refine rN ?_; subst hbq) | (with_reducible refine iR ?_; refine rG (by simp only [compL, gtOf, nthDst]; exact rfl) ?_) | (with_reducible refine rB fun cq hcq => ?_; subst hcq) | (with_reducible refine x1 ?_; clear hbq bq) | (with_reducible refine r1 ?_; clear hbq bq) | (with_reducible refine x5 ?_ ?_; focus rfl) | (with_reducible refine iL ?_; refine rL (by rw [Tryz.results141]) hl' ?_; simp only [go_sem, ↓reduceIte, aPack, Option.some.injEq, exists_eq_left', f1, f2, f8, hidx, hw, l8, cNew_step us d (wIdx t.kind t.n us) hd0 (by omega) hus hrg.1 hrg.2]) | with_reducible first | refine nS ?_ | refine nD ?_ | refine rS fun bq hbq => ?_ | refine rK ?_ | refine rE ?_ | refine rXx ?_ | refine rR ?_ | refine x2 ?_ | refine x3 ?_ | refine x4 ?_ | refine r2 ?_ | refine r3 ?_ | refine r4 ?_
          refine run_endcut ?_
          refine ⟨_, hr0, ?_⟩
          simp only [go_sem, ↓reduceIte, f1, f2, f3, f6, f7, f8, n68.1, n68.1.symm, n8.1, n8.1.symm, m8.1, m8.1.symm, lp, l6]
          exact hl'.new m8.2
    clear f1 f2 f3 f6 f7 f8 hl' lp l6 l8 hr0 hr3
    obtain ⟨r, hr, f1, f2, f3, f6, f7, f8, hl', lp, l6, l8⟩ := hI
    subst hbq
    rw [hr] at hq hn
    simp only [Option.bind_some] at hq hn
    generalize hD : inner t.kind d = D at hq hn
    have hDb : 0 ≤ D ∧ D ≤ d + 1 := by rw [← hD]; unfold inner; split <;> omega
    repeat with_reducible refine run_seq fun bq hbq => ?_
    refine run_region (by simp only [compL, gtOf, nthDst]; exact rfl) ?_
    try dsimp only
    repeat first | ((first | (with_reducible first | refine sS ?_ | refine sA ?_) | (with_reducible refine iT ?_; refine sT rfl ?_) | (with_reducible refine i0 ?_; refine s0 rfl ?_) | (with_reducible refine iO ?_; refine sO rfl ?_)); intro bC bR bU hC hR hU; simp only [go_sem, ↓reduceIte, f2]; subst hC hR hU) | with_reducible first | refine nS ?_ | refine nD ?_
    refine run_next ?_; subst hbq
    refine run_cut (fun τ h' => τ 1 = .list 4 (encs us) us.length .none ∧ τ 3 = .ptr p 0 ∧ τ 6 = .ptr q6 0 ∧ τ 7 = .bool false ∧ τ 8 = .ptr q8 0 ∧ τ 11 = .int .i64 D ∧ HLess h' h ∧ h' p = some (.cells (cellsT t) 27) ∧ h' q6 = some (.cells [.int .i64 0, .int .i64 0, .str noName, .list 0 [] 0 .nil] 27) ∧ h' q8 = some (.cells [.int .i64 r.1, .int .i64 r.2, .str t.name, .list 0 [] 0 .nil] 27)) ?_ fun bq hbq τ h' hI => ?_
    · cases k5 : (t.kind == 5)
      · have hdd : D = d := by rw [← hD]; simp only [inner, k5]; rfl
        try dsimp only
        repeat first | ((first | (with_reducible first | refine sS ?_ | refine sA ?_ | refine sC ?_) | (with_reducible refine iT ?_; refine sT rfl ?_) | (with_reducible refine i0 ?_; refine s0 rfl ?_) | (with_reducible refine iO ?_; refine sO rfl ?_)); intro bC bR bU hC hR hU; simp only [go_sem, ↓reduceIte, f2, f3, lp, k5]; subst hC hR hU) | (with_reducible refine rN ?_; subst hbq) | (with_reducible refine iR ?_; refine rG (by simp only [compL, gtOf, nthDst]; exact rfl) ?_) | (with_reducible refine rB fun cq hcq => ?_; subst hcq) | (with_reducible refine x1 ?_; clear hbq bq) | (with_reducible refine r1 ?_; clear hbq bq) | (with_reducible refine x5 ?_ ?_; focus rfl) | (with_reducible refine iL ?_; refine rL (by rw [Tryz.results141]) hl' ?_; simp only [go_sem, ↓reduceIte, aPack, Option.some.injEq, exists_eq_left', f2, f3, lp, k5]) | with_reducible first | refine nS ?_ | refine nD ?_ | refine rS fun bq hbq => ?_ | refine rK ?_ | refine rE ?_ | refine rXx ?_ | refine rR ?_ | refine x2 ?_ | refine x3 ?_ | refine x4 ?_ | refine r2 ?_ | refine r3 ?_ | refine r4 ?_
        refine run_endcut ?_
        simp only [go_sem, ↓reduceIte, f1, f3, f6, f7, f8, hdd]
        exact ⟨hl', lp, l6, l8⟩
      · have hdd : D = d + 1 := by rw [← hD]; simp only [inner, k5]; rfl
        try dsimp only
        repeat first | ((first | (with_reducible first | refine sS ?_ | refine sA ?_ | refine sC ?_) | (with_reducible refine iT ?_; refine sT rfl ?_) | (with_reducible refine i0 ?_; refine s0 rfl ?_) | (with_reducible refine iO ?_; refine sO rfl ?_)); intro bC bR bU hC hR hU; simp only [go_sem, ↓reduceIte, f2, f3, lp, k5, wrap_in (show -9223372036854775808 ≤ d + 1 by omega) (show d + 1 ≤ 9223372036854775807 by omega)]; subst hC hR hU) | (with_reducible refine rN ?_; subst hbq) | (with_reducible refine iR ?_; refine rG (by simp only [compL, gtOf, nthDst]; exact rfl) ?_) | (with_reducible refine rB fun cq hcq => ?_; subst hcq) | (with_reducible refine x1 ?_; clear hbq bq) | (with_reducible refine r1 ?_; clear hbq bq) | (with_reducible refine x5 ?_ ?_; focus rfl) | (with_reducible refine iL ?_; refine rL (by rw [Tryz.results141]) hl' ?_; simp only [go_sem, ↓reduceIte, aPack, Option.some.injEq, exists_eq_left', f2, f3, lp, k5, wrap_in (show -9223372036854775808 ≤ d + 1 by omega) (show d + 1 ≤ 9223372036854775807 by omega)]) | with_reducible first | refine nS ?_ | refine nD ?_ | refine rS fun bq hbq => ?_ | refine rK ?_ | refine rE ?_ | refine rXx ?_ | refine rR ?_ | refine x2 ?_ | refine x3 ?_ | refine x4 ?_ | refine r2 ?_ | refine r3 ?_ | refine r4 ?_
        refine run_endcut ?_
        simp only [go_sem, ↓reduceIte, f1, f3, f6, f7, f8, hdd]
        exact ⟨hl', lp, l6, l8⟩
    clear f1 f2 f3 f6 f7 f8 hl' lp l6 l8
    obtain ⟨f1, f3, f6, f7, f8, f11, hl', lp, l6, l8⟩ := hI
    subst hbq
    try dsimp only
    repeat first | ((first | (with_reducible first | refine sS ?_ | refine sA ?_ | refine sC ?_) | (with_reducible refine iT ?_; refine sT rfl ?_) | (with_reducible refine i0 ?_; refine s0 rfl ?_) | (with_reducible refine iO ?_; refine sO rfl ?_)); intro bC bR bU hC hR hU; simp only [go_sem, ↓reduceIte, f3, lp]; subst hC hR hU) | (with_reducible refine rN ?_; subst hbq) | (with_reducible refine iR ?_; refine rG (by simp only [compL, gtOf, nthDst]; exact rfl) ?_) | (with_reducible refine rB fun cq hcq => ?_; subst hcq) | (with_reducible refine x1 ?_; clear hbq bq) | (with_reducible refine r1 ?_; clear hbq bq) | (with_reducible refine x5 ?_ ?_; focus rfl) | (with_reducible refine iL ?_; refine rL (by rw [Tryz.results141]) hl' ?_; simp only [go_sem, ↓reduceIte, aPack, Option.some.injEq, exists_eq_left', f3, lp]) | with_reducible first | refine nS ?_ | refine nD ?_ | refine rS fun bq hbq => ?_ | refine rK ?_ | refine rE ?_ | refine rXx ?_ | refine rR ?_ | refine x2 ?_ | refine x3 ?_ | refine x4 ?_ | refine r2 ?_ | refine r3 ?_ | refine r4 ?_
    refine run_loop (fun k τ h2 => ∃ (i sz : Nat) (tok : Tok) (done : List Term), k + i = t.args.length ∧ done.length = i ∧ closedL t.args us D = (closedL (t.args.drop i) us D).map (fun l => done ++ l) ∧ τ 1 = .list 4 (encs us) us.length .none ∧ τ 3 = .ptr p 0 ∧ τ 6 = .ptr q6 0 ∧ τ 7 = .bool false ∧ τ 8 = .ptr q8 0 ∧ τ 11 = .int .i64 D ∧ τ 12 = .int .i64 i ∧ HLess h2 h ∧ h2 p = some (.cells (cellsT t) 27) ∧ h2 q6 = some (.cells [.int .i64 0, .int .i64 0, .str noName, .list 0 [] 0 .nil] 27) ∧ h2 q8 = some (.cells [.int .i64 r.1, .int .i64 r.2, .str t.name, .list sz (encs done) i tok] 27) ∧ Grow 27 h h2 tok ∧ (i = 0 ∨ sz = 4)) t.args.length ?_ ?_
    · refine ⟨0, 0, .nil, [], rfl, rfl, ?_⟩
      simp only [go_sem, ↓reduceIte, f1, f3, f6, f7, f8, f11, List.drop_zero, encs_nil, lp, l6, l8]
      refine ⟨by simp, rfl, hl', .inl (.inr rfl), by simp⟩
    intro c hc k τ h2 hI
    clear f1 f3 f6 f7 f8 f11 lp l6 l8 hl'
    obtain ⟨i, sz, tok, done, hk, hdl, hdone, f1, f3, f6, f7, f8, f11, f12, hl', mp, m6, m8', hg, hsz0⟩ := hI
    subst hc
    by_cases hi : i < t.args.length
    · obtain ⟨u, hu⟩ : ∃ u, t.args[i]? = some u := ⟨_, List.getElem?_eq_getElem hi⟩
      obtain ⟨rr, hrr⟩ := encs_at t.args i hu
      have hus' := size_arg t i hu
      have hdrop : t.args.drop i = u :: t.args.drop (i + 1) := by
        rw [List.drop_eq_getElem_cons hi]
        rw [List.getElem?_eq_getElem hi] at hu; injection hu with hu; rw [hu]
      rw [hdrop, closedL] at hdone
      try dsimp only
      repeat first | ((first | (with_reducible first | refine sS ?_ | refine sA ?_ | refine sC ?_) | (with_reducible refine iT ?_; refine sT rfl ?_) | (with_reducible refine i0 ?_; refine s0 rfl ?_) | (with_reducible refine iO ?_; refine sO rfl ?_)); intro bC bR bU hC hR hU; simp only [go_sem, ↓reduceIte, f1, f3, f11, f12, mp, hi, hrr]; subst hC hR hU) | (with_reducible refine rN ?_; subst hbq) | (with_reducible refine iR ?_; refine rG (by simp only [compL, gtOf, nthDst]; exact rfl) ?_) | (with_reducible refine rB fun cq hcq => ?_; subst hcq) | (with_reducible refine x1 ?_; clear hbq bq) | (with_reducible refine r1 ?_; clear hbq bq) | (with_reducible refine x5 ?_ ?_; focus rfl) | (with_reducible refine iL ?_; refine rL (by rw [Tryz.results141]) hl' ?_; simp only [go_sem, ↓reduceIte, aPack, Option.some.injEq, exists_eq_left', f1, f3, f11, f12, mp, hi, hrr]) | with_reducible first | refine nS ?_ | refine nD ?_ | refine rS fun bq hbq => ?_ | refine rK ?_ | refine rE ?_ | refine rXx ?_ | refine rR ?_ | refine x2 ?_ | refine x3 ?_ | refine x4 ?_ | refine r2 ?_ | refine r3 ?_ | refine r4 ?_
      refine ih u us D _ _ (by omega) (by omega) (by omega) hus (fun u' hu' => ?_) (fun hu' t0 => ?_)
      · rw [hu', Option.bind_some] at hdone
        try dsimp only
        repeat first | ((first | (with_reducible first | refine sS ?_ | refine sA ?_ | refine sC ?_) | (with_reducible refine iT ?_; refine sT rfl ?_) | (with_reducible refine i0 ?_; refine s0 rfl ?_) | (with_reducible refine iO ?_; refine sO rfl ?_)); intro bC bR bU hC hR hU; simp only [go_sem, ↓reduceIte, f1, f11]; subst hC hR hU) | (with_reducible refine rN ?_; subst hbq) | (with_reducible refine iR ?_; refine rG (by simp only [compL, gtOf, nthDst]; exact rfl) ?_) | (with_reducible refine rB fun cq hcq => ?_; subst hcq) | (with_reducible refine x1 ?_; clear hbq bq) | (with_reducible refine r1 ?_; clear hbq bq) | (with_reducible refine x5 ?_ ?_; focus rfl) | (with_reducible refine iL ?_; refine rL (by rw [Tryz.results141]) hl' ?_; simp only [go_sem, ↓reduceIte, aPack, Option.some.injEq, exists_eq_left', f1, f11]) | with_reducible first | refine nS ?_ | refine nD ?_ | refine rS fun bq hbq => ?_ | refine rK ?_ | refine rE ?_ | refine rXx ?_ | refine rR ?_ | refine x2 ?_ | refine x3 ?_ | refine x4 ?_ | refine r2 ?_ | refine r3 ?_ | refine r4 ?_
        intro w hw
        have hwp := ne_of_new hw mp
        have hw6 := ne_of_new hw m6
        have hw8 := ne_of_new hw m8'
        try dsimp only
        repeat first | ((first | (with_reducible first | refine sS ?_ | refine sA ?_ | refine sC ?_) | (with_reducible refine iT ?_; refine sT rfl ?_) | (with_reducible refine i0 ?_; refine s0 rfl ?_) | (with_reducible refine iO ?_; refine sO rfl ?_)); intro bC bR bU hC hR hU; simp only [go_sem, ↓reduceIte, f8, hw6, hw8, m8', build_term]; subst hC hR hU) | (with_reducible refine rN ?_; subst hbq) | (with_reducible refine iR ?_; refine rG (by simp only [compL, gtOf, nthDst]; exact rfl) ?_) | (with_reducible refine rB fun cq hcq => ?_; subst hcq) | (with_reducible refine x1 ?_; clear hbq bq) | (with_reducible refine r1 ?_; clear hbq bq) | (with_reducible refine x5 ?_ ?_; focus rfl) | (with_reducible refine iL ?_; refine rL (by rw [Tryz.results141]) hl' ?_; simp only [go_sem, ↓reduceIte, aPack, Option.some.injEq, exists_eq_left', f8, hw6, hw8, m8', build_term]) | with_reducible first | refine nS ?_ | refine nD ?_ | refine rS fun bq hbq => ?_ | refine rK ?_ | refine rE ?_ | refine rXx ?_ | refine rR ?_ | refine x2 ?_ | refine x3 ?_ | refine x4 ?_ | refine r2 ?_ | refine r3 ?_ | refine r4 ?_
        refine cAppend_list ?_
        simp only [go_sem, ↓reduceIte]
        intro a ha
        have ea0 := fresh_if ha
        have hg3 : Grow 27 h (upd h2 w (some (.cells (cellsT u') 27))) tok := by
          rcases hg with e | ⟨f, ef, hf, hf0⟩
          · exact .inl e
          · exact .inr ⟨f, ef, by rw [upd_other _ _ (ne_of_new hw hf)]; exact hf, hf0⟩
        obtain ⟨h4, ea, hg4, hl4, keep⟩ := append_grow el_25 el_25 sz_27 by_27 ze_27 ⟨rfl, by decide⟩ (h0 := h) (h := upd h2 w (some (.cells (cellsT u') 27))) (p := a) (hl'.new (hl'.none hw)) ha (sz1 := sz) (c1 := encs done) (n1 := i) (t := tok) (c2 := cellsT u') (n2 := 1) (t2 := .full) hg3 hsz0 (sz2 := 4) rfl (by decide) (by omega)
        have r4 := keep q8 _ _ (by rw [upd_other _ _ hw8]; exact m8')
        have r6 := keep q6 _ _ (by rw [upd_other _ _ hw6]; exact m6)
        have rp := keep p _ _ (by rw [upd_other _ _ hwp]; exact mp)
        simp only [ea, go_sem, ↓reduceIte, f8, r4]
        try dsimp only
        repeat first | ((first | (with_reducible first | refine sS ?_ | refine sA ?_ | refine sC ?_) | (with_reducible refine iT ?_; refine sT rfl ?_) | (with_reducible refine i0 ?_; refine s0 rfl ?_) | (with_reducible refine iO ?_; refine sO rfl ?_)); intro bC bR bU hC hR hU; simp only [go_sem, ↓reduceIte, f8, r4, f12, wrap_in (show -9223372036854775808 ≤ (i : Int) + 1 by omega) (show (i : Int) + 1 ≤ 9223372036854775807 by omega)]; subst hC hR hU) | (with_reducible refine rN ?_; subst hbq) | (with_reducible refine iR ?_; refine rG (by simp only [compL, gtOf, nthDst]; exact rfl) ?_) | (with_reducible refine rB fun cq hcq => ?_; subst hcq) | (with_reducible refine x1 ?_; clear hbq bq) | (with_reducible refine r1 ?_; clear hbq bq) | (with_reducible refine x5 ?_ ?_; focus rfl) | (with_reducible refine iL ?_; refine rL (by rw [Tryz.results141]) hl4 ?_; simp only [go_sem, ↓reduceIte, aPack, Option.some.injEq, exists_eq_left', f8, r4, f12, wrap_in (show -9223372036854775808 ≤ (i : Int) + 1 by omega) (show (i : Int) + 1 ≤ 9223372036854775807 by omega)]) | with_reducible first | refine nS ?_ | refine nD ?_ | refine rS fun bq hbq => ?_ | refine rK ?_ | refine rE ?_ | refine rXx ?_ | refine rR ?_ | refine x2 ?_ | refine x3 ?_ | refine x4 ?_ | refine r2 ?_ | refine r3 ?_ | refine r4 ?_
        refine run_loopN (m := k - 1) (by omega) ⟨i + 1, 4, .id a, done ++ [u'], by omega, by rw [List.length_append, hdl]; rfl, ?_, ?_⟩
        · rw [hdone]
          cases closedL (List.drop (i + 1) t.args) us D with
          | none => rfl
          | some l => simp
        · simp only [go_sem, ↓reduceIte, f1, f3, f6, f7, f8, f11, n8.1, n8.1.symm, m8.1, m8.1.symm, r6, rp, encs_app, encs_one]
          refine ⟨rfl, hl4.new m8.2, ?_, by simp⟩
          rcases hg4 with e | ⟨f, ef, hf, hf0⟩
          · rcases e with e | e <;> cases e
          · injection ef with ef; subst ef
            exact .inr ⟨a, rfl, by rw [upd_other _ _ (by intro e; rw [e, r4] at hf; cases hf)]; exact hf, hf0⟩
      · rw [hu', Option.bind_none] at hdone
        rw [hdone] at hn
        try dsimp only
        repeat first | ((first | (with_reducible first | refine sS ?_ | refine sA ?_ | refine sC ?_) | (with_reducible refine iT ?_; refine sT rfl ?_) | (with_reducible refine i0 ?_; refine s0 rfl ?_) | (with_reducible refine iO ?_; refine sO rfl ?_)); intro bC bR bU hC hR hU; simp only [go_sem, ↓reduceIte, f1, f11]; subst hC hR hU) | (with_reducible refine rN ?_; subst hbq) | (with_reducible refine iR ?_; refine rG (by simp only [compL, gtOf, nthDst]; exact rfl) ?_) | (with_reducible refine rB fun cq hcq => ?_; subst hcq) | (with_reducible refine x1 ?_; clear hbq bq) | (with_reducible refine r1 ?_; clear hbq bq) | (with_reducible refine x5 ?_ ?_; focus rfl) | (with_reducible refine iL ?_; refine rL (by rw [Tryz.results141]) hl' ?_; simp only [go_sem, ↓reduceIte, aPack, Option.some.injEq, exists_eq_left', f1, f11]) | with_reducible first | refine nS ?_ | refine nD ?_ | refine rS fun bq hbq => ?_ | refine rK ?_ | refine rE ?_ | refine rXx ?_ | refine rR ?_ | refine x2 ?_ | refine x3 ?_ | refine x4 ?_ | refine r2 ?_ | refine r3 ?_ | refine r4 ?_
        intro w hw
        have hwp := ne_of_new hw mp
        have hw6 := ne_of_new hw m6
        have hw8 := ne_of_new hw m8'
        try dsimp only
        repeat first | ((first | (with_reducible first | refine sS ?_ | refine sA ?_ | refine sC ?_) | (with_reducible refine iT ?_; refine sT rfl ?_) | (with_reducible refine i0 ?_; refine s0 rfl ?_) | (with_reducible refine iO ?_; refine sO rfl ?_)); intro bC bR bU hC hR hU; simp only [go_sem, ↓reduceIte, f6, f7, f8, hw6, hw8, m6, m8', build27_0]; subst hC hR hU) | (with_reducible refine rN ?_; subst hbq) | (with_reducible refine iR ?_; refine rG (by simp only [compL, gtOf, nthDst]; exact rfl) ?_) | (with_reducible refine rB fun cq hcq => ?_; subst hcq) | (with_reducible refine x1 ?_; clear hbq bq) | (with_reducible refine r1 ?_; clear hbq bq) | (with_reducible refine x5 ?_ ?_; focus rfl) | (with_reducible refine iL ?_; refine rL (by rw [Tryz.results141]) hl' ?_; simp only [go_sem, ↓reduceIte, aPack, Option.some.injEq, exists_eq_left', f6, f7, f8, hw6, hw8, m6, m8', build27_0]) | with_reducible first | refine nS ?_ | refine nD ?_ | refine rS fun bq hbq => ?_ | refine rK ?_ | refine rE ?_ | refine rXx ?_ | refine rR ?_ | refine x2 ?_ | refine x3 ?_ | refine x4 ?_ | refine r2 ?_ | refine r3 ?_ | refine r4 ?_
        refine last_as (v := .tuple [enc ⟨0, 0, noName, []⟩, .bool false]) (by rw [Tryz.results141]) ((hl'.new (hl'.none hw)).new n68.2) ?_ (hn rfl _)
        simp only [go_sem, ↓reduceIte, f6, f7, aPack, Option.some.injEq, exists_eq_left']
        refine LeAV.tuple (.cons (LeAV.agg (.cons (LeAV.refl _) (.cons (LeAV.refl _) (.cons (LeAV.refl _) (.cons ?_ .nil))))) (.cons (LeAV.refl _) .nil))
        rw [encs_nil]
        exact LeAV.nil _ _ _
    · have hnil : t.args.drop i = [] := List.drop_eq_nil_of_le (by omega)
      rw [hnil, closedL, Option.map_some, List.append_nil] at hdone
      rw [hdone] at hq
      try dsimp only
      repeat first | ((first | (with_reducible first | refine sS ?_ | refine sA ?_ | refine sC ?_) | (with_reducible refine iT ?_; refine sT rfl ?_) | (with_reducible refine i0 ?_; refine s0 rfl ?_) | (with_reducible refine iO ?_; refine sO rfl ?_)); intro bC bR bU hC hR hU; simp only [go_sem, ↓reduceIte, f3, f6, f7, f8, f12, mp, hi, m6, m8', n8.1, n8.1.symm]; subst hC hR hU) | (with_reducible refine rN ?_; subst hbq) | (with_reducible refine iR ?_; refine rG (by simp only [compL, gtOf, nthDst]; exact rfl) ?_) | (with_reducible refine rB fun cq hcq => ?_; subst hcq) | (with_reducible refine x1 ?_; clear hbq bq) | (with_reducible refine r1 ?_; clear hbq bq) | (with_reducible refine x5 ?_ ?_; focus rfl) | (with_reducible refine iL ?_; refine rL (by rw [Tryz.results141]) hl' ?_; simp only [go_sem, ↓reduceIte, aPack, Option.some.injEq, exists_eq_left', f3, f6, f7, f8, f12, mp, hi, m6, m8', n8.1, n8.1.symm]) | with_reducible first | refine nS ?_ | refine nD ?_ | refine rS fun bq hbq => ?_ | refine rK ?_ | refine rE ?_ | refine rXx ?_ | refine rR ?_ | refine x2 ?_ | refine x3 ?_ | refine x4 ?_ | refine r2 ?_ | refine r3 ?_ | refine r4 ?_
      refine last_as (v := .tuple [enc ⟨r.1, r.2, t.name, done⟩, .bool true]) (by rw [Tryz.results141]) (hl'.new n68.2) ?_ (hq _ rfl)
      simp only [go_sem, ↓reduceIte, f6, f7, aPack, Option.some.injEq, exists_eq_left']
      exact LeAV.tuple (.cons (LeAV.agg (.cons (LeAV.refl _) (.cons (LeAV.refl _) (.cons (LeAV.refl _) (.cons (le_list hdl hsz0) .nil))))) (.cons (LeAV.refl _) .nil))
/- The matcher's match. -/


/-! ### maps from numbers -/
def MapRel {β : Type} (f : β → AV) : List (Int × β) → List (AV × AV × Nat) → Prop
  | [], raw => raw = []
  | (k, v) :: es, raw => ∃ b r, raw = (.int .i64 k, f v, b) :: r ∧ MapRel f es r
def mget {β : Type} (k : Int) : List (Int × β) → Option β
  | [] => none
  | (k', v) :: es => if k == k' then some v else mget k es
theorem find_none {β : Type} {f : β → AV} {k : Int} : ∀ (es : List (Int × β)) (raw : List (AV × AV × Nat)) (i : Nat), MapRel f es raw → mget k es = none → aFind (.int .i64 k) raw i = some Option.none
  | [], raw, i, h, _ => by simp only [MapRel] at h; subst h; rfl
  | (k', v) :: es, raw, i, h, hg => by
    obtain ⟨b, r, rfl, hr⟩ := h
    rw [mget] at hg
    cases hk : (k == k')
    · rw [hk] at hg
      have := find_none es r (i + 1) hr hg
      simp only [aFind, aSame, if_true, hk]
      exact this
    · rw [hk] at hg; cases hg
theorem find_some {β : Type} {f : β → AV} {k : Int} {v : β} : ∀ (es : List (Int × β)) (raw : List (AV × AV × Nat)) (i : Nat), MapRel f es raw → mget k es = some v → ∃ j, aFind (.int .i64 k) raw i = some (some (i + j, f v)) ∧ MapRel f es (raw.modify j fun e => (.int .i64 k, f v, e.2.2))
  | [], raw, i, _, hg => by cases hg
  | (k', v') :: es, raw, i, h, hg => by
    obtain ⟨b, r, rfl, hr⟩ := h
    rw [mget] at hg
    cases hk : (k == k')
    · rw [hk] at hg
      obtain ⟨j, h1, h2⟩ := find_some es r (i + 1) hr hg
      refine ⟨j + 1, ?_, b, _, ?_, h2⟩
      · simp only [aFind, aSame, if_true, hk]
        rw [h1, show i + 1 + j = i + (j + 1) by omega]
      · simp
    · rw [hk] at hg
      simp only [if_true, Option.some.injEq] at hg
      subst hg
      refine ⟨0, ?_, b, r, ?_, hr⟩
      · simp only [aFind, aSame, if_true, hk, Nat.add_zero]
      · simp only [beq_iff_eq] at hk; subst hk; simp
theorem map_append {β : Type} {f : β → AV} {k : Int} {v : β} {c : Nat} : ∀ (es : List (Int × β)) (raw : List (AV × AV × Nat)), MapRel f es raw → MapRel f (es ++ [(k, v)]) (raw ++ [(.int .i64 k, f v, c)])
  | [], raw, h => by simp only [MapRel] at h; subst h; exact ⟨c, [], rfl, rfl⟩
  | (k', v') :: es, raw, h => by
    obtain ⟨b, r, rfl, hr⟩ := h
    exact ⟨b, r ++ [(.int .i64 k, f v, c)], rfl, map_append es r hr⟩

/-! ### sizes -/
theorem within_size : ∀ s, (∀ (t : Term) (us : List Term) (d : Int) (t' : Term), t.size ≤ s → withinF t us d = some t' → t'.size = t.size) ∧ (∀ (l us : List Term) (d : Int) (l' : List Term), sizes l ≤ s → withinL l us d = some l' → sizes l' = sizes l) := by
  intro s
  induction s with
  | zero =>
    refine ⟨fun t us d t' ht => ?_, fun l us d l' hl hw => ?_⟩
    · obtain ⟨a, b, c, l⟩ := t; rw [Term.size] at ht; omega
    · cases l with
      | nil => rw [withinL] at hw; injection hw with hw; subst hw; rfl
      | cons t ts => obtain ⟨a, b, c, l⟩ := t; rw [sizes, Term.size] at hl; omega
  | succ s ih =>
    have hT : ∀ (t : Term) (us : List Term) (d : Int) (t' : Term), t.size ≤ s + 1 → withinF t us d = some t' → t'.size = t.size := by
      intro t us d t' ht hw
      obtain ⟨k, n, nm, l⟩ := t
      rw [Term.size] at ht
      rw [withinF] at hw
      cases hh : wHead k n us d with
      | none => rw [hh] at hw; cases hw
      | some r =>
        rw [hh, Option.bind_some] at hw
        cases hl : withinL l us (inner k d) with
        | none => rw [hl] at hw; cases hw
        | some l' =>
          rw [hl, Option.map_some] at hw
          injection hw with hw
          subst hw
          rw [Term.size, Term.size, ih.2 l us _ l' (by omega) hl]
    refine ⟨hT, fun l => ?_⟩
    induction l with
    | nil => intro us d l' _ hw; rw [withinL] at hw; injection hw with hw; subst hw; rfl
    | cons t ts ihl =>
      intro us d l' hs hw
      rw [sizes] at hs
      rw [withinL] at hw
      cases ht : withinF t us d with
      | none => rw [ht] at hw; cases hw
      | some t' =>
        rw [ht, Option.bind_some] at hw
        cases hl : withinL ts us d with
        | none => rw [hl] at hw; cases hw
        | some l' =>
          rw [hl, Option.map_some] at hw
          injection hw with hw
          subst hw
          rw [sizes, sizes, hT t us d t' (by omega) ht, ihl us d l' (by omega) hl]

abbrev MSt := List (Int × Term)
mutual
def matchF (pars : Int) : Term → Term → MSt → Bool × MSt
  | ⟨k, n, s, l⟩, b, es =>
    if k == 3 && decide (n ≥ pars) then (if b.kind == 5 then (false, es) else match withinF b l 0 with
      | none => (false, es)
      | some t => match mget n es with
        | some was => (sameF was t, es)
        | none => (true, es ++ [(n, t)]))
    else if k == b.kind && (n == b.n && s.toList == b.name.toList) then (if (l.length : Int) == b.args.length then matchL pars l b.args es else (false, es)) else (false, es)
def matchL (pars : Int) : List Term → List Term → MSt → Bool × MSt
  | u :: l, m, es => match m with
    | [] => (true, es)
    | v :: m => if (matchF pars u v es).1 then matchL pars l m (matchF pars u v es).2 else (false, (matchF pars u v es).2)
  | [], _, es => (true, es)
end
theorem matchF_eq (pars : Int) (a b : Term) (es : MSt) : matchF pars a b es =
    if a.kind == 3 && decide (a.n ≥ pars) then (if b.kind == 5 then (false, es) else match withinF b a.args 0 with
      | none => (false, es)
      | some t => match mget a.n es with
        | some was => (sameF was t, es)
        | none => (true, es ++ [(a.n, t)]))
    else if a.kind == b.kind && (a.n == b.n && a.name.toList == b.name.toList) then (if (a.args.length : Int) == b.args.length then matchL pars a.args b.args es else (false, es)) else (false, es) := by
  obtain ⟨k, n, s, l⟩ := a
  rw [matchF]
theorem eqSt_match (pars : Int) : ∀ (l m : List Term) (es : MSt), eqSt (fun es u v => matchF pars u v es) l m es = matchL pars l m es
  | [], m, es => by rw [eqSt, matchL]
  | u :: l, [], es => by rw [eqSt, matchL]
  | u :: l, v :: m, es => by
    rw [eqSt, matchL]
    split
    · exact eqSt_match pars l m _
    · rfl
/-- The matcher x, whose map is object m, over a heap h0. -/
def Matcher (x m : Nat) (pars : Int) (h0 : AHeap) (es : MSt) (h : AHeap) : Prop :=
  HLess h h0 ∧ h x = some (.cells [.int .i64 pars, .map m] 142) ∧ (∃ raw c, h m = some (.map raw c) ∧ MapRel enc es raw) ∧ ∀ e ∈ es, e.2.size ≤ 1000000000
theorem Matcher.mono {x m : Nat} {pars : Int} {h0 : AHeap} {es : MSt} {h h2 : AHeap} (k : Matcher x m pars h0 es h) (hl : HLess h2 h) : Matcher x m pars h0 es h2 := by
  obtain ⟨h1, h3, ⟨raw, c, h4, h5⟩, h6⟩ := k
  exact ⟨hl.trans h1, hl _ _ h3, ⟨raw, c, hl _ _ h4, h5⟩, h6⟩
theorem mget_mem {β : Type} {k : Int} {v : β} : ∀ (es : List (Int × β)), mget k es = some v → ∃ e ∈ es, e.2 = v
  | [], h => by cases h
  | (k', v') :: es, h => by
    rw [mget] at h
    split at h
    · injection h with h; exact ⟨_, List.mem_cons_self, h⟩
    · obtain ⟨e, he, hv⟩ := mget_mem es h; exact ⟨e, List.mem_cons_of_mem _ he, hv⟩

theorem match_am (x m : Nat) (pars : Int) (h0 : AHeap) (hxm : h0 x = Option.none ∧ h0 m = Option.none ∧ x ≠ m) : ∀ (s : Nat) (a b : Term) (es : MSt) (h : AHeap) (Q : AOut → AHeap → Prop), a.size ≤ s → a.size ≤ 1000000000 → b.size ≤ 1000000000 → Matcher x m pars h0 es h →
    (∀ h2, Matcher x m pars h0 (matchF pars a b es).2 h2 → Q (.ret (.bool (matchF pars a b es).1)) h2) → AmCalls Tryz.prog 101 [.ptr x 0, enc a, enc b] h Q := by
  intro s
  induction s with
  | zero => intro a b es h Q ht; obtain ⟨a, b, c, l⟩ := a; rw [Term.size] at ht; omega
  | succ s ih =>
    intro a b es h Q ht hta htb hM hq
    have hlen := length_args a
    rw [matchF_eq] at hq
    have hM' := hM
    obtain ⟨hl0, hx, ⟨raw, c, hm, hrel⟩, hsz⟩ := hM'
    refine AmCalls.of_sem (fn := Tryz.f101) Tryz.func101 rfl (by kernel_rfl) (by rw [Tryz.ntmps101]; simp) (enters_of Tryz.func101 (by kernel_rfl) (by kernel_rfl)) ?_
    try dsimp only
    repeat first | ((first | (with_reducible first | refine sS ?_ | refine sA ?_ | refine sC ?_) | (with_reducible refine iT ?_; refine sT rfl ?_) | (with_reducible refine i0 ?_; refine s0 rfl ?_) | (with_reducible refine iO ?_; refine sO rfl ?_)); intro bC bR bU hC hR hU; simp only [go_sem, ↓reduceIte]; subst hC hR hU) | (with_reducible refine rN ?_; subst hbq) | (with_reducible refine iR ?_; refine rG (by simp only [compL, gtOf, nthDst]; exact rfl) ?_) | (with_reducible refine rB fun cq hcq => ?_; subst hcq) | (with_reducible refine x1 ?_; clear hbq bq) | (with_reducible refine r1 ?_; clear hbq bq) | (with_reducible refine x5 ?_ ?_; focus rfl) | (with_reducible refine iL ?_; refine rL (by rw [Tryz.results101]) (HLess.refl _) ?_; simp only [go_sem, ↓reduceIte, aPack, Option.some.injEq, exists_eq_left']) | with_reducible first | refine nS ?_ | refine nD ?_ | refine rS fun bq hbq => ?_ | refine rK ?_ | refine rE ?_ | refine rXx ?_ | refine rR ?_ | refine x2 ?_ | refine x3 ?_ | refine x4 ?_ | refine r2 ?_ | refine r3 ?_ | refine r4 ?_
    intro p hp
    have hpx := ne_of_new hp hx
    have hpm := ne_of_new hp hm
    try dsimp only
    repeat first | ((first | (with_reducible first | refine sS ?_ | refine sA ?_ | refine sC ?_) | (with_reducible refine iT ?_; refine sT rfl ?_) | (with_reducible refine i0 ?_; refine s0 rfl ?_) | (with_reducible refine iO ?_; refine sO rfl ?_)); intro bC bR bU hC hR hU; simp only [go_sem, ↓reduceIte]; subst hC hR hU) | (with_reducible refine rN ?_; subst hbq) | (with_reducible refine iR ?_; refine rG (by simp only [compL, gtOf, nthDst]; exact rfl) ?_) | (with_reducible refine rB fun cq hcq => ?_; subst hcq) | (with_reducible refine x1 ?_; clear hbq bq) | (with_reducible refine r1 ?_; clear hbq bq) | (with_reducible refine x5 ?_ ?_; focus rfl) | (with_reducible refine iL ?_; refine rL (by rw [Tryz.results101]) (HLess.refl _) ?_; simp only [go_sem, ↓reduceIte, aPack, Option.some.injEq, exists_eq_left']) | with_reducible first | refine nS ?_ | refine nD ?_ | refine rS fun bq hbq => ?_ | refine rK ?_ | refine rE ?_ | refine rXx ?_ | refine rR ?_ | refine x2 ?_ | refine x3 ?_ | refine x4 ?_ | refine r2 ?_ | refine r3 ?_ | refine r4 ?_
    intro q hq'
    have e := fresh_if hq'
    have hqx := ne_of_new e.2 hx
    have hqm := ne_of_new e.2 hm
    have fin : HLess (upd (upd h p (some (.cells (cellsT a) 27))) q (some (.cells (cellsT b) 27))) h := (HLess.refl h).new hp |>.new e.2
    try dsimp only
    repeat first | ((first | (with_reducible first | refine sS ?_ | refine sA ?_ | refine sC ?_) | (with_reducible refine iT ?_; refine sT rfl ?_) | (with_reducible refine i0 ?_; refine s0 rfl ?_) | (with_reducible refine iO ?_; refine sO rfl ?_)); intro bC bR bU hC hR hU; simp only [go_sem, ↓reduceIte]; subst hC hR hU) | (with_reducible refine rN ?_; subst hbq) | (with_reducible refine iR ?_; refine rG (by simp only [compL, gtOf, nthDst]; exact rfl) ?_) | (with_reducible refine rB fun cq hcq => ?_; subst hcq) | (with_reducible refine x1 ?_; clear hbq bq) | (with_reducible refine r1 ?_; clear hbq bq) | (with_reducible refine x5 ?_ ?_; focus rfl) | (with_reducible refine iL ?_; refine rL (by rw [Tryz.results101]) fin ?_; simp only [go_sem, ↓reduceIte, aPack, Option.some.injEq, exists_eq_left']) | with_reducible first | refine nS ?_ | refine nD ?_ | refine rS fun bq hbq => ?_ | refine rK ?_ | refine rE ?_ | refine rXx ?_ | refine rR ?_ | refine x2 ?_ | refine x3 ?_ | refine x4 ?_ | refine r2 ?_ | refine r3 ?_ | refine r4 ?_
    refine run_cutS (fun τ h' => τ 0 = .ptr x 0 ∧ τ 4 = .ptr p 0 ∧ τ 5 = .ptr q 0 ∧ τ 22 = .bool (a.kind == 3 && decide (a.n ≥ pars)) ∧ h' = upd (upd h p (some (.cells (cellsT a) 27))) q (some (.cells (cellsT b) 27))) ?_ fun τ h' hI => ?_
    · repeat with_reducible refine run_seq fun bq hbq => ?_
      refine run_draw (.take 0 (.take 1 (.take 2 (.take 3 (.take 4 (.take 5 (.take 6 (.take 7 (.take 8 (.take 9 (.take 10 (.take 11 (.done))))))))))))) (by kernel_rfl) (by simp only [compL, gtOf, nthDst]; exact rfl) ?_
      cases hk3 : (a.kind == 3)
      all_goals
        try dsimp only
        repeat first | ((first | (with_reducible first | refine sS ?_ | refine sA ?_ | refine sC ?_) | (with_reducible refine iT ?_; refine sT rfl ?_) | (with_reducible refine i0 ?_; refine s0 rfl ?_) | (with_reducible refine iO ?_; refine sO rfl ?_)); intro bC bR bU hC hR hU; simp only [go_sem, ↓reduceIte, e.1, e.1.symm, hk3, hqx, hpx, hx]; subst hC hR hU) | (with_reducible refine rN ?_; subst hbq) | (with_reducible refine iR ?_; refine rG (by simp only [compL, gtOf, nthDst]; exact rfl) ?_) | (with_reducible refine rB fun cq hcq => ?_; subst hcq) | (with_reducible refine x1 ?_; clear hbq bq) | (with_reducible refine r1 ?_; clear hbq bq) | (with_reducible refine x5 ?_ ?_; focus rfl) | (with_reducible refine iL ?_; refine rL (by rw [Tryz.results101]) fin ?_; simp only [go_sem, ↓reduceIte, aPack, Option.some.injEq, exists_eq_left', e.1, e.1.symm, hk3, hqx, hpx, hx]) | with_reducible first | refine nS ?_ | refine nD ?_ | refine rS fun bq hbq => ?_ | refine rK ?_ | refine rE ?_ | refine rXx ?_ | refine rR ?_ | refine x2 ?_ | refine x3 ?_ | refine x4 ?_ | refine r2 ?_ | refine r3 ?_ | refine r4 ?_
        refine run_endcut ?_
        simp only [go_sem, ↓reduceIte, hk3]
    obtain ⟨f0, f4, f5, f22, rfl⟩ := hI
    subst hbq
    have sx : (upd (upd h p (some (AObj.cells (cellsT a) 27))) q (some (AObj.cells (cellsT b) 27))) x = some (.cells [.int .i64 pars, .map m] 142) := by rw [upd_other _ _ hqx, upd_other _ _ hpx]; exact hx
    have sm : (upd (upd h p (some (AObj.cells (cellsT a) 27))) q (some (AObj.cells (cellsT b) 27))) m = some (.map raw c) := by rw [upd_other _ _ hqm, upd_other _ _ hpm]; exact hm
    have sp : (upd (upd h p (some (AObj.cells (cellsT a) 27))) q (some (AObj.cells (cellsT b) 27))) p = some (.cells (cellsT a) 27) := by rw [upd_other _ _ e.1.symm, upd_same]
    have sq : (upd (upd h p (some (AObj.cells (cellsT a) 27))) q (some (AObj.cells (cellsT b) 27))) q = some (.cells (cellsT b) 27) := upd_same _ _ _
    have hM2 : Matcher x m pars h0 es (upd (upd h p (some (AObj.cells (cellsT a) 27))) q (some (AObj.cells (cellsT b) 27))) := hM.mono fin
    generalize upd (upd h p (some (AObj.cells (cellsT a) 27))) q (some (AObj.cells (cellsT b) 27)) = H at *
    cases hv : (a.kind == 3 && decide (a.n ≥ pars))
    · rw [hv] at f22
      simp only [hv, Bool.false_eq_true, if_false] at hq
      cases c1 : (a.kind == b.kind)
      · simp only [c1, Bool.false_and, Bool.false_eq_true, if_false] at hq
        try dsimp only
        repeat first | ((first | (with_reducible first | refine sS ?_ | refine sA ?_ | refine sC ?_) | (with_reducible refine iT ?_; refine sT rfl ?_) | (with_reducible refine i0 ?_; refine s0 rfl ?_) | (with_reducible refine iO ?_; refine sO rfl ?_)); intro bC bR bU hC hR hU; simp only [go_sem, ↓reduceIte, f0, f4, f5, f22, sp, sq, c1]; subst hC hR hU) | (with_reducible refine rN ?_; subst hbq) | (with_reducible refine iR ?_; refine rG (by simp only [compL, gtOf, nthDst]; exact rfl) ?_) | (with_reducible refine rB fun cq hcq => ?_; subst hcq) | (with_reducible refine x1 ?_; clear hbq bq) | (with_reducible refine r1 ?_; clear hbq bq) | (with_reducible refine x5 ?_ ?_; focus rfl) | (with_reducible refine iL ?_; refine rL (by rw [Tryz.results101]) (HLess.refl _) ?_; simp only [go_sem, ↓reduceIte, aPack, Option.some.injEq, exists_eq_left', f0, f4, f5, f22, sp, sq, c1]) | with_reducible first | refine nS ?_ | refine nD ?_ | refine rS fun bq hbq => ?_ | refine rK ?_ | refine rE ?_ | refine rXx ?_ | refine rR ?_ | refine x2 ?_ | refine x3 ?_ | refine x4 ?_ | refine r2 ?_ | refine r3 ?_ | refine r4 ?_
        exact hq _ hM2
      cases c2 : (a.n == b.n)
      · simp only [c1, c2, Bool.false_and, Bool.and_false, Bool.false_eq_true, if_false] at hq
        try dsimp only
        repeat first | ((first | (with_reducible first | refine sS ?_ | refine sA ?_ | refine sC ?_) | (with_reducible refine iT ?_; refine sT rfl ?_) | (with_reducible refine i0 ?_; refine s0 rfl ?_) | (with_reducible refine iO ?_; refine sO rfl ?_)); intro bC bR bU hC hR hU; simp only [go_sem, ↓reduceIte, f0, f4, f5, f22, sp, sq, c1, c2]; subst hC hR hU) | (with_reducible refine rN ?_; subst hbq) | (with_reducible refine iR ?_; refine rG (by simp only [compL, gtOf, nthDst]; exact rfl) ?_) | (with_reducible refine rB fun cq hcq => ?_; subst hcq) | (with_reducible refine x1 ?_; clear hbq bq) | (with_reducible refine r1 ?_; clear hbq bq) | (with_reducible refine x5 ?_ ?_; focus rfl) | (with_reducible refine iL ?_; refine rL (by rw [Tryz.results101]) (HLess.refl _) ?_; simp only [go_sem, ↓reduceIte, aPack, Option.some.injEq, exists_eq_left', f0, f4, f5, f22, sp, sq, c1, c2]) | with_reducible first | refine nS ?_ | refine nD ?_ | refine rS fun bq hbq => ?_ | refine rK ?_ | refine rE ?_ | refine rXx ?_ | refine rR ?_ | refine x2 ?_ | refine x3 ?_ | refine x4 ?_ | refine r2 ?_ | refine r3 ?_ | refine r4 ?_
        exact hq _ hM2
      cases c3 : (a.name.toList == b.name.toList)
      · simp only [c1, c2, c3, Bool.and_false, Bool.false_eq_true, if_false] at hq
        try dsimp only
        repeat first | ((first | (with_reducible first | refine sS ?_ | refine sA ?_ | refine sC ?_) | (with_reducible refine iT ?_; refine sT rfl ?_) | (with_reducible refine i0 ?_; refine s0 rfl ?_) | (with_reducible refine iO ?_; refine sO rfl ?_)); intro bC bR bU hC hR hU; simp only [go_sem, ↓reduceIte, f0, f4, f5, f22, sp, sq, c1, c2, c3]; subst hC hR hU) | (with_reducible refine rN ?_; subst hbq) | (with_reducible refine iR ?_; refine rG (by simp only [compL, gtOf, nthDst]; exact rfl) ?_) | (with_reducible refine rB fun cq hcq => ?_; subst hcq) | (with_reducible refine x1 ?_; clear hbq bq) | (with_reducible refine r1 ?_; clear hbq bq) | (with_reducible refine x5 ?_ ?_; focus rfl) | (with_reducible refine iL ?_; refine rL (by rw [Tryz.results101]) (HLess.refl _) ?_; simp only [go_sem, ↓reduceIte, aPack, Option.some.injEq, exists_eq_left', f0, f4, f5, f22, sp, sq, c1, c2, c3]) | with_reducible first | refine nS ?_ | refine nD ?_ | refine rS fun bq hbq => ?_ | refine rK ?_ | refine rE ?_ | refine rXx ?_ | refine rR ?_ | refine x2 ?_ | refine x3 ?_ | refine x4 ?_ | refine r2 ?_ | refine r3 ?_ | refine r4 ?_
        exact hq _ hM2
      simp only [c1, c2, c3, Bool.and_self, if_true] at hq
      try dsimp only
      repeat first | ((first | (with_reducible first | refine sS ?_ | refine sA ?_ | refine sC ?_) | (with_reducible refine iT ?_; refine sT rfl ?_) | (with_reducible refine i0 ?_; refine s0 rfl ?_) | (with_reducible refine iO ?_; refine sO rfl ?_)); intro bC bR bU hC hR hU; simp only [go_sem, ↓reduceIte, f0, f4, f5, f22, sp, sq, c1, c2, c3]; subst hC hR hU) | (with_reducible refine rN ?_; subst hbq) | (with_reducible refine iR ?_; refine rG (by simp only [compL, gtOf, nthDst]; exact rfl) ?_) | (with_reducible refine rB fun cq hcq => ?_; subst hcq) | (with_reducible refine x1 ?_; clear hbq bq) | (with_reducible refine r1 ?_; clear hbq bq) | (with_reducible refine x5 ?_ ?_; focus rfl) | (with_reducible refine iL ?_; refine rL (by rw [Tryz.results101]) (HLess.refl _) ?_; simp only [go_sem, ↓reduceIte, aPack, Option.some.injEq, exists_eq_left', f0, f4, f5, f22, sp, sq, c1, c2, c3]) | with_reducible first | refine nS ?_ | refine nD ?_ | refine rS fun bq hbq => ?_ | refine rK ?_ | refine rE ?_ | refine rXx ?_ | refine rR ?_ | refine x2 ?_ | refine x3 ?_ | refine x4 ?_ | refine r2 ?_ | refine r3 ?_ | refine r4 ?_
      refine equalFunc_am a.args b.args 101 [.ptr x 0] [] (Matcher x m pars h0) (fun es u v => matchF pars u v es) es _ _ (by omega) (fun _ _ _ h1 h2 => h1.mono h2) (fun i u v es hu hv h' Q' hR hQ => ?_) hM2 (fun hl => ?_) (fun hl h1 hR => ?_)
      · have := size_arg a i hu
        have := size_arg b i hv
        exact ih u v es h' Q' (by omega) (by omega) (by omega) hR hQ
      · rw [if_neg (by simp only [beq_iff_eq]; omega)] at hq
        try dsimp only
        repeat first | ((first | (with_reducible first | refine sS ?_ | refine sA ?_ | refine sC ?_) | (with_reducible refine iT ?_; refine sT rfl ?_) | (with_reducible refine i0 ?_; refine s0 rfl ?_) | (with_reducible refine iO ?_; refine sO rfl ?_)); intro bC bR bU hC hR hU; simp only [go_sem, ↓reduceIte, c1, c2, c3]; subst hC hR hU) | (with_reducible refine rN ?_; subst hbq) | (with_reducible refine iR ?_; refine rG (by simp only [compL, gtOf, nthDst]; exact rfl) ?_) | (with_reducible refine rB fun cq hcq => ?_; subst hcq) | (with_reducible refine x1 ?_; clear hbq bq) | (with_reducible refine r1 ?_; clear hbq bq) | (with_reducible refine x5 ?_ ?_; focus rfl) | (with_reducible refine iL ?_; refine rL (by rw [Tryz.results101]) (HLess.refl _) ?_; simp only [go_sem, ↓reduceIte, aPack, Option.some.injEq, exists_eq_left', c1, c2, c3]) | with_reducible first | refine nS ?_ | refine nD ?_ | refine rS fun bq hbq => ?_ | refine rK ?_ | refine rE ?_ | refine rXx ?_ | refine rR ?_ | refine x2 ?_ | refine x3 ?_ | refine x4 ?_ | refine r2 ?_ | refine r3 ?_ | refine r4 ?_
        exact hq _ hM2
      · refine ⟨h1, HLess.refl _, ?_⟩
        rw [if_pos (by simp only [beq_iff_eq]; omega)] at hq
        rw [eqSt_match] at hR ⊢
        try dsimp only
        repeat first | ((first | (with_reducible first | refine sS ?_ | refine sA ?_ | refine sC ?_) | (with_reducible refine iT ?_; refine sT rfl ?_) | (with_reducible refine i0 ?_; refine s0 rfl ?_) | (with_reducible refine iO ?_; refine sO rfl ?_)); intro bC bR bU hC hR hU; simp only [go_sem, ↓reduceIte, c1, c2, c3]; subst hC hR hU) | (with_reducible refine rN ?_; subst hbq) | (with_reducible refine iR ?_; refine rG (by simp only [compL, gtOf, nthDst]; exact rfl) ?_) | (with_reducible refine rB fun cq hcq => ?_; subst hcq) | (with_reducible refine x1 ?_; clear hbq bq) | (with_reducible refine r1 ?_; clear hbq bq) | (with_reducible refine x5 ?_ ?_; focus rfl) | (with_reducible refine iL ?_; refine rL (by rw [Tryz.results101]) (HLess.refl _) ?_; simp only [go_sem, ↓reduceIte, aPack, Option.some.injEq, exists_eq_left', c1, c2, c3]) | with_reducible first | refine nS ?_ | refine nD ?_ | refine rS fun bq hbq => ?_ | refine rK ?_ | refine rE ?_ | refine rXx ?_ | refine rR ?_ | refine x2 ?_ | refine x3 ?_ | refine x4 ?_ | refine r2 ?_ | refine r3 ?_ | refine r4 ?_
        exact hq _ hR
    · rw [hv] at f22
      simp only [hv, if_true] at hq
      cases hb5 : (b.kind == 5)
      case true =>
        simp only [hb5, if_true] at hq
        try dsimp only
        repeat first | ((first | (with_reducible first | refine sS ?_ | refine sA ?_ | refine sC ?_) | (with_reducible refine iT ?_; refine sT rfl ?_) | (with_reducible refine i0 ?_; refine s0 rfl ?_) | (with_reducible refine iO ?_; refine sO rfl ?_)); intro bC bR bU hC hR hU; simp only [go_sem, ↓reduceIte, f5, f22, sq, hb5]; subst hC hR hU) | (with_reducible refine rN ?_; subst hbq) | (with_reducible refine iR ?_; refine rG (by simp only [compL, gtOf, nthDst]; exact rfl) ?_) | (with_reducible refine rB fun cq hcq => ?_; subst hcq) | (with_reducible refine x1 ?_; clear hbq bq) | (with_reducible refine r1 ?_; clear hbq bq) | (with_reducible refine x5 ?_ ?_; focus rfl) | (with_reducible refine iL ?_; refine rL (by rw [Tryz.results101]) (HLess.refl _) ?_; simp only [go_sem, ↓reduceIte, aPack, Option.some.injEq, exists_eq_left', f5, f22, sq, hb5]) | with_reducible first | refine nS ?_ | refine nD ?_ | refine rS fun bq hbq => ?_ | refine rK ?_ | refine rE ?_ | refine rXx ?_ | refine rR ?_ | refine x2 ?_ | refine x3 ?_ | refine x4 ?_ | refine r2 ?_ | refine r3 ?_ | refine r4 ?_
        exact hq _ hM2
      simp only [hb5, Bool.false_eq_true, if_false] at hq
      try dsimp only
      repeat first | ((first | (with_reducible first | refine sS ?_ | refine sA ?_ | refine sC ?_) | (with_reducible refine iT ?_; refine sT rfl ?_) | (with_reducible refine i0 ?_; refine s0 rfl ?_) | (with_reducible refine iO ?_; refine sO rfl ?_)); intro bC bR bU hC hR hU; simp only [go_sem, ↓reduceIte, f4, f5, f22, sp, sq, hb5]; subst hC hR hU) | (with_reducible refine rN ?_; subst hbq) | (with_reducible refine iR ?_; refine rG (by simp only [compL, gtOf, nthDst]; exact rfl) ?_) | (with_reducible refine rB fun cq hcq => ?_; subst hcq) | (with_reducible refine x1 ?_; clear hbq bq) | (with_reducible refine r1 ?_; clear hbq bq) | (with_reducible refine x5 ?_ ?_; focus rfl) | (with_reducible refine iL ?_; refine rL (by rw [Tryz.results101]) (HLess.refl _) ?_; simp only [go_sem, ↓reduceIte, aPack, Option.some.injEq, exists_eq_left', f4, f5, f22, sp, sq, hb5]) | with_reducible first | refine nS ?_ | refine nD ?_ | refine rS fun bq hbq => ?_ | refine rK ?_ | refine rE ?_ | refine rXx ?_ | refine rR ?_ | refine x2 ?_ | refine x3 ?_ | refine x4 ?_ | refine r2 ?_ | refine r3 ?_ | refine r4 ?_
      refine within_am b.size b a.args 0 _ _ (Nat.le_refl _) (by decide) (by omega) (by omega) (fun t ht => ?_) (fun hn t0 => ?_)
      · rw [ht] at hq
        simp only at hq
        have htsz := (within_size b.size).1 b a.args 0 t (Nat.le_refl _) ht
        try dsimp only
        repeat first | ((first | (with_reducible first | refine sS ?_ | refine sA ?_ | refine sC ?_) | (with_reducible refine iT ?_; refine sT rfl ?_) | (with_reducible refine i0 ?_; refine s0 rfl ?_) | (with_reducible refine iO ?_; refine sO rfl ?_)); intro bC bR bU hC hR hU; simp only [go_sem, ↓reduceIte]; subst hC hR hU) | (with_reducible refine rN ?_; subst hbq) | (with_reducible refine iR ?_; refine rG (by simp only [compL, gtOf, nthDst]; exact rfl) ?_) | (with_reducible refine rB fun cq hcq => ?_; subst hcq) | (with_reducible refine x1 ?_; clear hbq bq) | (with_reducible refine r1 ?_; clear hbq bq) | (with_reducible refine x5 ?_ ?_; focus rfl) | (with_reducible refine iL ?_; refine rL (by rw [Tryz.results101]) (HLess.refl _) ?_; simp only [go_sem, ↓reduceIte, aPack, Option.some.injEq, exists_eq_left']) | with_reducible first | refine nS ?_ | refine nD ?_ | refine rS fun bq hbq => ?_ | refine rK ?_ | refine rE ?_ | refine rXx ?_ | refine rR ?_ | refine x2 ?_ | refine x3 ?_ | refine x4 ?_ | refine r2 ?_ | refine r3 ?_ | refine r4 ?_
        intro w hw
        have wx := ne_of_new hw sx
        have wm := ne_of_new hw sm
        have wp := ne_of_new hw sp
        have finw : HLess (upd H w (some (.cells (cellsT t) 27))) H := HLess.one hw
        have hM3 := hM2.mono finw
        try dsimp only
        repeat first | ((first | (with_reducible first | refine sS ?_ | refine sA ?_ | refine sC ?_) | (with_reducible refine iT ?_; refine sT rfl ?_) | (with_reducible refine i0 ?_; refine s0 rfl ?_) | (with_reducible refine iO ?_; refine sO rfl ?_)); intro bC bR bU hC hR hU; simp only [go_sem, ↓reduceIte]; subst hC hR hU) | (with_reducible refine rN ?_; subst hbq) | (with_reducible refine iR ?_; refine rG (by simp only [compL, gtOf, nthDst]; exact rfl) ?_) | (with_reducible refine rB fun cq hcq => ?_; subst hcq) | (with_reducible refine x1 ?_; clear hbq bq) | (with_reducible refine r1 ?_; clear hbq bq) | (with_reducible refine x5 ?_ ?_; focus rfl) | (with_reducible refine iL ?_; refine rL (by rw [Tryz.results101]) (HLess.refl _) ?_; simp only [go_sem, ↓reduceIte, aPack, Option.some.injEq, exists_eq_left']) | with_reducible first | refine nS ?_ | refine nD ?_ | refine rS fun bq hbq => ?_ | refine rK ?_ | refine rE ?_ | refine rXx ?_ | refine rR ?_ | refine x2 ?_ | refine x3 ?_ | refine x4 ?_ | refine r2 ?_ | refine r3 ?_ | refine r4 ?_
        repeat with_reducible refine run_seq fun bq hbq => ?_
        refine run_draw (.take 0 (.take 1 (.take 2 (.take 3 (.take 4 (.take 5 (.take 6 (.take 7 (.take 8 (.take 9 (.one 10 [6, 5, 3] (.one 11 [] (.take 12 (.done)))))))))))))) (by kernel_rfl) (by simp only [compL, gtOf, nthDst]; exact rfl) ?_
        cases hg : mget a.n es with
        | some was =>
          rw [hg] at hq
          simp only at hq
          obtain ⟨j, hj, _⟩ := find_some (f := enc) es raw 0 hrel hg
          rw [Nat.zero_add] at hj
          have hwsz : was.size ≤ 1000000000 := by
            obtain ⟨e, he, hv⟩ := mget_mem es hg
            have := hsz e he
            rw [hv] at this; exact this
          try dsimp only
          repeat first | ((first | (with_reducible first | refine sS ?_ | refine sA ?_ | refine sC ?_) | (with_reducible refine iT ?_; refine sT rfl ?_) | (with_reducible refine i0 ?_; refine s0 rfl ?_) | (with_reducible refine iO ?_; refine sO rfl ?_)); intro bC bR bU hC hR hU; simp only [go_sem, ↓reduceIte, f0, f4, wx, wm, wp, sx, sm, sp, aLookup, mp_140, ze_140, ze_27, plainKey, tk_3, hj]; subst hC hR hU) | (with_reducible refine rN ?_; subst hbq) | (with_reducible refine iR ?_; refine rG (by simp only [compL, gtOf, nthDst]; exact rfl) ?_) | (with_reducible refine rB fun cq hcq => ?_; subst hcq) | (with_reducible refine x1 ?_; clear hbq bq) | (with_reducible refine r1 ?_; clear hbq bq) | (with_reducible refine x5 ?_ ?_; focus rfl) | (with_reducible refine iL ?_; refine rL (by rw [Tryz.results101]) (HLess.refl _) ?_; simp only [go_sem, ↓reduceIte, aPack, Option.some.injEq, exists_eq_left', f0, f4, wx, wm, wp, sx, sm, sp, aLookup, mp_140, ze_140, ze_27, plainKey, tk_3, hj]) | with_reducible first | refine nS ?_ | refine nD ?_ | refine rS fun bq hbq => ?_ | refine rK ?_ | refine rE ?_ | refine rXx ?_ | refine rR ?_ | refine x2 ?_ | refine x3 ?_ | refine x4 ?_ | refine r2 ?_ | refine r3 ?_ | refine r4 ?_
          intro w2 hw2
          have e2 := fresh_if hw2
          have w2x := ne_of_new e2.2 sx
          have w2m := ne_of_new e2.2 sm
          have w2p := ne_of_new e2.2 sp
          have finw2 : HLess (upd (upd H w (some (.cells (cellsT t) 27))) w2 (some (.cells (cellsT was) 27))) H := (HLess.one hw).new e2.2
          try dsimp only
          repeat first | ((first | (with_reducible first | refine sS ?_ | refine sA ?_ | refine sC ?_) | (with_reducible refine iT ?_; refine sT rfl ?_) | (with_reducible refine i0 ?_; refine s0 rfl ?_) | (with_reducible refine iO ?_; refine sO rfl ?_)); intro bC bR bU hC hR hU; simp only [go_sem, ↓reduceIte, f0, f4, wx, wm, wp, w2x, w2m, w2p, e2.1, e2.1.symm, sx, sm, sp, aLookup, mp_140, ze_140, ze_27, plainKey, tk_3, hj]; subst hC hR hU) | (with_reducible refine rN ?_; subst hbq) | (with_reducible refine iR ?_; refine rG (by simp only [compL, gtOf, nthDst]; exact rfl) ?_) | (with_reducible refine rB fun cq hcq => ?_; subst hcq) | (with_reducible refine x1 ?_; clear hbq bq) | (with_reducible refine r1 ?_; clear hbq bq) | (with_reducible refine x5 ?_ ?_; focus rfl) | (with_reducible refine iL ?_; refine rL (by rw [Tryz.results101]) (HLess.refl _) ?_; simp only [go_sem, ↓reduceIte, aPack, Option.some.injEq, exists_eq_left', f0, f4, wx, wm, wp, w2x, w2m, w2p, e2.1, e2.1.symm, sx, sm, sp, aLookup, mp_140, ze_140, ze_27, plainKey, tk_3, hj]) | with_reducible first | refine nS ?_ | refine nD ?_ | refine rS fun bq hbq => ?_ | refine rK ?_ | refine rE ?_ | refine rXx ?_ | refine rR ?_ | refine x2 ?_ | refine x3 ?_ | refine x4 ?_ | refine r2 ?_ | refine r3 ?_ | refine r4 ?_
          refine sameTerm_am was.size was t _ _ (Nat.le_refl _) hwsz ?_
          try dsimp only
          repeat first | ((first | (with_reducible first | refine sS ?_ | refine sA ?_ | refine sC ?_) | (with_reducible refine iT ?_; refine sT rfl ?_) | (with_reducible refine i0 ?_; refine s0 rfl ?_) | (with_reducible refine iO ?_; refine sO rfl ?_)); intro bC bR bU hC hR hU; simp only [go_sem, ↓reduceIte]; subst hC hR hU) | (with_reducible refine rN ?_; subst hbq) | (with_reducible refine iR ?_; refine rG (by simp only [compL, gtOf, nthDst]; exact rfl) ?_) | (with_reducible refine rB fun cq hcq => ?_; subst hcq) | (with_reducible refine x1 ?_; clear hbq bq) | (with_reducible refine r1 ?_; clear hbq bq) | (with_reducible refine x5 ?_ ?_; focus rfl) | (with_reducible refine iL ?_; refine rL (by rw [Tryz.results101]) (HLess.refl _) ?_; simp only [go_sem, ↓reduceIte, aPack, Option.some.injEq, exists_eq_left']) | with_reducible first | refine nS ?_ | refine nD ?_ | refine rS fun bq hbq => ?_ | refine rK ?_ | refine rE ?_ | refine rXx ?_ | refine rR ?_ | refine x2 ?_ | refine x3 ?_ | refine x4 ?_ | refine r2 ?_ | refine r3 ?_ | refine r4 ?_
          exact hq _ (hM2.mono finw2)
        | none =>
          rw [hg] at hq
          simp only at hq
          have hj := find_none (f := enc) es raw 0 hrel hg
          try dsimp only
          repeat first | ((first | (with_reducible first | refine sS ?_ | refine sA ?_ | refine sC ?_) | (with_reducible refine iT ?_; refine sT rfl ?_) | (with_reducible refine i0 ?_; refine s0 rfl ?_) | (with_reducible refine iO ?_; refine sO rfl ?_)); intro bC bR bU hC hR hU; simp only [go_sem, ↓reduceIte, f0, f4, wx, wm, wp, sx, sm, sp, aLookup, mp_140, ze_140, ze_27, plainKey, tk_3, hj]; subst hC hR hU) | (with_reducible refine rN ?_; subst hbq) | (with_reducible refine iR ?_; refine rG (by simp only [compL, gtOf, nthDst]; exact rfl) ?_) | (with_reducible refine rB fun cq hcq => ?_; subst hcq) | (with_reducible refine x1 ?_; clear hbq bq) | (with_reducible refine r1 ?_; clear hbq bq) | (with_reducible refine x5 ?_ ?_; focus rfl) | (with_reducible refine iL ?_; refine rL (by rw [Tryz.results101]) (HLess.refl _) ?_; simp only [go_sem, ↓reduceIte, aPack, Option.some.injEq, exists_eq_left', f0, f4, wx, wm, wp, sx, sm, sp, aLookup, mp_140, ze_140, ze_27, plainKey, tk_3, hj]) | with_reducible first | refine nS ?_ | refine nD ?_ | refine rS fun bq hbq => ?_ | refine rK ?_ | refine rE ?_ | refine rXx ?_ | refine rR ?_ | refine x2 ?_ | refine x3 ?_ | refine x4 ?_ | refine r2 ?_ | refine r3 ?_ | refine r4 ?_
          intro w2 hw2
          have e2 := fresh_if hw2
          have w2x := ne_of_new e2.2 sx
          have w2m := ne_of_new e2.2 sm
          have w2p := ne_of_new e2.2 sp
          have finw2 : HLess (upd (upd H w (some (.cells (cellsT t) 27))) w2 (some (.cells [.int .i64 0, .int .i64 0, .str noName, .list 0 [] 0 .nil] 27))) H := (HLess.one hw).new e2.2
          try dsimp only
          repeat first | ((first | (with_reducible first | refine sS ?_ | refine sA ?_ | refine sC ?_) | (with_reducible refine iT ?_; refine sT rfl ?_) | (with_reducible refine i0 ?_; refine s0 rfl ?_) | (with_reducible refine iO ?_; refine sO rfl ?_)); intro bC bR bU hC hR hU; simp only [go_sem, ↓reduceIte, f0, f4, wx, wm, wp, w2x, w2m, w2p, e2.1, e2.1.symm, sx, sm, sp, aLookup, mp_140, ze_140, ze_27, plainKey, tk_3, hj]; subst hC hR hU) | (with_reducible refine rN ?_; subst hbq) | (with_reducible refine iR ?_; refine rG (by simp only [compL, gtOf, nthDst]; exact rfl) ?_) | (with_reducible refine rB fun cq hcq => ?_; subst hcq) | (with_reducible refine x1 ?_; clear hbq bq) | (with_reducible refine r1 ?_; clear hbq bq) | (with_reducible refine x5 ?_ ?_; focus rfl) | (with_reducible refine iL ?_; refine rL (by rw [Tryz.results101]) (HLess.refl _) ?_; simp only [go_sem, ↓reduceIte, aPack, Option.some.injEq, exists_eq_left', f0, f4, wx, wm, wp, w2x, w2m, w2p, e2.1, e2.1.symm, sx, sm, sp, aLookup, mp_140, ze_140, ze_27, plainKey, tk_3, hj]) | with_reducible first | refine nS ?_ | refine nD ?_ | refine rS fun bq hbq => ?_ | refine rK ?_ | refine rE ?_ | refine rXx ?_ | refine rR ?_ | refine x2 ?_ | refine x3 ?_ | refine x4 ?_ | refine r2 ?_ | refine r3 ?_ | refine r4 ?_
          repeat with_reducible refine run_seq fun bq hbq => ?_
          refine run_draw (.take 0 (.take 1 (.take 2 (.take 3 (.take 4 (.take 5 (.take 6 (.one 7 [] (.done))))))))) (by kernel_rfl) (by simp only [compL, gtOf, nthDst]; exact rfl) ?_
          try dsimp only
          repeat first | ((first | (with_reducible first | refine sS ?_ | refine sA ?_ | refine sC ?_) | (with_reducible refine iT ?_; refine sT rfl ?_) | (with_reducible refine i0 ?_; refine s0 rfl ?_) | (with_reducible refine iO ?_; refine sO rfl ?_)); intro bC bR bU hC hR hU; simp only [go_sem, ↓reduceIte, f0, f4, wx, wm, wp, w2x, w2m, w2p, e2.1, e2.1.symm, sx, sm, sp, aMapUpdate, mp_140, plainKey, tk_3, hj]; subst hC hR hU) | (with_reducible refine rN ?_; subst hbq) | (with_reducible refine iR ?_; refine rG (by simp only [compL, gtOf, nthDst]; exact rfl) ?_) | (with_reducible refine rB fun cq hcq => ?_; subst hcq) | (with_reducible refine x1 ?_; clear hbq bq) | (with_reducible refine r1 ?_; clear hbq bq) | (with_reducible refine x5 ?_ ?_; focus rfl) | (with_reducible refine iL ?_; refine rL (by rw [Tryz.results101]) (HLess.refl _) ?_; simp only [go_sem, ↓reduceIte, aPack, Option.some.injEq, exists_eq_left', f0, f4, wx, wm, wp, w2x, w2m, w2p, e2.1, e2.1.symm, sx, sm, sp, aMapUpdate, mp_140, plainKey, tk_3, hj]) | with_reducible first | refine nS ?_ | refine nD ?_ | refine rS fun bq hbq => ?_ | refine rK ?_ | refine rE ?_ | refine rXx ?_ | refine rR ?_ | refine x2 ?_ | refine x3 ?_ | refine x4 ?_ | refine r2 ?_ | refine r3 ?_ | refine r4 ?_
          refine hq _ ?_
          have hxm' : x ≠ m := hxm.2.2
          refine ⟨((finw2.trans hM2.1).new hxm.2.1), ?_, ⟨_, _, upd_same _ _ _, map_append es raw hrel⟩, fun e he => ?_⟩
          · rw [upd_other _ _ hxm', upd_other _ _ w2x, upd_other _ _ wx]; exact sx
          · rcases List.mem_append.1 he with he | he
            · exact hsz e he
            · rw [List.mem_singleton.1 he]; simp only; omega
      · rw [hn] at hq
        simp only at hq
        try dsimp only
        repeat first | ((first | (with_reducible first | refine sS ?_ | refine sA ?_ | refine sC ?_) | (with_reducible refine iT ?_; refine sT rfl ?_) | (with_reducible refine i0 ?_; refine s0 rfl ?_) | (with_reducible refine iO ?_; refine sO rfl ?_)); intro bC bR bU hC hR hU; simp only [go_sem, ↓reduceIte]; subst hC hR hU) | (with_reducible refine rN ?_; subst hbq) | (with_reducible refine iR ?_; refine rG (by simp only [compL, gtOf, nthDst]; exact rfl) ?_) | (with_reducible refine rB fun cq hcq => ?_; subst hcq) | (with_reducible refine x1 ?_; clear hbq bq) | (with_reducible refine r1 ?_; clear hbq bq) | (with_reducible refine x5 ?_ ?_; focus rfl) | (with_reducible refine iL ?_; refine rL (by rw [Tryz.results101]) (HLess.refl _) ?_; simp only [go_sem, ↓reduceIte, aPack, Option.some.injEq, exists_eq_left']) | with_reducible first | refine nS ?_ | refine nD ?_ | refine rS fun bq hbq => ?_ | refine rK ?_ | refine rE ?_ | refine rXx ?_ | refine rR ?_ | refine x2 ?_ | refine x3 ?_ | refine x4 ?_ | refine r2 ?_ | refine r3 ?_ | refine r4 ?_
        intro w hw
        try dsimp only
        repeat first | ((first | (with_reducible first | refine sS ?_ | refine sA ?_ | refine sC ?_) | (with_reducible refine iT ?_; refine sT rfl ?_) | (with_reducible refine i0 ?_; refine s0 rfl ?_) | (with_reducible refine iO ?_; refine sO rfl ?_)); intro bC bR bU hC hR hU; simp only [go_sem, ↓reduceIte]; subst hC hR hU) | (with_reducible refine rN ?_; subst hbq) | (with_reducible refine iR ?_; refine rG (by simp only [compL, gtOf, nthDst]; exact rfl) ?_) | (with_reducible refine rB fun cq hcq => ?_; subst hcq) | (with_reducible refine x1 ?_; clear hbq bq) | (with_reducible refine r1 ?_; clear hbq bq) | (with_reducible refine x5 ?_ ?_; focus rfl) | (with_reducible refine iL ?_; refine rL (by rw [Tryz.results101]) (HLess.one hw) ?_; simp only [go_sem, ↓reduceIte, aPack, Option.some.injEq, exists_eq_left']) | with_reducible first | refine nS ?_ | refine nD ?_ | refine rS fun bq hbq => ?_ | refine rK ?_ | refine rE ?_ | refine rXx ?_ | refine rR ?_ | refine x2 ?_ | refine x3 ?_ | refine x4 ?_ | refine r2 ?_ | refine r3 ?_ | refine r4 ?_
        exact hq _ hM2
/- The reference's match. -/


theorem closed_size : ∀ s, (∀ (t : Term) (us : List Term) (d : Int) (t' : Term), t.size ≤ s → closedF t us d = some t' → t'.size = t.size) ∧ (∀ (l us : List Term) (d : Int) (l' : List Term), sizes l ≤ s → closedL l us d = some l' → sizes l' = sizes l) := by
  intro s
  induction s with
  | zero =>
    refine ⟨fun t us d t' ht => ?_, fun l us d l' hl hw => ?_⟩
    · obtain ⟨a, b, c, l⟩ := t; rw [Term.size] at ht; omega
    · cases l with
      | nil => rw [closedL] at hw; injection hw with hw; subst hw; rfl
      | cons t ts => obtain ⟨a, b, c, l⟩ := t; rw [sizes, Term.size] at hl; omega
  | succ s ih =>
    have hT : ∀ (t : Term) (us : List Term) (d : Int) (t' : Term), t.size ≤ s + 1 → closedF t us d = some t' → t'.size = t.size := by
      intro t us d t' ht hw
      obtain ⟨k, n, nm, l⟩ := t
      rw [Term.size] at ht
      rw [closedF] at hw
      cases hh : cHead k n us d with
      | none => rw [hh] at hw; cases hw
      | some r =>
        rw [hh, Option.bind_some] at hw
        cases hl : closedL l us (inner k d) with
        | none => rw [hl] at hw; cases hw
        | some l' =>
          rw [hl, Option.map_some] at hw
          injection hw with hw
          subst hw
          rw [Term.size, Term.size, ih.2 l us _ l' (by omega) hl]
    refine ⟨hT, fun l => ?_⟩
    induction l with
    | nil => intro us d l' _ hw; rw [closedL] at hw; injection hw with hw; subst hw; rfl
    | cons t ts ihl =>
      intro us d l' hs hw
      rw [sizes] at hs
      rw [closedL] at hw
      cases ht : closedF t us d with
      | none => rw [ht] at hw; cases hw
      | some t' =>
        rw [ht, Option.bind_some] at hw
        cases hl : closedL ts us d with
        | none => rw [hl] at hw; cases hw
        | some l' =>
          rw [hl, Option.map_some] at hw
          injection hw with hw
          subst hw
          rw [sizes, sizes, hT t us d t' (by omega) ht, ihl us d l' (by omega) hl]

abbrev RSt := List (Option Term)
def tcell : Option Term → List AV
  | some t => cellsT t
  | none => [.int .i64 0, .int .i64 0, .str noName, .list 0 [] 0 .nil]
def icell (o : Option Term) : AV := .bool o.isSome
theorem tcell_length (o : Option Term) : (tcell o).length = 4 := by cases o <;> rfl
theorem flat_length {α : Type} {c : α → List AV} {z : Nat} (hz : ∀ x, (c x).length = z) : ∀ l : List α, (l.flatMap c).length = l.length * z
  | [] => by simp
  | x :: l => by rw [List.flatMap_cons, List.length_append, hz, flat_length hz l, List.length_cons, Nat.add_mul, Nat.one_mul, Nat.add_comm]
theorem flat_put {α : Type} {c : α → List AV} {z : Nat} (hz : ∀ x, (c x).length = z) (y : α) : ∀ (l : List α) (k : Nat), k < l.length → (l.flatMap c).take (k * z) ++ (c y ++ (l.flatMap c).drop (k * z + z)) = (l.set k y).flatMap c
  | [], k, hk => by simp at hk
  | x :: l, 0, hk => by
    simp only [Nat.zero_mul, List.take_zero, List.nil_append, Nat.zero_add, List.set_cons_zero, List.flatMap_cons]
    rw [← hz x, List.drop_left]
  | x :: l, k + 1, hk => by
    have := flat_put hz y l k (by simpa using hk)
    rw [List.set_cons_succ, List.flatMap_cons, List.flatMap_cons, ← this, Nat.add_mul, Nat.one_mul]
    have h1 : (c x ++ l.flatMap c).take (k * z + z) = c x ++ (l.flatMap c).take (k * z) := by
      rw [List.take_append, hz, List.take_of_length_le (by rw [hz]; omega), show k * z + z - z = k * z by omega]
    have h2 : (c x ++ l.flatMap c).drop (k * z + z + z) = (l.flatMap c).drop (k * z + z) := by
      rw [List.drop_append, hz, List.drop_of_length_le (by rw [hz]; omega), show k * z + z + z - z = k * z + z by omega, List.nil_append]
    rw [h1, h2, List.append_assoc]
theorem map_put {α : Type} (f : α → AV) (y : α) (l : List α) (k : Nat) (hk : k < l.length) : (l.map f).take k ++ (f y :: (l.map f).drop (k + 1)) = (l.set k y).map f := by
  have := flat_put (c := fun a => [f a]) (z := 1) (fun _ => rfl) y l k hk
  simp only [Nat.mul_one] at this
  have e : ∀ l : List α, l.flatMap (fun a => [f a]) = l.map f := fun l => by
    induction l with
    | nil => rfl
    | cons x l ih => rw [List.flatMap_cons, ih]; rfl
  rw [e, e] at this
  exact this
mutual
def matchR (pars : Int) : Term → Term → RSt → Option RSt
  | ⟨k, n, s, l⟩, b, st =>
    if k == 3 && decide (n ≥ pars) then (if b.kind == 5 then none else match closedF b l 0 with
      | none => none
      | some t => match st.getD n.toNat none with
        | some was => if sameF was t then some st else none
        | none => some (st.set n.toNat (some t)))
    else if k == b.kind && (n == b.n && (s.toList == b.name.toList && (l.length : Int) == b.args.length)) then matchRL pars l b.args st else none
def matchRL (pars : Int) : List Term → List Term → RSt → Option RSt
  | u :: l, m, st => match m with
    | [] => some st
    | v :: m => (matchR pars u v st).bind fun st' => matchRL pars l m st'
  | [], _, st => some st
end
theorem matchR_eq (pars : Int) (a b : Term) (st : RSt) : matchR pars a b st =
    if a.kind == 3 && decide (a.n ≥ pars) then (if b.kind == 5 then none else match closedF b a.args 0 with
      | none => none
      | some t => match st.getD a.n.toNat none with
        | some was => if sameF was t then some st else none
        | none => some (st.set a.n.toNat (some t)))
    else if a.kind == b.kind && (a.n == b.n && (a.name.toList == b.name.toList && (a.args.length : Int) == b.args.length)) then matchRL pars a.args b.args st else none := by
  obtain ⟨k, n, s, l⟩ := a
  rw [matchR]
mutual
def parOk : Term → Bool
  | ⟨k, n, _, l⟩ => (k != 3 || (decide (0 ≤ n) && decide (n < 60))) && parOkL l
def parOkL : List Term → Bool
  | [] => true
  | t :: ts => parOk t && parOkL ts
end
theorem parOkL_at : ∀ (l : List Term) (i : Nat) {t : Term}, parOkL l = true → l[i]? = some t → parOk t = true
  | [], i, t, _, hi => by simp at hi
  | u :: l, 0, t, ho, hi => by
    simp only [List.getElem?_cons_zero, Option.some.injEq] at hi; subst hi
    rw [parOkL, Bool.and_eq_true] at ho; exact ho.1
  | u :: l, i + 1, t, ho, hi => by
    simp only [List.getElem?_cons_succ] at hi
    rw [parOkL, Bool.and_eq_true] at ho; exact parOkL_at l i ho.2 hi
/-- The reference's matcher x: which parameters are there, and what they stand for, in the objects bi and bt. -/
structure RMatcher (x bi bt : Nat) (mv : AV) (pars : Int) (h0 : AHeap) (st : RSt) (h : AHeap) : Prop where
  less : HLess h h0
  obj : h x = some (.cells [.int .i64 pars, .sl bi 0 60, mv, .sl bt 0 60] 147)
  is : h bi = some (.cells (st.map icell) 4)
  tm : h bt = some (.cells (st.flatMap tcell) 27)
  len : st.length = 60
  small : ∀ t, some t ∈ st → t.size ≤ 1000000000
theorem RMatcher.mono {x bi bt : Nat} {mv : AV} {pars : Int} {h0 : AHeap} {st : RSt} {h h2 : AHeap} (k : RMatcher x bi bt mv pars h0 st h) (hl : HLess h2 h) : RMatcher x bi bt mv pars h0 st h2 :=
  ⟨hl.trans k.less, hl _ _ k.obj, hl _ _ k.is, hl _ _ k.tm, k.len, k.small⟩

theorem matchR_am (x bi bt : Nat) (mv : AV) (pars : Int) (hxi : x ≠ bi) (hxt : x ≠ bt) (hit : bi ≠ bt) : ∀ (s : Nat) (h0 : AHeap) (hx0 : h0 x = Option.none) (hi0 : h0 bi = Option.none) (ht0 : h0 bt = Option.none) (a b : Term) (st : RSt) (h : AHeap) (Q : AOut → AHeap → Prop), a.size ≤ s → a.size ≤ 1000000000 → b.size ≤ 1000000000 → parOk a = true → RMatcher x bi bt mv pars h0 st h →
    (∀ st' h2, matchR pars a b st = some st' → RMatcher x bi bt mv pars h0 st' h2 → Q (.ret (.bool true)) h2) → (∀ h2, matchR pars a b st = none → HLess h2 h0 → Q (.ret (.bool false)) h2) → AmCalls Tryz.prog 103 [.ptr x 0, enc a, enc b] h Q := by
  intro s
  induction s with
  | zero => intro h0 _ _ _ a b st h Q ht; obtain ⟨a, b, c, l⟩ := a; rw [Term.size] at ht; omega
  | succ s ih =>
    intro h0 hx0 hi0 ht0 a b st h Q ht hta htb hpo hM hq hn
    have hlen := length_args a
    rw [matchR_eq] at hq hn
    have hx := hM.obj
    have hbi := hM.is
    have hbt := hM.tm
    refine AmCalls.of_sem (fn := Tryz.f103) Tryz.func103 rfl (by kernel_rfl) (by rw [Tryz.ntmps103]; simp) (enters_of Tryz.func103 (by kernel_rfl) (by kernel_rfl)) ?_
    try dsimp only
    repeat first | ((first | (with_reducible first | refine sS ?_ | refine sA ?_ | refine sC ?_) | (with_reducible refine iT ?_; refine sT rfl ?_) | (with_reducible refine i0 ?_; refine s0 rfl ?_) | (with_reducible refine iO ?_; refine sO rfl ?_)); intro bC bR bU hC hR hU; simp only [go_sem, ↓reduceIte]; subst hC hR hU) | (with_reducible refine rN ?_; subst hbq) | (with_reducible refine iR ?_; refine rG (by simp only [compL, gtOf, nthDst]; exact rfl) ?_) | (with_reducible refine rB fun cq hcq => ?_; subst hcq) | (with_reducible refine x1 ?_; clear hbq bq) | (with_reducible refine r1 ?_; clear hbq bq) | (with_reducible refine x5 ?_ ?_; focus rfl) | (with_reducible refine iL ?_; refine rL (by rw [Tryz.results103]) (HLess.refl _) ?_; simp only [go_sem, ↓reduceIte, aPack, Option.some.injEq, exists_eq_left']) | with_reducible first | refine nS ?_ | refine nD ?_ | refine rS fun bq hbq => ?_ | refine rK ?_ | refine rE ?_ | refine rXx ?_ | refine rR ?_ | refine x2 ?_ | refine x3 ?_ | refine x4 ?_ | refine r2 ?_ | refine r3 ?_ | refine r4 ?_
    intro p hp
    have hpx := ne_of_new hp hx
    have hpi := ne_of_new hp hbi
    have hpt := ne_of_new hp hbt
    try dsimp only
    repeat first | ((first | (with_reducible first | refine sS ?_ | refine sA ?_ | refine sC ?_) | (with_reducible refine iT ?_; refine sT rfl ?_) | (with_reducible refine i0 ?_; refine s0 rfl ?_) | (with_reducible refine iO ?_; refine sO rfl ?_)); intro bC bR bU hC hR hU; simp only [go_sem, ↓reduceIte]; subst hC hR hU) | (with_reducible refine rN ?_; subst hbq) | (with_reducible refine iR ?_; refine rG (by simp only [compL, gtOf, nthDst]; exact rfl) ?_) | (with_reducible refine rB fun cq hcq => ?_; subst hcq) | (with_reducible refine x1 ?_; clear hbq bq) | (with_reducible refine r1 ?_; clear hbq bq) | (with_reducible refine x5 ?_ ?_; focus rfl) | (with_reducible refine iL ?_; refine rL (by rw [Tryz.results103]) (HLess.refl _) ?_; simp only [go_sem, ↓reduceIte, aPack, Option.some.injEq, exists_eq_left']) | with_reducible first | refine nS ?_ | refine nD ?_ | refine rS fun bq hbq => ?_ | refine rK ?_ | refine rE ?_ | refine rXx ?_ | refine rR ?_ | refine x2 ?_ | refine x3 ?_ | refine x4 ?_ | refine r2 ?_ | refine r3 ?_ | refine r4 ?_
    intro q hq'
    have e := fresh_if hq'
    have hqx := ne_of_new e.2 hx
    have hqi := ne_of_new e.2 hbi
    have hqt := ne_of_new e.2 hbt
    have fin : HLess (upd (upd h p (some (.cells (cellsT a) 27))) q (some (.cells (cellsT b) 27))) h := (HLess.refl h).new hp |>.new e.2
    try dsimp only
    repeat first | ((first | (with_reducible first | refine sS ?_ | refine sA ?_ | refine sC ?_) | (with_reducible refine iT ?_; refine sT rfl ?_) | (with_reducible refine i0 ?_; refine s0 rfl ?_) | (with_reducible refine iO ?_; refine sO rfl ?_)); intro bC bR bU hC hR hU; simp only [go_sem, ↓reduceIte]; subst hC hR hU) | (with_reducible refine rN ?_; subst hbq) | (with_reducible refine iR ?_; refine rG (by simp only [compL, gtOf, nthDst]; exact rfl) ?_) | (with_reducible refine rB fun cq hcq => ?_; subst hcq) | (with_reducible refine x1 ?_; clear hbq bq) | (with_reducible refine r1 ?_; clear hbq bq) | (with_reducible refine x5 ?_ ?_; focus rfl) | (with_reducible refine iL ?_; refine rL (by rw [Tryz.results103]) fin ?_; simp only [go_sem, ↓reduceIte, aPack, Option.some.injEq, exists_eq_left']) | with_reducible first | refine nS ?_ | refine nD ?_ | refine rS fun bq hbq => ?_ | refine rK ?_ | refine rE ?_ | refine rXx ?_ | refine rR ?_ | refine x2 ?_ | refine x3 ?_ | refine x4 ?_ | refine r2 ?_ | refine r3 ?_ | refine r4 ?_
    refine run_cutS (fun τ h' => τ 0 = .ptr x 0 ∧ τ 4 = .ptr p 0 ∧ τ 5 = .ptr q 0 ∧ τ 21 = .bool (a.kind == 3 && decide (a.n ≥ pars)) ∧ h' = upd (upd h p (some (.cells (cellsT a) 27))) q (some (.cells (cellsT b) 27))) ?_ fun τ h' hI => ?_
    · repeat with_reducible refine run_seq fun bq hbq => ?_
      refine run_draw (.take 0 (.take 1 (.take 2 (.take 3 (.take 4 (.take 5 (.take 6 (.take 7 (.take 8 (.take 9 (.take 10 (.take 11 (.done))))))))))))) (by kernel_rfl) (by simp only [compL, gtOf, nthDst]; exact rfl) ?_
      cases hk3 : (a.kind == 3)
      all_goals
        try dsimp only
        repeat first | ((first | (with_reducible first | refine sS ?_ | refine sA ?_ | refine sC ?_) | (with_reducible refine iT ?_; refine sT rfl ?_) | (with_reducible refine i0 ?_; refine s0 rfl ?_) | (with_reducible refine iO ?_; refine sO rfl ?_)); intro bC bR bU hC hR hU; simp only [go_sem, ↓reduceIte, e.1, e.1.symm, hk3, hqx, hpx, hx]; subst hC hR hU) | (with_reducible refine rN ?_; subst hbq) | (with_reducible refine iR ?_; refine rG (by simp only [compL, gtOf, nthDst]; exact rfl) ?_) | (with_reducible refine rB fun cq hcq => ?_; subst hcq) | (with_reducible refine x1 ?_; clear hbq bq) | (with_reducible refine r1 ?_; clear hbq bq) | (with_reducible refine x5 ?_ ?_; focus rfl) | (with_reducible refine iL ?_; refine rL (by rw [Tryz.results103]) fin ?_; simp only [go_sem, ↓reduceIte, aPack, Option.some.injEq, exists_eq_left', e.1, e.1.symm, hk3, hqx, hpx, hx]) | with_reducible first | refine nS ?_ | refine nD ?_ | refine rS fun bq hbq => ?_ | refine rK ?_ | refine rE ?_ | refine rXx ?_ | refine rR ?_ | refine x2 ?_ | refine x3 ?_ | refine x4 ?_ | refine r2 ?_ | refine r3 ?_ | refine r4 ?_
        refine run_endcut ?_
        simp only [go_sem, ↓reduceIte, hk3]
    obtain ⟨f0, f4, f5, f21, rfl⟩ := hI
    subst hbq
    have sp : (upd (upd h p (some (AObj.cells (cellsT a) 27))) q (some (AObj.cells (cellsT b) 27))) p = some (.cells (cellsT a) 27) := by rw [upd_other _ _ e.1.symm, upd_same]
    have sq : (upd (upd h p (some (AObj.cells (cellsT a) 27))) q (some (AObj.cells (cellsT b) 27))) q = some (.cells (cellsT b) 27) := upd_same _ _ _
    have hM2 : RMatcher x bi bt mv pars h0 st (upd (upd h p (some (AObj.cells (cellsT a) 27))) q (some (AObj.cells (cellsT b) 27))) := hM.mono fin
    generalize upd (upd h p (some (AObj.cells (cellsT a) 27))) q (some (AObj.cells (cellsT b) 27)) = H at *
    have sx := hM2.obj
    have si := hM2.is
    have stt := hM2.tm
    have slen := hM2.len
    have spx : x ≠ p := hpx
    cases hv : (a.kind == 3 && decide (a.n ≥ pars))
    · rw [hv] at f21
      simp only [hv, Bool.false_eq_true, if_false] at hq hn
      cases c1 : (a.kind == b.kind)
      · simp only [c1, Bool.false_and, Bool.false_eq_true, if_false] at hn
        try dsimp only
        repeat first | ((first | (with_reducible first | refine sS ?_ | refine sA ?_ | refine sC ?_) | (with_reducible refine iT ?_; refine sT rfl ?_) | (with_reducible refine i0 ?_; refine s0 rfl ?_) | (with_reducible refine iO ?_; refine sO rfl ?_)); intro bC bR bU hC hR hU; simp only [go_sem, ↓reduceIte, f0, f4, f5, f21, sp, sq, c1]; subst hC hR hU) | (with_reducible refine rN ?_; subst hbq) | (with_reducible refine iR ?_; refine rG (by simp only [compL, gtOf, nthDst]; exact rfl) ?_) | (with_reducible refine rB fun cq hcq => ?_; subst hcq) | (with_reducible refine x1 ?_; clear hbq bq) | (with_reducible refine r1 ?_; clear hbq bq) | (with_reducible refine x5 ?_ ?_; focus rfl) | (with_reducible refine iL ?_; refine rL (by rw [Tryz.results103]) (HLess.refl _) ?_; simp only [go_sem, ↓reduceIte, aPack, Option.some.injEq, exists_eq_left', f0, f4, f5, f21, sp, sq, c1]) | with_reducible first | refine nS ?_ | refine nD ?_ | refine rS fun bq hbq => ?_ | refine rK ?_ | refine rE ?_ | refine rXx ?_ | refine rR ?_ | refine x2 ?_ | refine x3 ?_ | refine x4 ?_ | refine r2 ?_ | refine r3 ?_ | refine r4 ?_
        exact hn _ trivial hM2.less
      cases c2 : (a.n == b.n)
      · simp only [c1, c2, Bool.false_and, Bool.and_false, Bool.false_eq_true, if_false] at hn
        try dsimp only
        repeat first | ((first | (with_reducible first | refine sS ?_ | refine sA ?_ | refine sC ?_) | (with_reducible refine iT ?_; refine sT rfl ?_) | (with_reducible refine i0 ?_; refine s0 rfl ?_) | (with_reducible refine iO ?_; refine sO rfl ?_)); intro bC bR bU hC hR hU; simp only [go_sem, ↓reduceIte, f0, f4, f5, f21, sp, sq, c1, c2]; subst hC hR hU) | (with_reducible refine rN ?_; subst hbq) | (with_reducible refine iR ?_; refine rG (by simp only [compL, gtOf, nthDst]; exact rfl) ?_) | (with_reducible refine rB fun cq hcq => ?_; subst hcq) | (with_reducible refine x1 ?_; clear hbq bq) | (with_reducible refine r1 ?_; clear hbq bq) | (with_reducible refine x5 ?_ ?_; focus rfl) | (with_reducible refine iL ?_; refine rL (by rw [Tryz.results103]) (HLess.refl _) ?_; simp only [go_sem, ↓reduceIte, aPack, Option.some.injEq, exists_eq_left', f0, f4, f5, f21, sp, sq, c1, c2]) | with_reducible first | refine nS ?_ | refine nD ?_ | refine rS fun bq hbq => ?_ | refine rK ?_ | refine rE ?_ | refine rXx ?_ | refine rR ?_ | refine x2 ?_ | refine x3 ?_ | refine x4 ?_ | refine r2 ?_ | refine r3 ?_ | refine r4 ?_
        exact hn _ trivial hM2.less
      cases c3 : (a.name.toList == b.name.toList)
      · simp only [c1, c2, c3, Bool.false_and, Bool.and_false, Bool.false_eq_true, if_false] at hn
        try dsimp only
        repeat first | ((first | (with_reducible first | refine sS ?_ | refine sA ?_ | refine sC ?_) | (with_reducible refine iT ?_; refine sT rfl ?_) | (with_reducible refine i0 ?_; refine s0 rfl ?_) | (with_reducible refine iO ?_; refine sO rfl ?_)); intro bC bR bU hC hR hU; simp only [go_sem, ↓reduceIte, f0, f4, f5, f21, sp, sq, c1, c2, c3]; subst hC hR hU) | (with_reducible refine rN ?_; subst hbq) | (with_reducible refine iR ?_; refine rG (by simp only [compL, gtOf, nthDst]; exact rfl) ?_) | (with_reducible refine rB fun cq hcq => ?_; subst hcq) | (with_reducible refine x1 ?_; clear hbq bq) | (with_reducible refine r1 ?_; clear hbq bq) | (with_reducible refine x5 ?_ ?_; focus rfl) | (with_reducible refine iL ?_; refine rL (by rw [Tryz.results103]) (HLess.refl _) ?_; simp only [go_sem, ↓reduceIte, aPack, Option.some.injEq, exists_eq_left', f0, f4, f5, f21, sp, sq, c1, c2, c3]) | with_reducible first | refine nS ?_ | refine nD ?_ | refine rS fun bq hbq => ?_ | refine rK ?_ | refine rE ?_ | refine rXx ?_ | refine rR ?_ | refine x2 ?_ | refine x3 ?_ | refine x4 ?_ | refine r2 ?_ | refine r3 ?_ | refine r4 ?_
        exact hn _ trivial hM2.less
      cases c4 : ((a.args.length : Int) == b.args.length)
      · simp only [c1, c2, c3, c4, Bool.and_false, Bool.false_eq_true, if_false] at hn
        try dsimp only
        repeat first | ((first | (with_reducible first | refine sS ?_ | refine sA ?_ | refine sC ?_) | (with_reducible refine iT ?_; refine sT rfl ?_) | (with_reducible refine i0 ?_; refine s0 rfl ?_) | (with_reducible refine iO ?_; refine sO rfl ?_)); intro bC bR bU hC hR hU; simp only [go_sem, ↓reduceIte, f0, f4, f5, f21, sp, sq, c1, c2, c3, c4]; subst hC hR hU) | (with_reducible refine rN ?_; subst hbq) | (with_reducible refine iR ?_; refine rG (by simp only [compL, gtOf, nthDst]; exact rfl) ?_) | (with_reducible refine rB fun cq hcq => ?_; subst hcq) | (with_reducible refine x1 ?_; clear hbq bq) | (with_reducible refine r1 ?_; clear hbq bq) | (with_reducible refine x5 ?_ ?_; focus rfl) | (with_reducible refine iL ?_; refine rL (by rw [Tryz.results103]) (HLess.refl _) ?_; simp only [go_sem, ↓reduceIte, aPack, Option.some.injEq, exists_eq_left', f0, f4, f5, f21, sp, sq, c1, c2, c3, c4]) | with_reducible first | refine nS ?_ | refine nD ?_ | refine rS fun bq hbq => ?_ | refine rK ?_ | refine rE ?_ | refine rXx ?_ | refine rR ?_ | refine x2 ?_ | refine x3 ?_ | refine x4 ?_ | refine r2 ?_ | refine r3 ?_ | refine r4 ?_
        exact hn _ trivial hM2.less
      simp only [c1, c2, c3, c4, Bool.and_self, if_true] at hq hn
      have hlab : a.args.length = b.args.length := by simp only [beq_iff_eq] at c4; omega
      have hpoL : parOkL a.args = true := by obtain ⟨k, n, nm, l⟩ := a; rw [parOk, Bool.and_eq_true] at hpo; exact hpo.2
      try dsimp only
      repeat first | ((first | (with_reducible first | refine sS ?_ | refine sA ?_ | refine sC ?_) | (with_reducible refine iT ?_; refine sT rfl ?_) | (with_reducible refine i0 ?_; refine s0 rfl ?_) | (with_reducible refine iO ?_; refine sO rfl ?_)); intro bC bR bU hC hR hU; simp only [go_sem, ↓reduceIte, f0, f4, f5, f21, sp, sq, c1, c2, c3, c4]; subst hC hR hU) | (with_reducible refine rN ?_; subst hbq) | (with_reducible refine iR ?_; refine rG (by simp only [compL, gtOf, nthDst]; exact rfl) ?_) | (with_reducible refine rB fun cq hcq => ?_; subst hcq) | (with_reducible refine x1 ?_; clear hbq bq) | (with_reducible refine r1 ?_; clear hbq bq) | (with_reducible refine x5 ?_ ?_; focus rfl) | (with_reducible refine iL ?_; refine rL (by rw [Tryz.results103]) (HLess.refl _) ?_; simp only [go_sem, ↓reduceIte, aPack, Option.some.injEq, exists_eq_left', f0, f4, f5, f21, sp, sq, c1, c2, c3, c4]) | with_reducible first | refine nS ?_ | refine nD ?_ | refine rS fun bq hbq => ?_ | refine rK ?_ | refine rE ?_ | refine rXx ?_ | refine rR ?_ | refine x2 ?_ | refine x3 ?_ | refine x4 ?_ | refine r2 ?_ | refine r3 ?_ | refine r4 ?_
      refine run_loop (fun k τ h' => ∃ (i : Nat) (st' : RSt), k + i = a.args.length ∧ matchRL pars (a.args.drop i) (b.args.drop i) st' = matchRL pars a.args b.args st ∧ τ 0 = .ptr x 0 ∧ τ 4 = .ptr p 0 ∧ τ 5 = .ptr q 0 ∧ τ 9 = .int .i64 i ∧ RMatcher x bi bt mv pars h0 st' h' ∧ h' p = some (.cells (cellsT a) 27) ∧ h' q = some (.cells (cellsT b) 27)) a.args.length ?_ ?_
      · exact ⟨0, st, rfl, rfl, f0, f4, f5, rfl, hM2, sp, sq⟩
      · intro c hc k τ h' hI
        clear f0 f4 f5 f21 sx si stt slen hx hbi hbt
        obtain ⟨i, st', hk, hix, f0, f4, f5, f9, hM3, mp, mq⟩ := hI
        subst hc
        by_cases hi : i < a.args.length
        · have hib : i < b.args.length := by omega
          obtain ⟨u, hu⟩ : ∃ u, a.args[i]? = some u := ⟨_, List.getElem?_eq_getElem hi⟩
          obtain ⟨v, hv2⟩ : ∃ v, b.args[i]? = some v := ⟨_, List.getElem?_eq_getElem hib⟩
          obtain ⟨r, hr⟩ := encs_at a.args i hu
          obtain ⟨r2, hr2⟩ := encs_at b.args i hv2
          have hsz := size_arg a i hu
          have hsz2 := size_arg b i hv2
          have hdrop : a.args.drop i = u :: a.args.drop (i + 1) := by
            rw [List.drop_eq_getElem_cons hi]
            rw [List.getElem?_eq_getElem hi] at hu; injection hu with hu; rw [hu]
          have hdrop2 : b.args.drop i = v :: b.args.drop (i + 1) := by
            rw [List.drop_eq_getElem_cons hib]
            rw [List.getElem?_eq_getElem hib] at hv2; injection hv2 with hv2; rw [hv2]
          rw [hdrop, hdrop2, matchRL] at hix
          have epx : p ≠ x := fun e => hpx e.symm
          have epi : p ≠ bi := fun e => hpi e.symm
          have ept : p ≠ bt := fun e => hpt e.symm
          have eqx : q ≠ x := fun e => hqx e.symm
          have eqi : q ≠ bi := fun e => hqi e.symm
          have eqt : q ≠ bt := fun e => hqt e.symm
          have hl1 : HLess h' (upd (upd (upd h' x Option.none) bi Option.none) bt Option.none) := by
            intro j o hj
            by_cases e1 : j = bt
            · subst e1; rw [upd_same] at hj; cases hj
            · rw [upd_other _ _ e1] at hj
              by_cases e2 : j = bi
              · subst e2; rw [upd_same] at hj; cases hj
              · rw [upd_other _ _ e2] at hj
                by_cases e3 : j = x
                · subst e3; rw [upd_same] at hj; cases hj
                · rw [upd_other _ _ e3] at hj; exact hj
          have hl2 : HLess (upd (upd (upd h' x Option.none) bi Option.none) bt Option.none) h0 := by
            intro j o hj
            have e1 : j ≠ bt := by intro e1; subst e1; rw [ht0] at hj; cases hj
            have e2 : j ≠ bi := by intro e1; subst e1; rw [hi0] at hj; cases hj
            have e3 : j ≠ x := by intro e1; subst e1; rw [hx0] at hj; cases hj
            rw [upd_other _ _ e1, upd_other _ _ e2, upd_other _ _ e3]
            exact hM3.less j o hj
          have np : upd (upd (upd h' x Option.none) bi Option.none) bt Option.none p = some (.cells (cellsT a) 27) := by rw [upd_other _ _ ept, upd_other _ _ epi, upd_other _ _ epx]; exact mp
          have nq : upd (upd (upd h' x Option.none) bi Option.none) bt Option.none q = some (.cells (cellsT b) 27) := by rw [upd_other _ _ eqt, upd_other _ _ eqi, upd_other _ _ eqx]; exact mq
          try dsimp only
          repeat first | ((first | (with_reducible first | refine sS ?_ | refine sA ?_ | refine sC ?_) | (with_reducible refine iT ?_; refine sT rfl ?_) | (with_reducible refine i0 ?_; refine s0 rfl ?_) | (with_reducible refine iO ?_; refine sO rfl ?_)); intro bC bR bU hC hR hU; simp only [go_sem, ↓reduceIte, f0, f4, f5, f9, mp, mq, hi, hib, hr, hr2]; subst hC hR hU) | (with_reducible refine rN ?_; subst hbq) | (with_reducible refine iR ?_; refine rG (by simp only [compL, gtOf, nthDst]; exact rfl) ?_) | (with_reducible refine rB fun cq hcq => ?_; subst hcq) | (with_reducible refine x1 ?_; clear hbq bq) | (with_reducible refine r1 ?_; clear hbq bq) | (with_reducible refine x5 ?_ ?_; focus rfl) | (with_reducible refine iL ?_; refine rL (by rw [Tryz.results103]) (HLess.refl _) ?_; simp only [go_sem, ↓reduceIte, aPack, Option.some.injEq, exists_eq_left', f0, f4, f5, f9, mp, mq, hi, hib, hr, hr2]) | with_reducible first | refine nS ?_ | refine nD ?_ | refine rS fun bq hbq => ?_ | refine rK ?_ | refine rE ?_ | refine rXx ?_ | refine rR ?_ | refine x2 ?_ | refine x3 ?_ | refine x4 ?_ | refine r2 ?_ | refine r3 ?_ | refine r4 ?_
          repeat with_reducible refine run_seq fun bq hbq => ?_
          refine run_draw (.take 0 (.take 1 (.take 2 (.take 3 (.take 4 (.take 5 (.take 6 (.take 7 (.take 8 (.take 9 (.take 10 (.one 11 [7, 2] (.take 12 (.done)))))))))))))) (by kernel_rfl) (by simp only [compL, gtOf, nthDst]; exact rfl) ?_
          try dsimp only
          repeat first | ((first | (with_reducible first | refine sS ?_ | refine sA ?_ | refine sC ?_) | (with_reducible refine iT ?_; refine sT rfl ?_) | (with_reducible refine i0 ?_; refine s0 rfl ?_) | (with_reducible refine iO ?_; refine sO rfl ?_)); intro bC bR bU hC hR hU; simp only [go_sem, ↓reduceIte, f0, f4, f5, f9, mp, mq, hi, hib, hr, hr2]; subst hC hR hU) | (with_reducible refine rN ?_; subst hbq) | (with_reducible refine iR ?_; refine rG (by simp only [compL, gtOf, nthDst]; exact rfl) ?_) | (with_reducible refine rB fun cq hcq => ?_; subst hcq) | (with_reducible refine x1 ?_; clear hbq bq) | (with_reducible refine r1 ?_; clear hbq bq) | (with_reducible refine x5 ?_ ?_; focus rfl) | (with_reducible refine iL ?_; refine rL (by rw [Tryz.results103]) (HLess.refl _) ?_; simp only [go_sem, ↓reduceIte, aPack, Option.some.injEq, exists_eq_left', f0, f4, f5, f9, mp, mq, hi, hib, hr, hr2]) | with_reducible first | refine nS ?_ | refine nD ?_ | refine rS fun bq hbq => ?_ | refine rK ?_ | refine rE ?_ | refine rXx ?_ | refine rR ?_ | refine x2 ?_ | refine x3 ?_ | refine x4 ?_ | refine r2 ?_ | refine r3 ?_ | refine r4 ?_
          refine ih (upd (upd (upd h' x Option.none) bi Option.none) bt Option.none) (by rw [upd_other _ _ hxt, upd_other _ _ hxi, upd_same]) (by rw [upd_other _ _ hit, upd_same]) (upd_same _ _ _) u v st' h' _ (by omega) (by omega) (by omega) (parOkL_at _ i hpoL hu) ⟨hl1, hM3.obj, hM3.is, hM3.tm, hM3.len, hM3.small⟩ (fun st2 h2 hs2 hM4 => ?_) (fun h2 hs2 hl4 => ?_)
          · rw [hs2, Option.bind_some] at hix
            have mp2 := hM4.less _ _ np
            have mq2 := hM4.less _ _ nq
            try dsimp only
            repeat first | ((first | (with_reducible first | refine sS ?_ | refine sA ?_ | refine sC ?_) | (with_reducible refine iT ?_; refine sT rfl ?_) | (with_reducible refine i0 ?_; refine s0 rfl ?_) | (with_reducible refine iO ?_; refine sO rfl ?_)); intro bC bR bU hC hR hU; simp only [go_sem, ↓reduceIte, f0, f4, f5, f9, mp, mq, mp2, mq2, hi, hib, hr, hr2, wrap_in (show -9223372036854775808 ≤ (i : Int) + 1 by omega) (show (i : Int) + 1 ≤ 9223372036854775807 by omega)]; subst hC hR hU) | (with_reducible refine rN ?_; subst hbq) | (with_reducible refine iR ?_; refine rG (by simp only [compL, gtOf, nthDst]; exact rfl) ?_) | (with_reducible refine rB fun cq hcq => ?_; subst hcq) | (with_reducible refine x1 ?_; clear hbq bq) | (with_reducible refine r1 ?_; clear hbq bq) | (with_reducible refine x5 ?_ ?_; focus rfl) | (with_reducible refine iL ?_; refine rL (by rw [Tryz.results103]) (HLess.refl _) ?_; simp only [go_sem, ↓reduceIte, aPack, Option.some.injEq, exists_eq_left', f0, f4, f5, f9, mp, mq, mp2, mq2, hi, hib, hr, hr2, wrap_in (show -9223372036854775808 ≤ (i : Int) + 1 by omega) (show (i : Int) + 1 ≤ 9223372036854775807 by omega)]) | with_reducible first | refine nS ?_ | refine nD ?_ | refine rS fun bq hbq => ?_ | refine rK ?_ | refine rE ?_ | refine rXx ?_ | refine rR ?_ | refine x2 ?_ | refine x3 ?_ | refine x4 ?_ | refine r2 ?_ | refine r3 ?_ | refine r4 ?_
            refine run_loopN (m := k - 1) (by omega) ⟨i + 1, st2, by omega, hix, ?_⟩
            simp only [go_sem, ↓reduceIte, f0, f4, f5, f9]
            exact ⟨rfl, ⟨hM4.less.trans hl2, hM4.obj, hM4.is, hM4.tm, hM4.len, hM4.small⟩, mp2, mq2⟩
          · rw [hs2, Option.bind_none] at hix
            have mp2 := hl4 _ _ np
            have mq2 := hl4 _ _ nq
            try dsimp only
            repeat first | ((first | (with_reducible first | refine sS ?_ | refine sA ?_ | refine sC ?_) | (with_reducible refine iT ?_; refine sT rfl ?_) | (with_reducible refine i0 ?_; refine s0 rfl ?_) | (with_reducible refine iO ?_; refine sO rfl ?_)); intro bC bR bU hC hR hU; simp only [go_sem, ↓reduceIte, f0, f4, f5, f9, mp, mq, mp2, mq2, hi, hib, hr, hr2]; subst hC hR hU) | (with_reducible refine rN ?_; subst hbq) | (with_reducible refine iR ?_; refine rG (by simp only [compL, gtOf, nthDst]; exact rfl) ?_) | (with_reducible refine rB fun cq hcq => ?_; subst hcq) | (with_reducible refine x1 ?_; clear hbq bq) | (with_reducible refine r1 ?_; clear hbq bq) | (with_reducible refine x5 ?_ ?_; focus rfl) | (with_reducible refine iL ?_; refine rL (by rw [Tryz.results103]) (HLess.refl _) ?_; simp only [go_sem, ↓reduceIte, aPack, Option.some.injEq, exists_eq_left', f0, f4, f5, f9, mp, mq, mp2, mq2, hi, hib, hr, hr2]) | with_reducible first | refine nS ?_ | refine nD ?_ | refine rS fun bq hbq => ?_ | refine rK ?_ | refine rE ?_ | refine rXx ?_ | refine rR ?_ | refine x2 ?_ | refine x3 ?_ | refine x4 ?_ | refine r2 ?_ | refine r3 ?_ | refine r4 ?_
            exact hn _ hix.symm (hl4.trans hl2)
        · rw [List.drop_eq_nil_of_le (by omega), matchRL] at hix
          try dsimp only
          repeat first | ((first | (with_reducible first | refine sS ?_ | refine sA ?_ | refine sC ?_) | (with_reducible refine iT ?_; refine sT rfl ?_) | (with_reducible refine i0 ?_; refine s0 rfl ?_) | (with_reducible refine iO ?_; refine sO rfl ?_)); intro bC bR bU hC hR hU; simp only [go_sem, ↓reduceIte, f0, f4, f5, f9, mp, mq, hi]; subst hC hR hU) | (with_reducible refine rN ?_; subst hbq) | (with_reducible refine iR ?_; refine rG (by simp only [compL, gtOf, nthDst]; exact rfl) ?_) | (with_reducible refine rB fun cq hcq => ?_; subst hcq) | (with_reducible refine x1 ?_; clear hbq bq) | (with_reducible refine r1 ?_; clear hbq bq) | (with_reducible refine x5 ?_ ?_; focus rfl) | (with_reducible refine iL ?_; refine rL (by rw [Tryz.results103]) (HLess.refl _) ?_; simp only [go_sem, ↓reduceIte, aPack, Option.some.injEq, exists_eq_left', f0, f4, f5, f9, mp, mq, hi]) | with_reducible first | refine nS ?_ | refine nD ?_ | refine rS fun bq hbq => ?_ | refine rK ?_ | refine rE ?_ | refine rXx ?_ | refine rR ?_ | refine x2 ?_ | refine x3 ?_ | refine x4 ?_ | refine r2 ?_ | refine r3 ?_ | refine r4 ?_
          exact hq _ _ hix.symm hM3
    · rw [hv] at f21
      simp only [hv, if_true] at hq hn
      have hnr : 0 ≤ a.n ∧ a.n < 60 := by
        obtain ⟨k, n, nm, l⟩ := a
        rw [parOk, Bool.and_eq_true] at hpo
        have h1 := hpo.1
        have h2 := (Bool.and_eq_true_iff.1 hv).1
        simp only [bne, h2, Bool.not_true, Bool.false_or, Bool.and_eq_true, decide_eq_true_eq] at h1
        exact h1
      obtain ⟨nn, hnn⟩ : ∃ nn : Nat, a.n = nn := ⟨a.n.toNat, (Int.toNat_of_nonneg hnr.1).symm⟩
      have hnl : nn < st.length := by omega
      cases hb5 : (b.kind == 5)
      case true =>
        simp only [hb5, if_true] at hn
        try dsimp only
        repeat first | ((first | (with_reducible first | refine sS ?_ | refine sA ?_ | refine sC ?_) | (with_reducible refine iT ?_; refine sT rfl ?_) | (with_reducible refine i0 ?_; refine s0 rfl ?_) | (with_reducible refine iO ?_; refine sO rfl ?_)); intro bC bR bU hC hR hU; simp only [go_sem, ↓reduceIte, f5, f21, sq, hb5]; subst hC hR hU) | (with_reducible refine rN ?_; subst hbq) | (with_reducible refine iR ?_; refine rG (by simp only [compL, gtOf, nthDst]; exact rfl) ?_) | (with_reducible refine rB fun cq hcq => ?_; subst hcq) | (with_reducible refine x1 ?_; clear hbq bq) | (with_reducible refine r1 ?_; clear hbq bq) | (with_reducible refine x5 ?_ ?_; focus rfl) | (with_reducible refine iL ?_; refine rL (by rw [Tryz.results103]) (HLess.refl _) ?_; simp only [go_sem, ↓reduceIte, aPack, Option.some.injEq, exists_eq_left', f5, f21, sq, hb5]) | with_reducible first | refine nS ?_ | refine nD ?_ | refine rS fun bq hbq => ?_ | refine rK ?_ | refine rE ?_ | refine rXx ?_ | refine rR ?_ | refine x2 ?_ | refine x3 ?_ | refine x4 ?_ | refine r2 ?_ | refine r3 ?_ | refine r4 ?_
        exact hn _ trivial hM2.less
      simp only [hb5, Bool.false_eq_true, if_false] at hq hn
      obtain ⟨o, ho⟩ : ∃ o, st[nn]? = some o := ⟨_, List.getElem?_eq_getElem hnl⟩
      have hget : st.getD a.n.toNat none = o := by rw [hnn, Int.toNat_natCast, List.getD_eq_getElem?_getD, ho]; rfl
      rw [hget] at hq hn
      have d1 : (List.drop nn (st.map icell)).head? = some (icell o) := by rw [List.head?_drop, List.getElem?_map, ho]; rfl
      obtain ⟨r4, d4⟩ := flat_drop (c := tcell) (z := 4) tcell_length st nn ho
      have l1 : (nn + 1 ≤ (st.map icell).length) = True := eq_true (by rw [List.length_map]; omega)
      have l4 : (nn * 4 + 4 ≤ (st.flatMap tcell).length) = True := eq_true (by rw [flat_length tcell_length, slen]; omega)
      have i60 : (nn < 60) = True := eq_true (by omega)
      try dsimp only
      repeat first | ((first | (with_reducible first | refine sS ?_ | refine sA ?_ | refine sC ?_) | (with_reducible refine iT ?_; refine sT rfl ?_) | (with_reducible refine i0 ?_; refine s0 rfl ?_) | (with_reducible refine iO ?_; refine sO rfl ?_)); intro bC bR bU hC hR hU; simp only [go_sem, ↓reduceIte, f4, f5, f21, sp, sq, hb5]; subst hC hR hU) | (with_reducible refine rN ?_; subst hbq) | (with_reducible refine iR ?_; refine rG (by simp only [compL, gtOf, nthDst]; exact rfl) ?_) | (with_reducible refine rB fun cq hcq => ?_; subst hcq) | (with_reducible refine x1 ?_; clear hbq bq) | (with_reducible refine r1 ?_; clear hbq bq) | (with_reducible refine x5 ?_ ?_; focus rfl) | (with_reducible refine iL ?_; refine rL (by rw [Tryz.results103]) (HLess.refl _) ?_; simp only [go_sem, ↓reduceIte, aPack, Option.some.injEq, exists_eq_left', f4, f5, f21, sp, sq, hb5]) | with_reducible first | refine nS ?_ | refine nD ?_ | refine rS fun bq hbq => ?_ | refine rK ?_ | refine rE ?_ | refine rXx ?_ | refine rR ?_ | refine x2 ?_ | refine x3 ?_ | refine x4 ?_ | refine r2 ?_ | refine r3 ?_ | refine r4 ?_
      refine closed_am b.size b a.args 0 _ _ (Nat.le_refl _) (by decide) (by omega) (by omega) (fun t ht => ?_) (fun hno t0 => ?_)
      · rw [ht] at hq hn
        simp only at hq hn
        have htsz := (closed_size b.size).1 b a.args 0 t (Nat.le_refl _) ht
        try dsimp only
        repeat first | ((first | (with_reducible first | refine sS ?_ | refine sA ?_ | refine sC ?_) | (with_reducible refine iT ?_; refine sT rfl ?_) | (with_reducible refine i0 ?_; refine s0 rfl ?_) | (with_reducible refine iO ?_; refine sO rfl ?_)); intro bC bR bU hC hR hU; simp only [go_sem, ↓reduceIte]; subst hC hR hU) | (with_reducible refine rN ?_; subst hbq) | (with_reducible refine iR ?_; refine rG (by simp only [compL, gtOf, nthDst]; exact rfl) ?_) | (with_reducible refine rB fun cq hcq => ?_; subst hcq) | (with_reducible refine x1 ?_; clear hbq bq) | (with_reducible refine r1 ?_; clear hbq bq) | (with_reducible refine x5 ?_ ?_; focus rfl) | (with_reducible refine iL ?_; refine rL (by rw [Tryz.results103]) (HLess.refl _) ?_; simp only [go_sem, ↓reduceIte, aPack, Option.some.injEq, exists_eq_left']) | with_reducible first | refine nS ?_ | refine nD ?_ | refine rS fun bq hbq => ?_ | refine rK ?_ | refine rE ?_ | refine rXx ?_ | refine rR ?_ | refine x2 ?_ | refine x3 ?_ | refine x4 ?_ | refine r2 ?_ | refine r3 ?_ | refine r4 ?_
        intro w hw
        have wx := ne_of_new hw sx
        have wi := ne_of_new hw si
        have wt := ne_of_new hw stt
        have wp := ne_of_new hw sp
        have finw : HLess (upd H w (some (.cells (cellsT t) 27))) H := HLess.one hw
        have hM3 := hM2.mono finw
        try dsimp only
        repeat first | ((first | (with_reducible first | refine sS ?_ | refine sA ?_ | refine sC ?_) | (with_reducible refine iT ?_; refine sT rfl ?_) | (with_reducible refine i0 ?_; refine s0 rfl ?_) | (with_reducible refine iO ?_; refine sO rfl ?_)); intro bC bR bU hC hR hU; simp only [go_sem, ↓reduceIte]; subst hC hR hU) | (with_reducible refine rN ?_; subst hbq) | (with_reducible refine iR ?_; refine rG (by simp only [compL, gtOf, nthDst]; exact rfl) ?_) | (with_reducible refine rB fun cq hcq => ?_; subst hcq) | (with_reducible refine x1 ?_; clear hbq bq) | (with_reducible refine r1 ?_; clear hbq bq) | (with_reducible refine x5 ?_ ?_; focus rfl) | (with_reducible refine iL ?_; refine rL (by rw [Tryz.results103]) (HLess.refl _) ?_; simp only [go_sem, ↓reduceIte, aPack, Option.some.injEq, exists_eq_left']) | with_reducible first | refine nS ?_ | refine nD ?_ | refine rS fun bq hbq => ?_ | refine rK ?_ | refine rE ?_ | refine rXx ?_ | refine rR ?_ | refine x2 ?_ | refine x3 ?_ | refine x4 ?_ | refine r2 ?_ | refine r3 ?_ | refine r4 ?_
        repeat with_reducible refine run_seq fun bq hbq => ?_
        refine run_draw (.take 0 (.take 1 (.take 2 (.take 3 (.take 4 (.take 5 (.take 6 (.take 7 (.done))))))))) (by kernel_rfl) (by simp only [compL, gtOf, nthDst]; exact rfl) ?_
        cases o with
        | some was =>
          simp only at hq hn
          have hwsz : was.size ≤ 1000000000 := hM2.small was (List.mem_of_getElem? ho)
          try dsimp only
          repeat first | ((first | (with_reducible first | refine sS ?_ | refine sA ?_ | refine sC ?_) | (with_reducible refine iT ?_; refine sT rfl ?_) | (with_reducible refine i0 ?_; refine s0 rfl ?_) | (with_reducible refine iO ?_; refine sO rfl ?_)); intro bC bR bU hC hR hU; simp only [go_sem, ↓reduceIte, f0, f4, wx, wi, wt, wp, sx, si, stt, sp, hnn, d1, l1, d4, l4, i60, icell, Option.isSome_some]; subst hC hR hU) | (with_reducible refine rN ?_; subst hbq) | (with_reducible refine iR ?_; refine rG (by simp only [compL, gtOf, nthDst]; exact rfl) ?_) | (with_reducible refine rB fun cq hcq => ?_; subst hcq) | (with_reducible refine x1 ?_; clear hbq bq) | (with_reducible refine r1 ?_; clear hbq bq) | (with_reducible refine x5 ?_ ?_; focus rfl) | (with_reducible refine iL ?_; refine rL (by rw [Tryz.results103]) (HLess.refl _) ?_; simp only [go_sem, ↓reduceIte, aPack, Option.some.injEq, exists_eq_left', f0, f4, wx, wi, wt, wp, sx, si, stt, sp, hnn, d1, l1, d4, l4, i60, icell, Option.isSome_some]) | with_reducible first | refine nS ?_ | refine nD ?_ | refine rS fun bq hbq => ?_ | refine rK ?_ | refine rE ?_ | refine rXx ?_ | refine rR ?_ | refine x2 ?_ | refine x3 ?_ | refine x4 ?_ | refine r2 ?_ | refine r3 ?_ | refine r4 ?_
          repeat with_reducible refine run_seq fun bq hbq => ?_
          refine run_draw (.take 0 (.take 1 (.take 2 (.take 3 (.take 4 (.take 5 (.take 6 (.take 7 (.take 8 (.take 9 (.take 10 (.one 11 [7, 5] (.take 12 (.take 13 (.done))))))))))))))) (by kernel_rfl) (by simp only [compL, gtOf, nthDst]; exact rfl) ?_
          try dsimp only
          repeat first | ((first | (with_reducible first | refine sS ?_ | refine sA ?_ | refine sC ?_) | (with_reducible refine iT ?_; refine sT rfl ?_) | (with_reducible refine i0 ?_; refine s0 rfl ?_) | (with_reducible refine iO ?_; refine sO rfl ?_)); intro bC bR bU hC hR hU; simp only [go_sem, ↓reduceIte, f0, f4, wx, wi, wt, wp, sx, si, stt, sp, hnn, d1, l1, d4, l4, i60, tcell]; subst hC hR hU) | (with_reducible refine rN ?_; subst hbq) | (with_reducible refine iR ?_; refine rG (by simp only [compL, gtOf, nthDst]; exact rfl) ?_) | (with_reducible refine rB fun cq hcq => ?_; subst hcq) | (with_reducible refine x1 ?_; clear hbq bq) | (with_reducible refine r1 ?_; clear hbq bq) | (with_reducible refine x5 ?_ ?_; focus rfl) | (with_reducible refine iL ?_; refine rL (by rw [Tryz.results103]) (HLess.refl _) ?_; simp only [go_sem, ↓reduceIte, aPack, Option.some.injEq, exists_eq_left', f0, f4, wx, wi, wt, wp, sx, si, stt, sp, hnn, d1, l1, d4, l4, i60, tcell]) | with_reducible first | refine nS ?_ | refine nD ?_ | refine rS fun bq hbq => ?_ | refine rK ?_ | refine rE ?_ | refine rXx ?_ | refine rR ?_ | refine x2 ?_ | refine x3 ?_ | refine x4 ?_ | refine r2 ?_ | refine r3 ?_ | refine r4 ?_
          refine same_am was.size was t _ _ (Nat.le_refl _) hwsz ?_
          cases hs : sameF was t
          · simp only [hs, Bool.false_eq_true, if_false] at hn
            try dsimp only
            repeat first | ((first | (with_reducible first | refine sS ?_ | refine sA ?_ | refine sC ?_) | (with_reducible refine iT ?_; refine sT rfl ?_) | (with_reducible refine i0 ?_; refine s0 rfl ?_) | (with_reducible refine iO ?_; refine sO rfl ?_)); intro bC bR bU hC hR hU; simp only [go_sem, ↓reduceIte, f0, f4, wx, wi, wt, wp, sx, si, stt, sp, hnn, d1, l1, d4, l4, i60, tcell]; subst hC hR hU) | (with_reducible refine rN ?_; subst hbq) | (with_reducible refine iR ?_; refine rG (by simp only [compL, gtOf, nthDst]; exact rfl) ?_) | (with_reducible refine rB fun cq hcq => ?_; subst hcq) | (with_reducible refine x1 ?_; clear hbq bq) | (with_reducible refine r1 ?_; clear hbq bq) | (with_reducible refine x5 ?_ ?_; focus rfl) | (with_reducible refine iL ?_; refine rL (by rw [Tryz.results103]) (HLess.refl _) ?_; simp only [go_sem, ↓reduceIte, aPack, Option.some.injEq, exists_eq_left', f0, f4, wx, wi, wt, wp, sx, si, stt, sp, hnn, d1, l1, d4, l4, i60, tcell]) | with_reducible first | refine nS ?_ | refine nD ?_ | refine rS fun bq hbq => ?_ | refine rK ?_ | refine rE ?_ | refine rXx ?_ | refine rR ?_ | refine x2 ?_ | refine x3 ?_ | refine x4 ?_ | refine r2 ?_ | refine r3 ?_ | refine r4 ?_
            exact hn _ trivial hM3.less
          · simp only [hs, if_true] at hq
            try dsimp only
            repeat first | ((first | (with_reducible first | refine sS ?_ | refine sA ?_ | refine sC ?_) | (with_reducible refine iT ?_; refine sT rfl ?_) | (with_reducible refine i0 ?_; refine s0 rfl ?_) | (with_reducible refine iO ?_; refine sO rfl ?_)); intro bC bR bU hC hR hU; simp only [go_sem, ↓reduceIte, f0, f4, wx, wi, wt, wp, sx, si, stt, sp, hnn, d1, l1, d4, l4, i60, tcell]; subst hC hR hU) | (with_reducible refine rN ?_; subst hbq) | (with_reducible refine iR ?_; refine rG (by simp only [compL, gtOf, nthDst]; exact rfl) ?_) | (with_reducible refine rB fun cq hcq => ?_; subst hcq) | (with_reducible refine x1 ?_; clear hbq bq) | (with_reducible refine r1 ?_; clear hbq bq) | (with_reducible refine x5 ?_ ?_; focus rfl) | (with_reducible refine iL ?_; refine rL (by rw [Tryz.results103]) (HLess.refl _) ?_; simp only [go_sem, ↓reduceIte, aPack, Option.some.injEq, exists_eq_left', f0, f4, wx, wi, wt, wp, sx, si, stt, sp, hnn, d1, l1, d4, l4, i60, tcell]) | with_reducible first | refine nS ?_ | refine nD ?_ | refine rS fun bq hbq => ?_ | refine rK ?_ | refine rE ?_ | refine rXx ?_ | refine rR ?_ | refine x2 ?_ | refine x3 ?_ | refine x4 ?_ | refine r2 ?_ | refine r3 ?_ | refine r4 ?_
            exact hq _ _ rfl hM3
        | none =>
          simp only at hq hn
          try dsimp only
          repeat first | ((first | (with_reducible first | refine sS ?_ | refine sA ?_ | refine sC ?_) | (with_reducible refine iT ?_; refine sT rfl ?_) | (with_reducible refine i0 ?_; refine s0 rfl ?_) | (with_reducible refine iO ?_; refine sO rfl ?_)); intro bC bR bU hC hR hU; simp only [go_sem, ↓reduceIte, f0, f4, wx, wi, wt, wp, sx, si, stt, sp, hnn, d1, l1, d4, l4, i60, icell, Option.isSome_none]; subst hC hR hU) | (with_reducible refine rN ?_; subst hbq) | (with_reducible refine iR ?_; refine rG (by simp only [compL, gtOf, nthDst]; exact rfl) ?_) | (with_reducible refine rB fun cq hcq => ?_; subst hcq) | (with_reducible refine x1 ?_; clear hbq bq) | (with_reducible refine r1 ?_; clear hbq bq) | (with_reducible refine x5 ?_ ?_; focus rfl) | (with_reducible refine iL ?_; refine rL (by rw [Tryz.results103]) (HLess.refl _) ?_; simp only [go_sem, ↓reduceIte, aPack, Option.some.injEq, exists_eq_left', f0, f4, wx, wi, wt, wp, sx, si, stt, sp, hnn, d1, l1, d4, l4, i60, icell, Option.isSome_none]) | with_reducible first | refine nS ?_ | refine nD ?_ | refine rS fun bq hbq => ?_ | refine rK ?_ | refine rE ?_ | refine rXx ?_ | refine rR ?_ | refine x2 ?_ | refine x3 ?_ | refine x4 ?_ | refine r2 ?_ | refine r3 ?_ | refine r4 ?_
          repeat with_reducible refine run_seq fun bq hbq => ?_
          refine run_draw (.take 0 (.take 1 (.take 2 (.take 3 (.take 4 (.take 5 (.take 6 (.one 7 [] (.done))))))))) (by kernel_rfl) (by simp only [compL, gtOf, nthDst]; exact rfl) ?_
          try dsimp only
          repeat first | ((first | (with_reducible first | refine sS ?_ | refine sA ?_ | refine sC ?_) | (with_reducible refine iT ?_; refine sT rfl ?_) | (with_reducible refine i0 ?_; refine s0 rfl ?_) | (with_reducible refine iO ?_; refine sO rfl ?_)); intro bC bR bU hC hR hU; simp only [go_sem, ↓reduceIte, f0, f4, wx, wi, wt, wp, sx, si, stt, sp, hnn, d1, l1, d4, l4, i60]; subst hC hR hU) | (with_reducible refine rN ?_; subst hbq) | (with_reducible refine iR ?_; refine rG (by simp only [compL, gtOf, nthDst]; exact rfl) ?_) | (with_reducible refine rB fun cq hcq => ?_; subst hcq) | (with_reducible refine x1 ?_; clear hbq bq) | (with_reducible refine r1 ?_; clear hbq bq) | (with_reducible refine x5 ?_ ?_; focus rfl) | (with_reducible refine iL ?_; refine rL (by rw [Tryz.results103]) (HLess.refl _) ?_; simp only [go_sem, ↓reduceIte, aPack, Option.some.injEq, exists_eq_left', f0, f4, wx, wi, wt, wp, sx, si, stt, sp, hnn, d1, l1, d4, l4, i60]) | with_reducible first | refine nS ?_ | refine nD ?_ | refine rS fun bq hbq => ?_ | refine rK ?_ | refine rE ?_ | refine rXx ?_ | refine rR ?_ | refine x2 ?_ | refine x3 ?_ | refine x4 ?_ | refine r2 ?_ | refine r3 ?_ | refine r4 ?_
          repeat with_reducible refine run_seq fun bq hbq => ?_
          refine run_draw (.take 0 (.take 1 (.take 2 (.take 3 (.take 4 (.take 5 (.take 6 (.take 7 (.one 8 [] (.done)))))))))) (by kernel_rfl) (by simp only [compL, gtOf, nthDst]; exact rfl) ?_
          try dsimp only
          repeat first | ((first | (with_reducible first | refine sS ?_ | refine sA ?_ | refine sC ?_) | (with_reducible refine iT ?_; refine sT rfl ?_) | (with_reducible refine i0 ?_; refine s0 rfl ?_) | (with_reducible refine iO ?_; refine sO rfl ?_)); intro bC bR bU hC hR hU; simp only [go_sem, ↓reduceIte, f0, f4, wx, wi, wt, wp, wi.symm, wt.symm, hxi, hxt, hit, hit.symm, hpi.symm, hpt.symm, sx, si, stt, sp, hnn, d1, l1, d4, l4, i60]; subst hC hR hU) | (with_reducible refine rN ?_; subst hbq) | (with_reducible refine iR ?_; refine rG (by simp only [compL, gtOf, nthDst]; exact rfl) ?_) | (with_reducible refine rB fun cq hcq => ?_; subst hcq) | (with_reducible refine x1 ?_; clear hbq bq) | (with_reducible refine r1 ?_; clear hbq bq) | (with_reducible refine x5 ?_ ?_; focus rfl) | (with_reducible refine iL ?_; refine rL (by rw [Tryz.results103]) (HLess.refl _) ?_; simp only [go_sem, ↓reduceIte, aPack, Option.some.injEq, exists_eq_left', f0, f4, wx, wi, wt, wp, wi.symm, wt.symm, hxi, hxt, hit, hit.symm, hpi.symm, hpt.symm, sx, si, stt, sp, hnn, d1, l1, d4, l4, i60]) | with_reducible first | refine nS ?_ | refine nD ?_ | refine rS fun bq hbq => ?_ | refine rK ?_ | refine rE ?_ | refine rXx ?_ | refine rR ?_ | refine x2 ?_ | refine x3 ?_ | refine x4 ?_ | refine r2 ?_ | refine r3 ?_ | refine r4 ?_
          refine hq _ _ rfl ⟨(hM3.less.new hi0).new ht0, ?_, ?_, ?_, ?_, ?_⟩
          · rw [upd_other _ _ hxt, upd_other _ _ hxi]; exact hM3.obj
          · rw [upd_other _ _ hit, upd_same, hnn, Int.toNat_natCast, ← map_put icell (some t) st nn hnl]; rfl
          · rw [upd_same, hnn, Int.toNat_natCast, ← flat_put tcell_length (some t) st nn hnl]; rfl
          · rw [List.length_set]; exact hM2.len
          · intro u hu
            rcases List.mem_or_eq_of_mem_set hu with hu | hu
            · exact hM2.small u hu
            · injection hu with hu; rw [hu, htsz]; exact htb
      · rw [hno] at hn
        simp only at hn
        try dsimp only
        repeat first | ((first | (with_reducible first | refine sS ?_ | refine sA ?_ | refine sC ?_) | (with_reducible refine iT ?_; refine sT rfl ?_) | (with_reducible refine i0 ?_; refine s0 rfl ?_) | (with_reducible refine iO ?_; refine sO rfl ?_)); intro bC bR bU hC hR hU; simp only [go_sem, ↓reduceIte]; subst hC hR hU) | (with_reducible refine rN ?_; subst hbq) | (with_reducible refine iR ?_; refine rG (by simp only [compL, gtOf, nthDst]; exact rfl) ?_) | (with_reducible refine rB fun cq hcq => ?_; subst hcq) | (with_reducible refine x1 ?_; clear hbq bq) | (with_reducible refine r1 ?_; clear hbq bq) | (with_reducible refine x5 ?_ ?_; focus rfl) | (with_reducible refine iL ?_; refine rL (by rw [Tryz.results103]) (HLess.refl _) ?_; simp only [go_sem, ↓reduceIte, aPack, Option.some.injEq, exists_eq_left']) | with_reducible first | refine nS ?_ | refine nD ?_ | refine rS fun bq hbq => ?_ | refine rK ?_ | refine rE ?_ | refine rXx ?_ | refine rR ?_ | refine x2 ?_ | refine x3 ?_ | refine x4 ?_ | refine r2 ?_ | refine r3 ?_ | refine r4 ?_
        intro w hw
        have wx := ne_of_new hw sx
        have wi := ne_of_new hw si
        have wt := ne_of_new hw stt
        have wp := ne_of_new hw sp
        try dsimp only
        repeat first | ((first | (with_reducible first | refine sS ?_ | refine sA ?_ | refine sC ?_) | (with_reducible refine iT ?_; refine sT rfl ?_) | (with_reducible refine i0 ?_; refine s0 rfl ?_) | (with_reducible refine iO ?_; refine sO rfl ?_)); intro bC bR bU hC hR hU; simp only [go_sem, ↓reduceIte]; subst hC hR hU) | (with_reducible refine rN ?_; subst hbq) | (with_reducible refine iR ?_; refine rG (by simp only [compL, gtOf, nthDst]; exact rfl) ?_) | (with_reducible refine rB fun cq hcq => ?_; subst hcq) | (with_reducible refine x1 ?_; clear hbq bq) | (with_reducible refine r1 ?_; clear hbq bq) | (with_reducible refine x5 ?_ ?_; focus rfl) | (with_reducible refine iL ?_; refine rL (by rw [Tryz.results103]) (HLess.refl _) ?_; simp only [go_sem, ↓reduceIte, aPack, Option.some.injEq, exists_eq_left']) | with_reducible first | refine nS ?_ | refine nD ?_ | refine rS fun bq hbq => ?_ | refine rK ?_ | refine rE ?_ | refine rXx ?_ | refine rR ?_ | refine x2 ?_ | refine x3 ?_ | refine x4 ?_ | refine r2 ?_ | refine r3 ?_ | refine r4 ?_
        repeat with_reducible refine run_seq fun bq hbq => ?_
        refine run_draw (.take 0 (.take 1 (.take 2 (.take 3 (.take 4 (.take 5 (.take 6 (.take 7 (.done))))))))) (by kernel_rfl) (by simp only [compL, gtOf, nthDst]; exact rfl) ?_
        have hless : HLess (upd H w (some (.cells (cellsT t0) 27))) h0 := (HLess.one hw).trans hM2.less
        cases o with
        | some was =>
          try dsimp only
          repeat first | ((first | (with_reducible first | refine sS ?_ | refine sA ?_ | refine sC ?_) | (with_reducible refine iT ?_; refine sT rfl ?_) | (with_reducible refine i0 ?_; refine s0 rfl ?_) | (with_reducible refine iO ?_; refine sO rfl ?_)); intro bC bR bU hC hR hU; simp only [go_sem, ↓reduceIte, f0, f4, wx, wi, wt, wp, sx, si, stt, sp, hnn, d1, l1, d4, l4, i60, icell, Option.isSome_some]; subst hC hR hU) | (with_reducible refine rN ?_; subst hbq) | (with_reducible refine iR ?_; refine rG (by simp only [compL, gtOf, nthDst]; exact rfl) ?_) | (with_reducible refine rB fun cq hcq => ?_; subst hcq) | (with_reducible refine x1 ?_; clear hbq bq) | (with_reducible refine r1 ?_; clear hbq bq) | (with_reducible refine x5 ?_ ?_; focus rfl) | (with_reducible refine iL ?_; refine rL (by rw [Tryz.results103]) (HLess.refl _) ?_; simp only [go_sem, ↓reduceIte, aPack, Option.some.injEq, exists_eq_left', f0, f4, wx, wi, wt, wp, sx, si, stt, sp, hnn, d1, l1, d4, l4, i60, icell, Option.isSome_some]) | with_reducible first | refine nS ?_ | refine nD ?_ | refine rS fun bq hbq => ?_ | refine rK ?_ | refine rE ?_ | refine rXx ?_ | refine rR ?_ | refine x2 ?_ | refine x3 ?_ | refine x4 ?_ | refine r2 ?_ | refine r3 ?_ | refine r4 ?_
          repeat with_reducible refine run_seq fun bq hbq => ?_
          refine run_draw (.take 0 (.take 1 (.take 2 (.take 3 (.take 4 (.take 5 (.take 6 (.take 7 (.take 8 (.take 9 (.take 10 (.one 11 [7, 5] (.take 12 (.take 13 (.done))))))))))))))) (by kernel_rfl) (by simp only [compL, gtOf, nthDst]; exact rfl) ?_
          try dsimp only
          repeat first | ((first | (with_reducible first | refine sS ?_ | refine sA ?_ | refine sC ?_) | (with_reducible refine iT ?_; refine sT rfl ?_) | (with_reducible refine i0 ?_; refine s0 rfl ?_) | (with_reducible refine iO ?_; refine sO rfl ?_)); intro bC bR bU hC hR hU; simp only [go_sem, ↓reduceIte, f0, f4, wx, wi, wt, wp, sx, si, stt, sp, hnn, d1, l1, d4, l4, i60, tcell]; subst hC hR hU) | (with_reducible refine rN ?_; subst hbq) | (with_reducible refine iR ?_; refine rG (by simp only [compL, gtOf, nthDst]; exact rfl) ?_) | (with_reducible refine rB fun cq hcq => ?_; subst hcq) | (with_reducible refine x1 ?_; clear hbq bq) | (with_reducible refine r1 ?_; clear hbq bq) | (with_reducible refine x5 ?_ ?_; focus rfl) | (with_reducible refine iL ?_; refine rL (by rw [Tryz.results103]) (HLess.refl _) ?_; simp only [go_sem, ↓reduceIte, aPack, Option.some.injEq, exists_eq_left', f0, f4, wx, wi, wt, wp, sx, si, stt, sp, hnn, d1, l1, d4, l4, i60, tcell]) | with_reducible first | refine nS ?_ | refine nD ?_ | refine rS fun bq hbq => ?_ | refine rK ?_ | refine rE ?_ | refine rXx ?_ | refine rR ?_ | refine x2 ?_ | refine x3 ?_ | refine x4 ?_ | refine r2 ?_ | refine r3 ?_ | refine r4 ?_
          exact hn _ trivial hless
        | none =>
          try dsimp only
          repeat first | ((first | (with_reducible first | refine sS ?_ | refine sA ?_ | refine sC ?_) | (with_reducible refine iT ?_; refine sT rfl ?_) | (with_reducible refine i0 ?_; refine s0 rfl ?_) | (with_reducible refine iO ?_; refine sO rfl ?_)); intro bC bR bU hC hR hU; simp only [go_sem, ↓reduceIte, f0, f4, wx, wi, wt, wp, sx, si, stt, sp, hnn, d1, l1, d4, l4, i60, icell, Option.isSome_none]; subst hC hR hU) | (with_reducible refine rN ?_; subst hbq) | (with_reducible refine iR ?_; refine rG (by simp only [compL, gtOf, nthDst]; exact rfl) ?_) | (with_reducible refine rB fun cq hcq => ?_; subst hcq) | (with_reducible refine x1 ?_; clear hbq bq) | (with_reducible refine r1 ?_; clear hbq bq) | (with_reducible refine x5 ?_ ?_; focus rfl) | (with_reducible refine iL ?_; refine rL (by rw [Tryz.results103]) (HLess.refl _) ?_; simp only [go_sem, ↓reduceIte, aPack, Option.some.injEq, exists_eq_left', f0, f4, wx, wi, wt, wp, sx, si, stt, sp, hnn, d1, l1, d4, l4, i60, icell, Option.isSome_none]) | with_reducible first | refine nS ?_ | refine nD ?_ | refine rS fun bq hbq => ?_ | refine rK ?_ | refine rE ?_ | refine rXx ?_ | refine rR ?_ | refine x2 ?_ | refine x3 ?_ | refine x4 ?_ | refine r2 ?_ | refine r3 ?_ | refine r4 ?_
          repeat with_reducible refine run_seq fun bq hbq => ?_
          refine run_draw (.take 0 (.take 1 (.take 2 (.take 3 (.take 4 (.take 5 (.take 6 (.one 7 [] (.done))))))))) (by kernel_rfl) (by simp only [compL, gtOf, nthDst]; exact rfl) ?_
          try dsimp only
          repeat first | ((first | (with_reducible first | refine sS ?_ | refine sA ?_ | refine sC ?_) | (with_reducible refine iT ?_; refine sT rfl ?_) | (with_reducible refine i0 ?_; refine s0 rfl ?_) | (with_reducible refine iO ?_; refine sO rfl ?_)); intro bC bR bU hC hR hU; simp only [go_sem, ↓reduceIte, f0, f4, wx, wi, wt, wp, sx, si, stt, sp, hnn, d1, l1, d4, l4, i60]; subst hC hR hU) | (with_reducible refine rN ?_; subst hbq) | (with_reducible refine iR ?_; refine rG (by simp only [compL, gtOf, nthDst]; exact rfl) ?_) | (with_reducible refine rB fun cq hcq => ?_; subst hcq) | (with_reducible refine x1 ?_; clear hbq bq) | (with_reducible refine r1 ?_; clear hbq bq) | (with_reducible refine x5 ?_ ?_; focus rfl) | (with_reducible refine iL ?_; refine rL (by rw [Tryz.results103]) (HLess.refl _) ?_; simp only [go_sem, ↓reduceIte, aPack, Option.some.injEq, exists_eq_left', f0, f4, wx, wi, wt, wp, sx, si, stt, sp, hnn, d1, l1, d4, l4, i60]) | with_reducible first | refine nS ?_ | refine nD ?_ | refine rS fun bq hbq => ?_ | refine rK ?_ | refine rE ?_ | refine rXx ?_ | refine rR ?_ | refine x2 ?_ | refine x3 ?_ | refine x4 ?_ | refine r2 ?_ | refine r3 ?_ | refine r4 ?_
          repeat with_reducible refine run_seq fun bq hbq => ?_
          refine run_draw (.take 0 (.take 1 (.take 2 (.take 3 (.take 4 (.take 5 (.take 6 (.take 7 (.one 8 [] (.done)))))))))) (by kernel_rfl) (by simp only [compL, gtOf, nthDst]; exact rfl) ?_
          try dsimp only
          repeat first | ((first | (with_reducible first | refine sS ?_ | refine sA ?_ | refine sC ?_) | (with_reducible refine iT ?_; refine sT rfl ?_) | (with_reducible refine i0 ?_; refine s0 rfl ?_) | (with_reducible refine iO ?_; refine sO rfl ?_)); intro bC bR bU hC hR hU; simp only [go_sem, ↓reduceIte, f0, f4, wx, wi, wt, wp, wi.symm, wt.symm, hxi, hxt, hit, hit.symm, hpi.symm, hpt.symm, sx, si, stt, sp, hnn, d1, l1, d4, l4, i60]; subst hC hR hU) | (with_reducible refine rN ?_; subst hbq) | (with_reducible refine iR ?_; refine rG (by simp only [compL, gtOf, nthDst]; exact rfl) ?_) | (with_reducible refine rB fun cq hcq => ?_; subst hcq) | (with_reducible refine x1 ?_; clear hbq bq) | (with_reducible refine r1 ?_; clear hbq bq) | (with_reducible refine x5 ?_ ?_; focus rfl) | (with_reducible refine iL ?_; refine rL (by rw [Tryz.results103]) (HLess.refl _) ?_; simp only [go_sem, ↓reduceIte, aPack, Option.some.injEq, exists_eq_left', f0, f4, wx, wi, wt, wp, wi.symm, wt.symm, hxi, hxt, hit, hit.symm, hpi.symm, hpt.symm, sx, si, stt, sp, hnn, d1, l1, d4, l4, i60]) | with_reducible first | refine nS ?_ | refine nD ?_ | refine rS fun bq hbq => ?_ | refine rK ?_ | refine rE ?_ | refine rXx ?_ | refine rR ?_ | refine x2 ?_ | refine x3 ?_ | refine x4 ?_ | refine r2 ?_ | refine r3 ?_ | refine r4 ?_
          exact hn _ trivial ((hless.new hi0).new ht0)
/- The reference's pattern. -/


def refElem (pars : Int) (pre : List Term) (u : Term) : Bool := refSimpleF u && (!(u.kind == 3 && decide (u.n ≥ pars)) && !decide (indexF (fun v => isF v u) pre 0 ≥ 0))
def argsGoR (pars : Int) : List Term → List Term → Bool
  | _, [] => true
  | pre, u :: us => refElem pars pre u && argsGoR pars (pre ++ [u]) us
mutual
def patternF (pars : Int) : Term → List Int → Option (List Int)
  | ⟨k, n, s, l⟩, mn =>
    if k == 3 && decide (n ≥ pars) then (if decide (mn.getD n.toNat 0 ≥ 0) && !(mn.getD n.toNat 0 == (l.length : Int)) then none
      else if argsGoR pars [] l then some (mn.set n.toNat l.length) else none)
    else patternL pars l mn
def patternL (pars : Int) : List Term → List Int → Option (List Int)
  | [], mn => some mn
  | t :: ts, mn => (patternF pars t mn).bind fun mn' => patternL pars ts mn'
end
theorem patternF_eq (pars : Int) (a : Term) (mn : List Int) : patternF pars a mn =
    if a.kind == 3 && decide (a.n ≥ pars) then (if decide (mn.getD a.n.toNat 0 ≥ 0) && !(mn.getD a.n.toNat 0 == (a.args.length : Int)) then none
      else if argsGoR pars [] a.args then some (mn.set a.n.toNat a.args.length) else none)
    else patternL pars a.args mn := by
  obtain ⟨k, n, s, l⟩ := a
  rw [patternF]
theorem flat_take {α : Type} {c : α → List AV} {z : Nat} (hz : ∀ x, (c x).length = z) : ∀ (k : Nat) (l : List α), (l.flatMap c).take (k * z) = (l.take k).flatMap c
  | 0, l => by simp
  | k + 1, [] => by simp
  | k + 1, x :: l => by
    rw [List.flatMap_cons, List.take_succ_cons, List.flatMap_cons, ← flat_take hz k l, List.take_append, hz, List.take_of_length_le (by rw [hz, Nat.add_mul]; omega), show (k + 1) * z - z = k * z by rw [Nat.add_mul]; omega]
theorem encs_takeN (l : List Term) (i : Nat) : (encs l).take (i * 4) = encs (l.take i) := by
  rw [encs_eq, encs_eq]; exact flat_take (c := cellsT) (z := 4) (fun _ => rfl) i l
theorem slice_take (l : List Term) (i : Nat) (hi : i ≤ l.length) : aSlice Tryz.prog 25 (.list 4 (encs l) l.length .none) Option.none (some (.int .i64 i)) Option.none = some (.list 4 (encs (l.take i)) (l.take i).length .none) := by
  have h1 : ((i : Int) - 0).toNat = i := by omega
  simp only [aSlice, el_25, sz_27, aBoundOr]
  rw [if_pos ⟨.inr trivial, Int.le_refl _, by omega, by omega⟩, h1, show ((0 : Int).toNat * 4) = 0 from rfl, List.drop_zero, encs_takeN, List.length_take, Nat.min_eq_left hi]
  rfl
theorem encs_n (l : List Term) (i : Nat) {u : Term} (hu : l[i]? = some u) : (List.drop (i * 4 + 1) (encs l)).head? = some (.int .i64 u.n) := by
  obtain ⟨r, hr⟩ := encs_at l i hu
  rw [← List.drop_drop, hr]; rfl
structure PMatcher (x bm : Nat) (bv tv : AV) (pars : Int) (h0 : AHeap) (mn : List Int) (h : AHeap) : Prop where
  less : HLess h h0
  obj : h x = some (.cells [.int .i64 pars, bv, .sl bm 0 60, tv] 147)
  many : h bm = some (.cells (mn.map fun i => .int .i64 i) 3)
  len : mn.length = 60
theorem PMatcher.mono {x bm : Nat} {bv tv : AV} {pars : Int} {h0 : AHeap} {mn : List Int} {h h2 : AHeap} (k : PMatcher x bm bv tv pars h0 mn h) (hl : HLess h2 h) : PMatcher x bm bv tv pars h0 mn h2 :=
  ⟨hl.trans k.less, hl _ _ k.obj, hl _ _ k.many, k.len⟩
theorem pattern_am (x bm : Nat) (bv tv : AV) (pars : Int) (hxm : x ≠ bm) : ∀ (s : Nat) (h0 : AHeap) (hx0 : h0 x = Option.none) (hm0 : h0 bm = Option.none) (a : Term) (mn : List Int) (h : AHeap) (Q : AOut → AHeap → Prop), a.size ≤ s → a.size ≤ 1000000000 → parOk a = true → PMatcher x bm bv tv pars h0 mn h →
    (∀ mn' h2, patternF pars a mn = some mn' → PMatcher x bm bv tv pars h0 mn' h2 → Q (.ret (.bool true)) h2) → (∀ h2, patternF pars a mn = none → HLess h2 h0 → Q (.ret (.bool false)) h2) → AmCalls Tryz.prog 102 [.ptr x 0, enc a] h Q := by
  intro s
  induction s with
  | zero => intro h0 _ _ a mn h Q ht; obtain ⟨a, b, c, l⟩ := a; rw [Term.size] at ht; omega
  | succ s ih =>
    intro h0 hx0 hm0 a mn h Q ht hta hpo hM hq hn
    have hlen := length_args a
    rw [patternF_eq] at hq hn
    have hx := hM.obj
    have hbm := hM.many
    refine AmCalls.of_sem (fn := Tryz.f102) Tryz.func102 rfl (by kernel_rfl) (by rw [Tryz.ntmps102]; simp) (enters_of Tryz.func102 (by kernel_rfl) (by kernel_rfl)) ?_
    try dsimp only
    repeat first | ((first | (with_reducible first | refine sS ?_ | refine sA ?_ | refine sC ?_) | (with_reducible refine iT ?_; refine sT rfl ?_) | (with_reducible refine i0 ?_; refine s0 rfl ?_) | (with_reducible refine iO ?_; refine sO rfl ?_)); intro bC bR bU hC hR hU; simp only [go_sem, ↓reduceIte]; subst hC hR hU) | (with_reducible refine rN ?_; subst hbq) | (with_reducible refine iR ?_; refine rG (by simp only [compL, gtOf, nthDst]; exact rfl) ?_) | (with_reducible refine rB fun cq hcq => ?_; subst hcq) | (with_reducible refine x1 ?_; clear hbq bq) | (with_reducible refine r1 ?_; clear hbq bq) | (with_reducible refine x5 ?_ ?_; focus rfl) | (with_reducible refine iL ?_; refine rL (by rw [Tryz.results102]) (HLess.refl _) ?_; simp only [go_sem, ↓reduceIte, aPack, Option.some.injEq, exists_eq_left']) | with_reducible first | refine nS ?_ | refine nD ?_ | refine rS fun bq hbq => ?_ | refine rK ?_ | refine rE ?_ | refine rXx ?_ | refine rR ?_ | refine x2 ?_ | refine x3 ?_ | refine x4 ?_ | refine r2 ?_ | refine r3 ?_ | refine r4 ?_
    intro p hp
    have hpx := ne_of_new hp hx
    have hpm := ne_of_new hp hbm
    have fin : HLess (upd h p (some (.cells (cellsT a) 27))) h := (HLess.refl h).new hp
    try dsimp only
    repeat first | ((first | (with_reducible first | refine sS ?_ | refine sA ?_ | refine sC ?_) | (with_reducible refine iT ?_; refine sT rfl ?_) | (with_reducible refine i0 ?_; refine s0 rfl ?_) | (with_reducible refine iO ?_; refine sO rfl ?_)); intro bC bR bU hC hR hU; simp only [go_sem, ↓reduceIte]; subst hC hR hU) | (with_reducible refine rN ?_; subst hbq) | (with_reducible refine iR ?_; refine rG (by simp only [compL, gtOf, nthDst]; exact rfl) ?_) | (with_reducible refine rB fun cq hcq => ?_; subst hcq) | (with_reducible refine x1 ?_; clear hbq bq) | (with_reducible refine r1 ?_; clear hbq bq) | (with_reducible refine x5 ?_ ?_; focus rfl) | (with_reducible refine iL ?_; refine rL (by rw [Tryz.results102]) fin ?_; simp only [go_sem, ↓reduceIte, aPack, Option.some.injEq, exists_eq_left']) | with_reducible first | refine nS ?_ | refine nD ?_ | refine rS fun bq hbq => ?_ | refine rK ?_ | refine rE ?_ | refine rXx ?_ | refine rR ?_ | refine x2 ?_ | refine x3 ?_ | refine x4 ?_ | refine r2 ?_ | refine r3 ?_ | refine r4 ?_
    refine run_cutS (fun τ h' => τ 0 = .ptr x 0 ∧ τ 3 = .ptr p 0 ∧ τ 18 = .bool (a.kind == 3 && decide (a.n ≥ pars)) ∧ h' = upd h p (some (.cells (cellsT a) 27))) ?_ fun τ h' hI => ?_
    · repeat with_reducible refine run_seq fun bq hbq => ?_
      refine run_draw (.take 0 (.take 1 (.take 2 (.take 3 (.take 4 (.take 5 (.take 6 (.take 7 (.take 8 (.take 9 (.take 10 (.take 11 (.done))))))))))))) (by kernel_rfl) (by simp only [compL, gtOf, nthDst]; exact rfl) ?_
      cases hk3 : (a.kind == 3)
      all_goals
        try dsimp only
        repeat first | ((first | (with_reducible first | refine sS ?_ | refine sA ?_ | refine sC ?_) | (with_reducible refine iT ?_; refine sT rfl ?_) | (with_reducible refine i0 ?_; refine s0 rfl ?_) | (with_reducible refine iO ?_; refine sO rfl ?_)); intro bC bR bU hC hR hU; simp only [go_sem, ↓reduceIte, hk3, hpx, hx]; subst hC hR hU) | (with_reducible refine rN ?_; subst hbq) | (with_reducible refine iR ?_; refine rG (by simp only [compL, gtOf, nthDst]; exact rfl) ?_) | (with_reducible refine rB fun cq hcq => ?_; subst hcq) | (with_reducible refine x1 ?_; clear hbq bq) | (with_reducible refine r1 ?_; clear hbq bq) | (with_reducible refine x5 ?_ ?_; focus rfl) | (with_reducible refine iL ?_; refine rL (by rw [Tryz.results102]) fin ?_; simp only [go_sem, ↓reduceIte, aPack, Option.some.injEq, exists_eq_left', hk3, hpx, hx]) | with_reducible first | refine nS ?_ | refine nD ?_ | refine rS fun bq hbq => ?_ | refine rK ?_ | refine rE ?_ | refine rXx ?_ | refine rR ?_ | refine x2 ?_ | refine x3 ?_ | refine x4 ?_ | refine r2 ?_ | refine r3 ?_ | refine r4 ?_
        refine run_endcut ?_
        simp only [go_sem, ↓reduceIte, hk3]
    obtain ⟨f0, f3, f18, rfl⟩ := hI
    subst hbq
    have sp : (upd h p (some (AObj.cells (cellsT a) 27))) p = some (.cells (cellsT a) 27) := upd_same _ _ _
    have hM2 : PMatcher x bm bv tv pars h0 mn (upd h p (some (AObj.cells (cellsT a) 27))) := hM.mono fin
    generalize upd h p (some (AObj.cells (cellsT a) 27)) = H at *
    have sx := hM2.obj
    have sm := hM2.many
    have slen := hM2.len
    cases hv : (a.kind == 3 && decide (a.n ≥ pars))
    · rw [hv] at f18
      simp only [hv, Bool.false_eq_true, if_false] at hq hn
      have hpoL : parOkL a.args = true := by obtain ⟨k, n, nm, l⟩ := a; rw [parOk, Bool.and_eq_true] at hpo; exact hpo.2
      try dsimp only
      repeat first | ((first | (with_reducible first | refine sS ?_ | refine sA ?_ | refine sC ?_) | (with_reducible refine iT ?_; refine sT rfl ?_) | (with_reducible refine i0 ?_; refine s0 rfl ?_) | (with_reducible refine iO ?_; refine sO rfl ?_)); intro bC bR bU hC hR hU; simp only [go_sem, ↓reduceIte, f0, f3, f18, sp]; subst hC hR hU) | (with_reducible refine rN ?_; subst hbq) | (with_reducible refine iR ?_; refine rG (by simp only [compL, gtOf, nthDst]; exact rfl) ?_) | (with_reducible refine rB fun cq hcq => ?_; subst hcq) | (with_reducible refine x1 ?_; clear hbq bq) | (with_reducible refine r1 ?_; clear hbq bq) | (with_reducible refine x5 ?_ ?_; focus rfl) | (with_reducible refine iL ?_; refine rL (by rw [Tryz.results102]) (HLess.refl _) ?_; simp only [go_sem, ↓reduceIte, aPack, Option.some.injEq, exists_eq_left', f0, f3, f18, sp]) | with_reducible first | refine nS ?_ | refine nD ?_ | refine rS fun bq hbq => ?_ | refine rK ?_ | refine rE ?_ | refine rXx ?_ | refine rR ?_ | refine x2 ?_ | refine x3 ?_ | refine x4 ?_ | refine r2 ?_ | refine r3 ?_ | refine r4 ?_
      refine run_loop (fun k τ h' => ∃ (i : Nat) (mn' : List Int), k + i = a.args.length ∧ patternL pars (a.args.drop i) mn' = patternL pars a.args mn ∧ τ 0 = .ptr x 0 ∧ τ 3 = .ptr p 0 ∧ τ 6 = .int .i64 i ∧ PMatcher x bm bv tv pars h0 mn' h' ∧ h' p = some (.cells (cellsT a) 27)) a.args.length ?_ ?_
      · exact ⟨0, mn, rfl, rfl, f0, f3, rfl, hM2, sp⟩
      · intro c hc k τ h' hI
        clear f0 f3 f18 sx sm slen hx hbm
        obtain ⟨i, mn', hk, hix, f0, f3, f6, hM3, mp⟩ := hI
        subst hc
        by_cases hi : i < a.args.length
        · obtain ⟨u, hu⟩ : ∃ u, a.args[i]? = some u := ⟨_, List.getElem?_eq_getElem hi⟩
          obtain ⟨r, hr⟩ := encs_at a.args i hu
          have hsz := size_arg a i hu
          have hdrop : a.args.drop i = u :: a.args.drop (i + 1) := by
            rw [List.drop_eq_getElem_cons hi]
            rw [List.getElem?_eq_getElem hi] at hu; injection hu with hu; rw [hu]
          rw [hdrop, patternL] at hix
          have epx : p ≠ x := fun e => hpx e.symm
          have epm : p ≠ bm := fun e => hpm e.symm
          have hl1 : HLess h' (upd (upd h' x Option.none) bm Option.none) := by
            intro j o hj
            by_cases e1 : j = bm
            · subst e1; rw [upd_same] at hj; cases hj
            · rw [upd_other _ _ e1] at hj
              by_cases e3 : j = x
              · subst e3; rw [upd_same] at hj; cases hj
              · rw [upd_other _ _ e3] at hj; exact hj
          have hl2 : HLess (upd (upd h' x Option.none) bm Option.none) h0 := by
            intro j o hj
            have e1 : j ≠ bm := by intro e1; subst e1; rw [hm0] at hj; cases hj
            have e3 : j ≠ x := by intro e1; subst e1; rw [hx0] at hj; cases hj
            rw [upd_other _ _ e1, upd_other _ _ e3]
            exact hM3.less j o hj
          have np : upd (upd h' x Option.none) bm Option.none p = some (.cells (cellsT a) 27) := by rw [upd_other _ _ epm, upd_other _ _ epx]; exact mp
          try dsimp only
          repeat first | ((first | (with_reducible first | refine sS ?_ | refine sA ?_ | refine sC ?_) | (with_reducible refine iT ?_; refine sT rfl ?_) | (with_reducible refine i0 ?_; refine s0 rfl ?_) | (with_reducible refine iO ?_; refine sO rfl ?_)); intro bC bR bU hC hR hU; simp only [go_sem, ↓reduceIte, f0, f3, f6, mp, hi, hr]; subst hC hR hU) | (with_reducible refine rN ?_; subst hbq) | (with_reducible refine iR ?_; refine rG (by simp only [compL, gtOf, nthDst]; exact rfl) ?_) | (with_reducible refine rB fun cq hcq => ?_; subst hcq) | (with_reducible refine x1 ?_; clear hbq bq) | (with_reducible refine r1 ?_; clear hbq bq) | (with_reducible refine x5 ?_ ?_; focus rfl) | (with_reducible refine iL ?_; refine rL (by rw [Tryz.results102]) (HLess.refl _) ?_; simp only [go_sem, ↓reduceIte, aPack, Option.some.injEq, exists_eq_left', f0, f3, f6, mp, hi, hr]) | with_reducible first | refine nS ?_ | refine nD ?_ | refine rS fun bq hbq => ?_ | refine rK ?_ | refine rE ?_ | refine rXx ?_ | refine rR ?_ | refine x2 ?_ | refine x3 ?_ | refine x4 ?_ | refine r2 ?_ | refine r3 ?_ | refine r4 ?_
          refine ih (upd (upd h' x Option.none) bm Option.none) (by rw [upd_other _ _ hxm, upd_same]) (upd_same _ _ _) u mn' h' _ (by omega) (by omega) (parOkL_at _ i hpoL hu) ⟨hl1, hM3.obj, hM3.many, hM3.len⟩ (fun st2 h2 hs2 hM4 => ?_) (fun h2 hs2 hl4 => ?_)
          · rw [hs2, Option.bind_some] at hix
            have mp2 := hM4.less _ _ np
            try dsimp only
            repeat first | ((first | (with_reducible first | refine sS ?_ | refine sA ?_ | refine sC ?_) | (with_reducible refine iT ?_; refine sT rfl ?_) | (with_reducible refine i0 ?_; refine s0 rfl ?_) | (with_reducible refine iO ?_; refine sO rfl ?_)); intro bC bR bU hC hR hU; simp only [go_sem, ↓reduceIte, f0, f3, f6, mp, mp2, hi, hr, wrap_in (show -9223372036854775808 ≤ (i : Int) + 1 by omega) (show (i : Int) + 1 ≤ 9223372036854775807 by omega)]; subst hC hR hU) | (with_reducible refine rN ?_; subst hbq) | (with_reducible refine iR ?_; refine rG (by simp only [compL, gtOf, nthDst]; exact rfl) ?_) | (with_reducible refine rB fun cq hcq => ?_; subst hcq) | (with_reducible refine x1 ?_; clear hbq bq) | (with_reducible refine r1 ?_; clear hbq bq) | (with_reducible refine x5 ?_ ?_; focus rfl) | (with_reducible refine iL ?_; refine rL (by rw [Tryz.results102]) (HLess.refl _) ?_; simp only [go_sem, ↓reduceIte, aPack, Option.some.injEq, exists_eq_left', f0, f3, f6, mp, mp2, hi, hr, wrap_in (show -9223372036854775808 ≤ (i : Int) + 1 by omega) (show (i : Int) + 1 ≤ 9223372036854775807 by omega)]) | with_reducible first | refine nS ?_ | refine nD ?_ | refine rS fun bq hbq => ?_ | refine rK ?_ | refine rE ?_ | refine rXx ?_ | refine rR ?_ | refine x2 ?_ | refine x3 ?_ | refine x4 ?_ | refine r2 ?_ | refine r3 ?_ | refine r4 ?_
            refine run_loopN (m := k - 1) (by omega) ⟨i + 1, st2, by omega, hix, ?_⟩
            simp only [go_sem, ↓reduceIte, f0, f3]
            exact ⟨rfl, ⟨hM4.less.trans hl2, hM4.obj, hM4.many, hM4.len⟩, mp2⟩
          · rw [hs2, Option.bind_none] at hix
            have mp2 := hl4 _ _ np
            try dsimp only
            repeat first | ((first | (with_reducible first | refine sS ?_ | refine sA ?_ | refine sC ?_) | (with_reducible refine iT ?_; refine sT rfl ?_) | (with_reducible refine i0 ?_; refine s0 rfl ?_) | (with_reducible refine iO ?_; refine sO rfl ?_)); intro bC bR bU hC hR hU; simp only [go_sem, ↓reduceIte, f0, f3, f6, mp, mp2, hi, hr]; subst hC hR hU) | (with_reducible refine rN ?_; subst hbq) | (with_reducible refine iR ?_; refine rG (by simp only [compL, gtOf, nthDst]; exact rfl) ?_) | (with_reducible refine rB fun cq hcq => ?_; subst hcq) | (with_reducible refine x1 ?_; clear hbq bq) | (with_reducible refine r1 ?_; clear hbq bq) | (with_reducible refine x5 ?_ ?_; focus rfl) | (with_reducible refine iL ?_; refine rL (by rw [Tryz.results102]) (HLess.refl _) ?_; simp only [go_sem, ↓reduceIte, aPack, Option.some.injEq, exists_eq_left', f0, f3, f6, mp, mp2, hi, hr]) | with_reducible first | refine nS ?_ | refine nD ?_ | refine rS fun bq hbq => ?_ | refine rK ?_ | refine rE ?_ | refine rXx ?_ | refine rR ?_ | refine x2 ?_ | refine x3 ?_ | refine x4 ?_ | refine r2 ?_ | refine r3 ?_ | refine r4 ?_
            exact hn _ hix.symm (hl4.trans hl2)
        · rw [List.drop_eq_nil_of_le (by omega), patternL] at hix
          try dsimp only
          repeat first | ((first | (with_reducible first | refine sS ?_ | refine sA ?_ | refine sC ?_) | (with_reducible refine iT ?_; refine sT rfl ?_) | (with_reducible refine i0 ?_; refine s0 rfl ?_) | (with_reducible refine iO ?_; refine sO rfl ?_)); intro bC bR bU hC hR hU; simp only [go_sem, ↓reduceIte, f0, f3, f6, mp, hi]; subst hC hR hU) | (with_reducible refine rN ?_; subst hbq) | (with_reducible refine iR ?_; refine rG (by simp only [compL, gtOf, nthDst]; exact rfl) ?_) | (with_reducible refine rB fun cq hcq => ?_; subst hcq) | (with_reducible refine x1 ?_; clear hbq bq) | (with_reducible refine r1 ?_; clear hbq bq) | (with_reducible refine x5 ?_ ?_; focus rfl) | (with_reducible refine iL ?_; refine rL (by rw [Tryz.results102]) (HLess.refl _) ?_; simp only [go_sem, ↓reduceIte, aPack, Option.some.injEq, exists_eq_left', f0, f3, f6, mp, hi]) | with_reducible first | refine nS ?_ | refine nD ?_ | refine rS fun bq hbq => ?_ | refine rK ?_ | refine rE ?_ | refine rXx ?_ | refine rR ?_ | refine x2 ?_ | refine x3 ?_ | refine x4 ?_ | refine r2 ?_ | refine r3 ?_ | refine r4 ?_
          exact hq _ _ hix.symm hM3
    · rw [hv] at f18
      simp only [hv, if_true] at hq hn
      have hnr : 0 ≤ a.n ∧ a.n < 60 := by
        obtain ⟨k, n, nm, l⟩ := a
        rw [parOk, Bool.and_eq_true] at hpo
        have h1 := hpo.1
        have h2 := (Bool.and_eq_true_iff.1 hv).1
        simp only [bne, h2, Bool.not_true, Bool.false_or, Bool.and_eq_true, decide_eq_true_eq] at h1
        exact h1
      obtain ⟨nn, hnn⟩ : ∃ nn : Nat, a.n = nn := ⟨a.n.toNat, (Int.toNat_of_nonneg hnr.1).symm⟩
      have hnl : nn < mn.length := by omega
      obtain ⟨o, ho⟩ : ∃ o, mn[nn]? = some o := ⟨_, List.getElem?_eq_getElem hnl⟩
      have hget : mn.getD a.n.toNat 0 = o := by rw [hnn, Int.toNat_natCast, List.getD_eq_getElem?_getD, ho]; rfl
      rw [hget] at hq hn
      have d1 : (List.drop nn (mn.map fun i => AV.int .i64 i)).head? = some (.int .i64 o) := by rw [List.head?_drop, List.getElem?_map, ho]; rfl
      have l1 : (nn + 1 ≤ (mn.map fun i => AV.int .i64 i).length) = True := eq_true (by rw [List.length_map]; omega)
      have i60 : (nn < 60) = True := eq_true (by omega)
      try dsimp only
      repeat first | ((first | (with_reducible first | refine sS ?_ | refine sA ?_ | refine sC ?_) | (with_reducible refine iT ?_; refine sT rfl ?_) | (with_reducible refine i0 ?_; refine s0 rfl ?_) | (with_reducible refine iO ?_; refine sO rfl ?_)); intro bC bR bU hC hR hU; simp only [go_sem, ↓reduceIte, f0, f3, f18, sp]; subst hC hR hU) | (with_reducible refine rN ?_; subst hbq) | (with_reducible refine iR ?_; refine rG (by simp only [compL, gtOf, nthDst]; exact rfl) ?_) | (with_reducible refine rB fun cq hcq => ?_; subst hcq) | (with_reducible refine x1 ?_; clear hbq bq) | (with_reducible refine r1 ?_; clear hbq bq) | (with_reducible refine x5 ?_ ?_; focus rfl) | (with_reducible refine iL ?_; refine rL (by rw [Tryz.results102]) (HLess.refl _) ?_; simp only [go_sem, ↓reduceIte, aPack, Option.some.injEq, exists_eq_left', f0, f3, f18, sp]) | with_reducible first | refine nS ?_ | refine nD ?_ | refine rS fun bq hbq => ?_ | refine rK ?_ | refine rE ?_ | refine rXx ?_ | refine rR ?_ | refine x2 ?_ | refine x3 ?_ | refine x4 ?_ | refine r2 ?_ | refine r3 ?_ | refine r4 ?_
      refine run_cutS (fun τ h' => τ 0 = .ptr x 0 ∧ τ 3 = .ptr p 0 ∧ τ 41 = .bool (decide (o ≥ 0) && !(o == (a.args.length : Int))) ∧ h' = H) ?_ fun τ h' hI => ?_
      · repeat with_reducible refine run_seq fun bq hbq => ?_
        refine run_draw (.take 0 (.take 1 (.take 2 (.take 3 (.take 4 (.take 5 (.take 6 (.take 7 (.take 8 (.take 9 (.take 10 (.take 11 (.take 12 (.take 13 (.take 14 (.take 15 (.take 16 (.take 17 (.take 18 (.take 19 (.take 20 (.take 21 (.take 22 (.done)))))))))))))))))))))))) (by kernel_rfl) (by simp only [compL, gtOf, nthDst]; exact rfl) ?_
        cases ho0 : decide (o ≥ 0)
        all_goals
          try dsimp only
          repeat first | ((first | (with_reducible first | refine sS ?_ | refine sA ?_ | refine sC ?_) | (with_reducible refine iT ?_; refine sT rfl ?_) | (with_reducible refine i0 ?_; refine s0 rfl ?_) | (with_reducible refine iO ?_; refine sO rfl ?_)); intro bC bR bU hC hR hU; simp only [go_sem, ↓reduceIte, f0, f3, f18, sp, sx, sm, hnn, d1, l1, i60, ho0]; subst hC hR hU) | (with_reducible refine rN ?_; subst hbq) | (with_reducible refine iR ?_; refine rG (by simp only [compL, gtOf, nthDst]; exact rfl) ?_) | (with_reducible refine rB fun cq hcq => ?_; subst hcq) | (with_reducible refine x1 ?_; clear hbq bq) | (with_reducible refine r1 ?_; clear hbq bq) | (with_reducible refine x5 ?_ ?_; focus rfl) | (with_reducible refine iL ?_; refine rL (by rw [Tryz.results102]) (HLess.refl _) ?_; simp only [go_sem, ↓reduceIte, aPack, Option.some.injEq, exists_eq_left', f0, f3, f18, sp, sx, sm, hnn, d1, l1, i60, ho0]) | with_reducible first | refine nS ?_ | refine nD ?_ | refine rS fun bq hbq => ?_ | refine rK ?_ | refine rE ?_ | refine rXx ?_ | refine rR ?_ | refine x2 ?_ | refine x3 ?_ | refine x4 ?_ | refine r2 ?_ | refine r3 ?_ | refine r4 ?_
          refine run_endcut ?_
          simp only [go_sem, ↓reduceIte, f0, f3, ho0]
      clear f0 f3 f18
      obtain ⟨f0, f3, f41, hh⟩ := hI
      rw [hh]
      clear hh h'
      subst hbq
      cases hno : (decide (o ≥ 0) && !(o == (a.args.length : Int)))
      case true =>
        rw [hno] at f41
        simp only [hno, if_true] at hn
        try dsimp only
        repeat first | ((first | (with_reducible first | refine sS ?_ | refine sA ?_ | refine sC ?_) | (with_reducible refine iT ?_; refine sT rfl ?_) | (with_reducible refine i0 ?_; refine s0 rfl ?_) | (with_reducible refine iO ?_; refine sO rfl ?_)); intro bC bR bU hC hR hU; simp only [go_sem, ↓reduceIte, f41]; subst hC hR hU) | (with_reducible refine rN ?_; subst hbq) | (with_reducible refine iR ?_; refine rG (by simp only [compL, gtOf, nthDst]; exact rfl) ?_) | (with_reducible refine rB fun cq hcq => ?_; subst hcq) | (with_reducible refine x1 ?_; clear hbq bq) | (with_reducible refine r1 ?_; clear hbq bq) | (with_reducible refine x5 ?_ ?_; focus rfl) | (with_reducible refine iL ?_; refine rL (by rw [Tryz.results102]) (HLess.refl _) ?_; simp only [go_sem, ↓reduceIte, aPack, Option.some.injEq, exists_eq_left', f41]) | with_reducible first | refine nS ?_ | refine nD ?_ | refine rS fun bq hbq => ?_ | refine rK ?_ | refine rE ?_ | refine rXx ?_ | refine rR ?_ | refine x2 ?_ | refine x3 ?_ | refine x4 ?_ | refine r2 ?_ | refine r3 ?_ | refine r4 ?_
        exact hn _ trivial hM2.less
      rw [hno] at f41
      simp only [hno, Bool.false_eq_true, if_false] at hq hn
      try dsimp only
      repeat first | ((first | (with_reducible first | refine sS ?_ | refine sA ?_ | refine sC ?_) | (with_reducible refine iT ?_; refine sT rfl ?_) | (with_reducible refine i0 ?_; refine s0 rfl ?_) | (with_reducible refine iO ?_; refine sO rfl ?_)); intro bC bR bU hC hR hU; simp only [go_sem, ↓reduceIte, f41]; subst hC hR hU) | (with_reducible refine rN ?_; subst hbq) | (with_reducible refine iR ?_; refine rG (by simp only [compL, gtOf, nthDst]; exact rfl) ?_) | (with_reducible refine rB fun cq hcq => ?_; subst hcq) | (with_reducible refine x1 ?_; clear hbq bq) | (with_reducible refine r1 ?_; clear hbq bq) | (with_reducible refine x5 ?_ ?_; focus rfl) | (with_reducible refine iL ?_; refine rL (by rw [Tryz.results102]) (HLess.refl _) ?_; simp only [go_sem, ↓reduceIte, aPack, Option.some.injEq, exists_eq_left', f41]) | with_reducible first | refine nS ?_ | refine nD ?_ | refine rS fun bq hbq => ?_ | refine rK ?_ | refine rE ?_ | refine rXx ?_ | refine rR ?_ | refine x2 ?_ | refine x3 ?_ | refine x4 ?_ | refine r2 ?_ | refine r3 ?_ | refine r4 ?_
      repeat with_reducible refine run_seq fun bq hbq => ?_
      refine run_draw (.take 0 (.take 1 (.take 2 (.take 3 (.take 4 (.take 5 (.take 6 (.take 7 (.take 8 (.take 9 (.one 10 [] (.done)))))))))))) (by kernel_rfl) (by simp only [compL, gtOf, nthDst]; exact rfl) ?_
      try dsimp only
      repeat first | ((first | (with_reducible first | refine sS ?_ | refine sA ?_ | refine sC ?_) | (with_reducible refine iT ?_; refine sT rfl ?_) | (with_reducible refine i0 ?_; refine s0 rfl ?_) | (with_reducible refine iO ?_; refine sO rfl ?_)); intro bC bR bU hC hR hU; simp only [go_sem, ↓reduceIte, f0, f3, sp, sx, sm, hnn, d1, l1, i60]; subst hC hR hU) | (with_reducible refine rN ?_; subst hbq) | (with_reducible refine iR ?_; refine rG (by simp only [compL, gtOf, nthDst]; exact rfl) ?_) | (with_reducible refine rB fun cq hcq => ?_; subst hcq) | (with_reducible refine x1 ?_; clear hbq bq) | (with_reducible refine r1 ?_; clear hbq bq) | (with_reducible refine x5 ?_ ?_; focus rfl) | (with_reducible refine iL ?_; refine rL (by rw [Tryz.results102]) (HLess.refl _) ?_; simp only [go_sem, ↓reduceIte, aPack, Option.some.injEq, exists_eq_left', f0, f3, sp, sx, sm, hnn, d1, l1, i60]) | with_reducible first | refine nS ?_ | refine nD ?_ | refine rS fun bq hbq => ?_ | refine rK ?_ | refine rE ?_ | refine rXx ?_ | refine rR ?_ | refine x2 ?_ | refine x3 ?_ | refine x4 ?_ | refine r2 ?_ | refine r3 ?_ | refine r4 ?_
      have epm : p ≠ bm := fun e => hpm e.symm
      have hM3 : PMatcher x bm bv tv pars h0 (mn.set a.n.toNat a.args.length) (upd H bm (some (.cells (List.take nn (mn.map fun i => AV.int .i64 i) ++ .int .i64 a.args.length :: List.drop (nn + 1) (mn.map fun i => AV.int .i64 i)) 3))) := by
        refine ⟨hM2.less.new hm0, ?_, ?_, ?_⟩
        · rw [upd_other _ _ hxm]; exact sx
        · rw [upd_same, hnn, Int.toNat_natCast, ← map_put (fun i => AV.int .i64 i) (a.args.length : Int) mn nn hnl]
        · rw [List.length_set]; exact slen
      have sp3 : upd H bm (some (.cells (List.take nn (mn.map fun i => AV.int .i64 i) ++ .int .i64 a.args.length :: List.drop (nn + 1) (mn.map fun i => AV.int .i64 i)) 3)) p = some (.cells (cellsT a) 27) := by rw [upd_other _ _ epm]; exact sp
      generalize upd H bm (some (.cells (List.take nn (mn.map fun i => AV.int .i64 i) ++ .int .i64 a.args.length :: List.drop (nn + 1) (mn.map fun i => AV.int .i64 i)) 3)) = H3 at *
      have sx3 := hM3.obj
      refine run_loop (fun k τ h' => ∃ i : Nat, k + i = a.args.length ∧ τ 0 = .ptr x 0 ∧ τ 3 = .ptr p 0 ∧ τ 5 = .int .i64 i ∧ HLess h' H3 ∧ argsGoR pars (a.args.take i) (a.args.drop i) = argsGoR pars [] a.args) a.args.length ?_ ?_
      · refine ⟨0, rfl, ?_⟩
        simp only [go_sem, ↓reduceIte, f0, f3]
        exact ⟨rfl, HLess.refl _⟩
      · intro c hc k τ h' hI
        clear f0 f3 f41
        obtain ⟨i, hk, f0, f3, f5, hl', hix⟩ := hI
        subst hc
        have mp := hl' _ _ sp3
        have mx := hl' _ _ sx3
        by_cases hi : i < a.args.length
        · obtain ⟨u, hu⟩ : ∃ u, a.args[i]? = some u := ⟨_, List.getElem?_eq_getElem hi⟩
          obtain ⟨r, hr⟩ := encs_at a.args i hu
          have hdrop : a.args.drop i = u :: a.args.drop (i + 1) := by
            rw [List.drop_eq_getElem_cons hi]
            rw [List.getElem?_eq_getElem hi] at hu; injection hu with hu; rw [hu]
          have htk : a.args.take (i + 1) = a.args.take i ++ [u] := by rw [List.take_add_one, hu]; rfl
          have htl : (a.args.take i).length = i := by rw [List.length_take]; omega
          rw [hdrop, argsGoR, ← htk] at hix
          try dsimp only
          repeat first | ((first | (with_reducible first | refine sS ?_ | refine sA ?_ | refine sC ?_) | (with_reducible refine iT ?_; refine sT rfl ?_) | (with_reducible refine i0 ?_; refine s0 rfl ?_) | (with_reducible refine iO ?_; refine sO rfl ?_)); intro bC bR bU hC hR hU; simp only [go_sem, ↓reduceIte, f0, f3, f5, mp, hi]; subst hC hR hU) | (with_reducible refine rN ?_; subst hbq) | (with_reducible refine iR ?_; refine rG (by simp only [compL, gtOf, nthDst]; exact rfl) ?_) | (with_reducible refine rB fun cq hcq => ?_; subst hcq) | (with_reducible refine x1 ?_; clear hbq bq) | (with_reducible refine r1 ?_; clear hbq bq) | (with_reducible refine x5 ?_ ?_; focus rfl) | (with_reducible refine iL ?_; refine rL (by rw [Tryz.results102]) (HLess.refl _) ?_; simp only [go_sem, ↓reduceIte, aPack, Option.some.injEq, exists_eq_left', f0, f3, f5, mp, hi]) | with_reducible first | refine nS ?_ | refine nD ?_ | refine rS fun bq hbq => ?_ | refine rK ?_ | refine rE ?_ | refine rXx ?_ | refine rR ?_ | refine x2 ?_ | refine x3 ?_ | refine x4 ?_ | refine r2 ?_ | refine r3 ?_ | refine r4 ?_
          repeat with_reducible refine run_seq fun bq hbq => ?_
          refine run_draw (.take 0 (.take 1 (.take 2 (.take 3 (.take 4 (.one 5 [1] (.take 6 (.take 7 (.take 8 (.take 9 (.take 10 (.take 11 (.take 12 (.take 13 (.take 14 (.take 15 (.take 16 (.take 17 (.take 18 (.take 19 (.take 20 (.take 21 (.take 22 (.take 23 (.take 24 (.take 25 (.take 26 (.take 27 (.take 28 (.take 29 (.take 30 (.take 31 (.take 32 (.take 33 (.take 34 (.take 35 (.take 36 (.take 37 (.take 38 (.one 39 [35, 31, 25, 21, 17, 13, 9, 1] (.take 40 (.take 41 (.done))))))))))))))))))))))))))))))))))))))))))) (by kernel_rfl) (by simp only [compL, gtOf, nthDst]; exact rfl) ?_
          try dsimp only
          repeat first | ((first | (with_reducible first | refine sS ?_ | refine sA ?_ | refine sC ?_) | (with_reducible refine iT ?_; refine sT rfl ?_) | (with_reducible refine i0 ?_; refine s0 rfl ?_) | (with_reducible refine iO ?_; refine sO rfl ?_)); intro bC bR bU hC hR hU; simp only [go_sem, ↓reduceIte, f0, f3, f5, mp, hi, hr]; subst hC hR hU) | (with_reducible refine rN ?_; subst hbq) | (with_reducible refine iR ?_; refine rG (by simp only [compL, gtOf, nthDst]; exact rfl) ?_) | (with_reducible refine rB fun cq hcq => ?_; subst hcq) | (with_reducible refine x1 ?_; clear hbq bq) | (with_reducible refine r1 ?_; clear hbq bq) | (with_reducible refine x5 ?_ ?_; focus rfl) | (with_reducible refine iL ?_; refine rL (by rw [Tryz.results102]) (HLess.refl _) ?_; simp only [go_sem, ↓reduceIte, aPack, Option.some.injEq, exists_eq_left', f0, f3, f5, mp, hi, hr]) | with_reducible first | refine nS ?_ | refine nD ?_ | refine rS fun bq hbq => ?_ | refine rK ?_ | refine rE ?_ | refine rXx ?_ | refine rR ?_ | refine x2 ?_ | refine x3 ?_ | refine x4 ?_ | refine r2 ?_ | refine r3 ?_ | refine r4 ?_
          refine refSimple_am u _ _ ?_
          cases hs : refSimpleF u
          · rw [show refElem pars (a.args.take i) u = false by simp only [refElem, hs, Bool.false_and], Bool.false_and] at hix
            try dsimp only
            repeat first | ((first | (with_reducible first | refine sS ?_ | refine sA ?_ | refine sC ?_) | (with_reducible refine iT ?_; refine sT rfl ?_) | (with_reducible refine i0 ?_; refine s0 rfl ?_) | (with_reducible refine iO ?_; refine sO rfl ?_)); intro bC bR bU hC hR hU; simp only [go_sem, ↓reduceIte, f0, f3, f5, mp, hi, hr, hs]; subst hC hR hU) | (with_reducible refine rN ?_; subst hbq) | (with_reducible refine iR ?_; refine rG (by simp only [compL, gtOf, nthDst]; exact rfl) ?_) | (with_reducible refine rB fun cq hcq => ?_; subst hcq) | (with_reducible refine x1 ?_; clear hbq bq) | (with_reducible refine r1 ?_; clear hbq bq) | (with_reducible refine x5 ?_ ?_; focus rfl) | (with_reducible refine iL ?_; refine rL (by rw [Tryz.results102]) (HLess.refl _) ?_; simp only [go_sem, ↓reduceIte, aPack, Option.some.injEq, exists_eq_left', f0, f3, f5, mp, hi, hr, hs]) | with_reducible first | refine nS ?_ | refine nD ?_ | refine rS fun bq hbq => ?_ | refine rK ?_ | refine rE ?_ | refine rXx ?_ | refine rR ?_ | refine x2 ?_ | refine x3 ?_ | refine x4 ?_ | refine r2 ?_ | refine r3 ?_ | refine r4 ?_
            exact hn _ (by rw [← hix]; rfl) (hl'.trans hM3.less)
          cases hk3 : (u.kind == 3 && decide (u.n ≥ pars))
          case true =>
            have h3 := (Bool.and_eq_true_iff.1 hk3).1
            have h4 := (Bool.and_eq_true_iff.1 hk3).2
            rw [show refElem pars (a.args.take i) u = false by simp only [refElem, hk3, Bool.not_true, Bool.false_and, Bool.and_false], Bool.false_and] at hix
            try dsimp only
            repeat first | ((first | (with_reducible first | refine sS ?_ | refine sA ?_ | refine sC ?_) | (with_reducible refine iT ?_; refine sT rfl ?_) | (with_reducible refine i0 ?_; refine s0 rfl ?_) | (with_reducible refine iO ?_; refine sO rfl ?_)); intro bC bR bU hC hR hU; simp only [go_sem, ↓reduceIte, f0, f3, f5, mp, mx, hi, hr, hs, h3, h4, encs_n a.args i hu]; subst hC hR hU) | (with_reducible refine rN ?_; subst hbq) | (with_reducible refine iR ?_; refine rG (by simp only [compL, gtOf, nthDst]; exact rfl) ?_) | (with_reducible refine rB fun cq hcq => ?_; subst hcq) | (with_reducible refine x1 ?_; clear hbq bq) | (with_reducible refine r1 ?_; clear hbq bq) | (with_reducible refine x5 ?_ ?_; focus rfl) | (with_reducible refine iL ?_; refine rL (by rw [Tryz.results102]) (HLess.refl _) ?_; simp only [go_sem, ↓reduceIte, aPack, Option.some.injEq, exists_eq_left', f0, f3, f5, mp, mx, hi, hr, hs, h3, h4, encs_n a.args i hu]) | with_reducible first | refine nS ?_ | refine nD ?_ | refine rS fun bq hbq => ?_ | refine rK ?_ | refine rE ?_ | refine rXx ?_ | refine rR ?_ | refine x2 ?_ | refine x3 ?_ | refine x4 ?_ | refine r2 ?_ | refine r3 ?_ | refine r4 ?_
            exact hn _ (by rw [← hix]; rfl) (hl'.trans hM3.less)
          have hce : refElem pars (a.args.take i) u = !decide (indexF (fun v => isF v u) (a.args.take i) 0 ≥ 0) := by simp only [refElem, hs, hk3, Bool.not_false, Bool.true_and]
          have hile : (i ≤ a.args.length) = True := eq_true (by omega)
          have hun := encs_n a.args i hu
          have hsl := slice_take a.args i (by omega)
          cases h3 : (u.kind == 3)
          all_goals
            first
            | (have h4 : decide (u.n ≥ pars) = false := by rw [h3, Bool.true_and] at hk3; exact hk3)
            | (have h4 : True := trivial)
            try dsimp only
            repeat first | ((first | (with_reducible first | refine sS ?_ | refine sA ?_ | refine sC ?_) | (with_reducible refine iT ?_; refine sT rfl ?_) | (with_reducible refine i0 ?_; refine s0 rfl ?_) | (with_reducible refine iO ?_; refine sO rfl ?_)); intro bC bR bU hC hR hU; simp only [go_sem, ↓reduceIte, f0, f3, f5, mp, mx, hi, hr, hs, h3, h4, hun, hsl]; subst hC hR hU) | (with_reducible refine rN ?_; subst hbq) | (with_reducible refine iR ?_; refine rG (by simp only [compL, gtOf, nthDst]; exact rfl) ?_) | (with_reducible refine rB fun cq hcq => ?_; subst hcq) | (with_reducible refine x1 ?_; clear hbq bq) | (with_reducible refine r1 ?_; clear hbq bq) | (with_reducible refine x5 ?_ ?_; focus rfl) | (with_reducible refine iL ?_; refine rL (by rw [Tryz.results102]) (HLess.refl _) ?_; simp only [go_sem, ↓reduceIte, aPack, Option.some.injEq, exists_eq_left', f0, f3, f5, mp, mx, hi, hr, hs, h3, h4, hun, hsl]) | with_reducible first | refine nS ?_ | refine nD ?_ | refine rS fun bq hbq => ?_ | refine rK ?_ | refine rE ?_ | refine rXx ?_ | refine rR ?_ | refine x2 ?_ | refine x3 ?_ | refine x4 ?_ | refine r2 ?_ | refine r3 ?_ | refine r4 ?_
            refine at_am (a.args.take i) u _ _ (by omega) ?_
            cases hw : decide (indexF (fun v => isF v u) (a.args.take i) 0 ≥ 0)
            · rw [hce, hw, Bool.not_false, Bool.true_and] at hix
              try dsimp only
              repeat first | ((first | (with_reducible first | refine sS ?_ | refine sA ?_ | refine sC ?_) | (with_reducible refine iT ?_; refine sT rfl ?_) | (with_reducible refine i0 ?_; refine s0 rfl ?_) | (with_reducible refine iO ?_; refine sO rfl ?_)); intro bC bR bU hC hR hU; simp only [go_sem, ↓reduceIte, f0, f3, f5, mp, mx, hi, hr, hs, h3, h4, hun, hsl, hw, wrap_in (show -9223372036854775808 ≤ (i : Int) + 1 by omega) (show (i : Int) + 1 ≤ 9223372036854775807 by omega)]; subst hC hR hU) | (with_reducible refine rN ?_; subst hbq) | (with_reducible refine iR ?_; refine rG (by simp only [compL, gtOf, nthDst]; exact rfl) ?_) | (with_reducible refine rB fun cq hcq => ?_; subst hcq) | (with_reducible refine x1 ?_; clear hbq bq) | (with_reducible refine r1 ?_; clear hbq bq) | (with_reducible refine x5 ?_ ?_; focus rfl) | (with_reducible refine iL ?_; refine rL (by rw [Tryz.results102]) (HLess.refl _) ?_; simp only [go_sem, ↓reduceIte, aPack, Option.some.injEq, exists_eq_left', f0, f3, f5, mp, mx, hi, hr, hs, h3, h4, hun, hsl, hw, wrap_in (show -9223372036854775808 ≤ (i : Int) + 1 by omega) (show (i : Int) + 1 ≤ 9223372036854775807 by omega)]) | with_reducible first | refine nS ?_ | refine nD ?_ | refine rS fun bq hbq => ?_ | refine rK ?_ | refine rE ?_ | refine rXx ?_ | refine rR ?_ | refine x2 ?_ | refine x3 ?_ | refine x4 ?_ | refine r2 ?_ | refine r3 ?_ | refine r4 ?_
              refine run_loopN (m := k - 1) (by omega) ⟨i + 1, by omega, ?_⟩
              simp only [go_sem, ↓reduceIte, f0, f3]
              exact ⟨rfl, hl', hix⟩
            · rw [hce, hw, Bool.not_true, Bool.false_and] at hix
              try dsimp only
              repeat first | ((first | (with_reducible first | refine sS ?_ | refine sA ?_ | refine sC ?_) | (with_reducible refine iT ?_; refine sT rfl ?_) | (with_reducible refine i0 ?_; refine s0 rfl ?_) | (with_reducible refine iO ?_; refine sO rfl ?_)); intro bC bR bU hC hR hU; simp only [go_sem, ↓reduceIte, f0, f3, f5, mp, mx, hi, hr, hs, h3, h4, hun, hsl, hw]; subst hC hR hU) | (with_reducible refine rN ?_; subst hbq) | (with_reducible refine iR ?_; refine rG (by simp only [compL, gtOf, nthDst]; exact rfl) ?_) | (with_reducible refine rB fun cq hcq => ?_; subst hcq) | (with_reducible refine x1 ?_; clear hbq bq) | (with_reducible refine r1 ?_; clear hbq bq) | (with_reducible refine x5 ?_ ?_; focus rfl) | (with_reducible refine iL ?_; refine rL (by rw [Tryz.results102]) (HLess.refl _) ?_; simp only [go_sem, ↓reduceIte, aPack, Option.some.injEq, exists_eq_left', f0, f3, f5, mp, mx, hi, hr, hs, h3, h4, hun, hsl, hw]) | with_reducible first | refine nS ?_ | refine nD ?_ | refine rS fun bq hbq => ?_ | refine rK ?_ | refine rE ?_ | refine rXx ?_ | refine rR ?_ | refine x2 ?_ | refine x3 ?_ | refine x4 ?_ | refine r2 ?_ | refine r3 ?_ | refine r4 ?_
              exact hn _ (by rw [← hix]; rfl) (hl'.trans hM3.less)
        · rw [List.drop_eq_nil_of_le (by omega), argsGoR] at hix
          rw [← hix] at hq
          try dsimp only
          repeat first | ((first | (with_reducible first | refine sS ?_ | refine sA ?_ | refine sC ?_) | (with_reducible refine iT ?_; refine sT rfl ?_) | (with_reducible refine i0 ?_; refine s0 rfl ?_) | (with_reducible refine iO ?_; refine sO rfl ?_)); intro bC bR bU hC hR hU; simp only [go_sem, ↓reduceIte, f0, f3, f5, mp, hi]; subst hC hR hU) | (with_reducible refine rN ?_; subst hbq) | (with_reducible refine iR ?_; refine rG (by simp only [compL, gtOf, nthDst]; exact rfl) ?_) | (with_reducible refine rB fun cq hcq => ?_; subst hcq) | (with_reducible refine x1 ?_; clear hbq bq) | (with_reducible refine r1 ?_; clear hbq bq) | (with_reducible refine x5 ?_ ?_; focus rfl) | (with_reducible refine iL ?_; refine rL (by rw [Tryz.results102]) (HLess.refl _) ?_; simp only [go_sem, ↓reduceIte, aPack, Option.some.injEq, exists_eq_left', f0, f3, f5, mp, hi]) | with_reducible first | refine nS ?_ | refine nD ?_ | refine rS fun bq hbq => ?_ | refine rK ?_ | refine rE ?_ | refine rXx ?_ | refine rR ?_ | refine x2 ?_ | refine x3 ?_ | refine x4 ?_ | refine r2 ?_ | refine r3 ?_ | refine r4 ?_
          exact hq _ _ rfl (hM3.mono hl')
end Go.Proofs.YthkjmiejaoomcaaGreat.Am
