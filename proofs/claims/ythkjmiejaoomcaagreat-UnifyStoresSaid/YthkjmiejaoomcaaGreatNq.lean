/- Part of the proof of a law of layer 5: own texts, joined. -/
import Derived.Test.YthkjmiejaoomcaaGreatNp
import Derived.Test.YthkjmiejaoomcaaGreatNi
import Derived.Test.YthkjmiejaoomcaaGreatNb
import Derived.Test.YthkjmiejaoomcaaGreatNf
set_option linter.unusedVariables false
set_option linter.unusedSimpArgs false
set_option linter.unnecessarySimpa false
namespace Go.Proofs.YthkjmiejaoomcaaGreat.Am
open Go Go.RowKit Go.Proofs
set_option linter.unusedVariables false
set_option linter.unusedSimpArgs false
set_option maxRecDepth 100000
set_option maxHeartbeats 1000000
attribute [local go_sem] cSeq cDr cOne cStays nthCO panK aKind gWanted panC cPanic cOp needsName cStep aop aEval argEnv List.getD_cons_zero List.getD_cons_succ AV.known AV.cells if_true if_false cond_true cond_false aPut true_and and_true ofConst ofLeaf true_imp false_imp true_imp' false_imp' btt btf
  aFieldAt aAssert aLoad aPick aBin aInt aShift aStr unSl aLen aBuiltin Option.map_some Option.map_none upd_same eupd_at Nat.reduceBEq List.drop_zero List.drop_succ_cons List.drop_nil List.take_succ_cons List.take_zero List.head?_cons List.length_cons List.length_nil Nat.reduceAdd Nat.reduceLeDiff Nat.reduceEqDiff List.map_cons List.map_nil Nat.zero_add Nat.add_zero reduceCtorEq Bool.false_eq_true
  aResL aRes1 true_implies false_implies implies_true forall_const and_self Bool.not_true Bool.not_false Bool.cond_self upd_if aExtract aNil aIface aMax aMin aNot List.getElem?_cons_zero List.getElem?_cons_succ aIndexAt aStore aSplice AV.flat List.all_cons List.all_nil Bool.and_true Bool.true_and Bool.and_false Bool.false_and Int.natCast_nonneg Int.ofNat_lt Int.toNat_natCast cCall Nat.le_add_left List.append_nil List.contains_cons List.contains_nil Bool.or_true Bool.or_false Bool.true_or Bool.false_or Nat.reduceBEq List.cons_append List.nil_append
  sz_1 by_1 ag_1 tk_1 ze_1 sz_3 by_3 ag_3 tk_3 ze_3 sz_4 by_4 ag_4 tk_4 ze_4 sz_9 by_9 ag_9 tk_9 ze_9
  sz_20 by_20 ag_20 tk_20 ze_20 sz_22 by_22 ag_22 tk_22 el_22 ze_22 sz_24 by_24 ag_24 tk_24 ze_24 fi_24_0 pl_24 sz_25 by_25
  ag_25 tk_25 el_25 ze_25 sz_27 by_27 ag_27 tk_27 ze_27 fi_27_0 fi_27_1 fi_27_2 fi_27_3 pl_27 sz_30 by_30 ag_30 tk_30 ze_30 sz_34
  by_34 ag_34 tk_34 ze_34 fi_34_0 fi_34_1 fi_34_2 fi_34_3 pl_34 sz_40 by_40 ag_40 tk_40 el_40 ze_40 sz_42 by_42 ag_42 tk_42 ze_42
  fi_42_0 fi_42_1 fi_42_2 pl_42 sz_52 by_52 ag_52 tk_52 ze_52 fi_52_0 fi_52_1 fi_52_2 fi_52_3 pl_52 sz_60 by_60 ag_60 tk_60 ze_60 fi_60_0
  fi_60_1 pl_60 sz_62 by_62 ag_62 tk_62 ze_62 fi_62_0 fi_62_1 fi_62_2 fi_62_3 pl_62 sz_68 by_68 ag_68 tk_68 ze_68 fi_68_0 fi_68_1 pl_68
  sz_70 by_70 ag_70 tk_70 el_70 ze_70 sz_77 by_77 ag_77 tk_77 el_77 ze_77 sz_80 by_80 ag_80 tk_80 ze_80 sz_83 by_83 ag_83
  tk_83 ze_83 fi_83_0 fi_83_1 pl_83 sz_95 by_95 ag_95 tk_95 ze_95 sz_97 by_97 ag_97 tk_97 ze_97 sz_99 by_99 ag_99 tk_99 mp_99
  ze_99 sz_101 by_101 ag_101 tk_101 ze_101 fi_101_0 fi_101_1 fi_101_2 pl_101 sz_104 by_104 ag_104 tk_104 ze_104 sz_106 by_106 ag_106 tk_106 ze_106
  fi_106_0 fi_106_1 fi_106_2 pl_106 sz_108 by_108 ag_108 tk_108 ze_108 sz_109 by_109 ag_109 tk_109 ze_109 sz_110 by_110 ag_110 tk_110 el_110 ze_110
  sz_112 by_112 ag_112 tk_112 ze_112 fi_112_0 fi_112_1 fi_112_2 fi_112_3 pl_112 sz_115 by_115 ag_115 tk_115 ze_115 fi_115_0 fi_115_1 pl_115 sz_121 by_121
  ag_121 tk_121 ze_121 sz_125 by_125 ag_125 tk_125 ze_125 sz_126 by_126 ag_126 tk_126 mp_126 ze_126 sz_128 by_128 ag_128 tk_128 ze_128 fi_128_0
  fi_128_1 fi_128_2 fi_128_3 pl_128 sz_136 by_136 ag_136 tk_136 el_136 ze_136 sz_140 by_140 ag_140 tk_140 mp_140 ze_140 sz_142 by_142 ag_142 tk_142
  ze_142 fi_142_0 fi_142_1 pl_142 sz_144 by_144 ag_144 tk_144 ze_144 sz_145 by_145 ag_145 tk_145 el_145 ze_145 sz_147 by_147 ag_147 tk_147 ze_147
  fi_147_0 fi_147_1 fi_147_2 fi_147_3 pl_147 sz_150 by_150 ag_150 tk_150 ze_150 pl_150 sz_152 by_152 ag_152 tk_152 ze_152 fi_152_0 pl_152 sz_156 by_156
  ag_156 tk_156 ze_156 sz_158 by_158 ag_158 tk_158 ze_158 fi_158_0 fi_158_1 fi_158_2 pl_158 sz_160 by_160 ag_160 tk_160 mp_160 ze_160 sz_162 by_162
  ag_162 tk_162 ze_162 sz_164 by_164 ag_164 tk_164 ze_164 fi_164_0 fi_164_1 fi_164_2 pl_164 sz_167 by_167 ag_167 tk_167 ze_167 fi_167_0 fi_167_1 pl_167
  sz_173 by_173 ag_173 tk_173 el_173 ze_173 sz_189 by_189 ag_189 tk_189 ze_189 sz_198 by_198 ag_198 tk_198 ze_198
  cStays_nil bne decide_true decide_false Nat.mul_one upd_twice beq_self_eq_true Int.reduceBEq Int.reduceLT Int.reduceLE
/- Fresh of the program. -/


theorem AmCalls.weakV {f : FuncId} {args : List AV} {h : AHeap} {Q : AOut → AHeap → Prop} (k : AmCalls Tryz.prog f args h fun o h' => ∃ v v' h2, o = .ret v ∧ WeakV v h' v' h2 ∧ Q (.ret v') h2) : AmCalls Tryz.prog f args h Q := fun n =>
  ⟨(k n).1, fun F m G W vargs hF hr s hn r => ((k n).2 F m G W vargs hF hr s hn r).mono fun e W' ⟨o, h', G', ⟨v, v', h2, ho, hw, q⟩, s', ev, ro⟩ => by
    subst ho
    cases e with
    | returned x =>
      obtain ⟨G2, e2, s2, r2⟩ := hw _ G' W' x s' ro
      exact ⟨.ret v', h2, G2, q, s2, ev.trans e2, r2⟩
    | _ => exact ro.elim⟩
theorem fresh_am (vs : List Va) (hvs : vs.length ≤ 1000000) (tk : Tok) (lv : Int) (ty : Ty) (h : AHeap) (Q : AOut → AHeap → Prop) (hq : Q (.ret (freshAV vs lv ty)) h) : AmCalls Tryz.prog 35 [.agg [.list 8 (encVs vs) vs.length tk], .int .i64 lv, encTy ty] h Q := by
  have hq2 : ∀ v h', WeakV v h' (freshAV vs lv ty) h → ∃ v1 v' h2, AOut.ret v = .ret v1 ∧ WeakV v1 h' v' h2 ∧ Q (.ret v') h2 := fun v h' hv => ⟨v, _, h, rfl, hv, hq⟩
  clear hq
  have hq : ∀ v, LeAV v (freshAV vs lv ty) → ∃ v1 v' h2, AOut.ret v = .ret v1 ∧ WeakV v1 h v' h2 ∧ Q (.ret v') h2 := fun v hv => hq2 v h (WeakV.of hv (HLess.refl _))
  refine AmCalls.weakV ?_
  refine AmCalls.of_sem (fn := Tryz.f35) Tryz.func35 rfl (by kernel_rfl) (by rw [Tryz.ntmps35]; simp) (enters_of Tryz.func35 (by kernel_rfl) (by kernel_rfl)) ?_
  try dsimp only
  repeat first | ((with_reducible refine sS ?_); intro bC bR bU hC hR hU; simp only [go_sem, ↓reduceIte]; subst hC hR hU) | (with_reducible refine iR ?_; refine rG (by simp only [compL, gtOf, nthDst]; exact rfl) ?_) | with_reducible refine rS fun bq hbq => ?_
  intro a ha
  try dsimp only
  repeat (((with_reducible refine sS ?_); intro bC bR bU hC hR hU; simp only [go_sem, ↓reduceIte]; subst hC hR hU))
  intro b hb
  have e1 := fresh_if hb
  try dsimp only
  repeat (((with_reducible refine sS ?_); intro bC bR bU hC hR hU; simp only [go_sem, ↓reduceIte]; subst hC hR hU))
  intro r hr
  have e2 := fresh_if hr
  have e3 := fresh_if e2.2
  have fin : ∀ x, HLess (upd (upd (upd h a (some (.cells [.list 8 (encVs vs) vs.length tk] 24))) b (some (.cells (cellsTy ty) 60))) r (some x)) h := fun x => ((HLess.refl h).new ha |>.new e1.2 |>.new e3.2)
  try dsimp only
  repeat first | ((with_reducible refine sS ?_); intro bC bR bU hC hR hU; simp only [go_sem, ↓reduceIte, e1.1, e1.1.symm, e2.1, e2.1.symm, e3.1, e3.1.symm]; subst hC hR hU) | (with_reducible refine rN ?_; subst hbq) | (with_reducible refine iR ?_; refine rG (by simp only [compL, gtOf, nthDst]; exact rfl) ?_) | with_reducible first | refine nS ?_ | refine rS fun bq hbq => ?_
  refine check_am vs hvs tk _ _ ?_
  cases c0 : (checkF vs == 0)
  · have hE : freshErr vs lv ty = checkF vs := by unfold freshErr; rw [c0]; rfl
    try dsimp only
    repeat first | ((with_reducible first | refine sS ?_ | refine sC ?_); intro bC bR bU hC hR hU; simp only [go_sem, ↓reduceIte, e1.1, e1.1.symm, e2.1, e2.1.symm, e3.1, e3.1.symm, c0, build24_0]; subst hC hR hU) | (with_reducible refine rN ?_; subst hbq) | (with_reducible refine iR ?_; refine rG (by simp only [compL, gtOf, nthDst]; exact rfl) ?_) | (with_reducible refine r1 ?_; clear hbq bq) | (with_reducible refine iL ?_; refine rL (by rw [Tryz.results35]) (fin _) ?_; simp only [go_sem, ↓reduceIte, aPack, Option.some.injEq, exists_eq_left', e1.1, e1.1.symm, e2.1, e2.1.symm, e3.1, e3.1.symm, c0, build24_0]) | with_reducible first | refine nS ?_ | refine rS fun bq hbq => ?_ | refine rR ?_
    exact hq _ (fresh_bad vs lv ty hE c0)
  try dsimp only
  repeat first | ((with_reducible first | refine sS ?_ | refine sC ?_); intro bC bR bU hC hR hU; simp only [go_sem, ↓reduceIte, e1.1, e1.1.symm, e2.1, e2.1.symm, e3.1, e3.1.symm, c0]; subst hC hR hU) | (with_reducible refine rN ?_; subst hbq) | (with_reducible refine iR ?_; refine rG (by simp only [compL, gtOf, nthDst]; exact rfl) ?_) | with_reducible first | refine nS ?_ | refine rS fun bq hbq => ?_ | refine rK ?_
  refine args_am ty _ _ ?_
  rw [argsV_eq]
  cases ho : (argsF ty).isSome
  · have hE : freshErr vs lv ty = 1 := by unfold freshErr; rw [c0, ho]; rfl
    try dsimp only
    repeat first | ((with_reducible first | refine sS ?_ | refine sC ?_); intro bC bR bU hC hR hU; simp only [go_sem, ↓reduceIte, e1.1, e1.1.symm, e2.1, e2.1.symm, e3.1, e3.1.symm, ho, build24_0]; subst hC hR hU) | (with_reducible refine rN ?_; subst hbq) | (with_reducible refine iR ?_; refine rG (by simp only [compL, gtOf, nthDst]; exact rfl) ?_) | (with_reducible refine r1 ?_; clear hbq bq) | (with_reducible refine iL ?_; refine rL (by rw [Tryz.results35]) (fin _) ?_; simp only [go_sem, ↓reduceIte, aPack, Option.some.injEq, exists_eq_left', e1.1, e1.1.symm, e2.1, e2.1.symm, e3.1, e3.1.symm, ho, build24_0]) | with_reducible first | refine nS ?_ | refine rS fun bq hbq => ?_ | refine rR ?_
    exact hq _ (fresh_bad vs lv ty hE rfl)
  cases l0 : decide (lv < 0)
  case true =>
    have hE : freshErr vs lv ty = 1 := by unfold freshErr; rw [c0, ho, l0]; rfl
    try dsimp only
    repeat first | ((with_reducible first | refine sS ?_ | refine sC ?_); intro bC bR bU hC hR hU; simp only [go_sem, ↓reduceIte, e1.1, e1.1.symm, e2.1, e2.1.symm, e3.1, e3.1.symm, ho, l0, build24_0]; subst hC hR hU) | (with_reducible refine rN ?_; subst hbq) | (with_reducible refine iR ?_; refine rG (by simp only [compL, gtOf, nthDst]; exact rfl) ?_) | (with_reducible refine r1 ?_; clear hbq bq) | (with_reducible refine iL ?_; refine rL (by rw [Tryz.results35]) (fin _) ?_; simp only [go_sem, ↓reduceIte, aPack, Option.some.injEq, exists_eq_left', e1.1, e1.1.symm, e2.1, e2.1.symm, e3.1, e3.1.symm, ho, l0, build24_0]) | with_reducible first | refine nS ?_ | refine rS fun bq hbq => ?_ | refine rR ?_
    exact hq _ (fresh_bad vs lv ty hE rfl)
  cases l1 : decide (lv > 60)
  case true =>
    have hE : freshErr vs lv ty = 1 := by unfold freshErr; rw [c0, ho, l0, l1]; rfl
    try dsimp only
    repeat first | ((with_reducible first | refine sS ?_ | refine sC ?_); intro bC bR bU hC hR hU; simp only [go_sem, ↓reduceIte, e1.1, e1.1.symm, e2.1, e2.1.symm, e3.1, e3.1.symm, ho, l0, l1, build24_0]; subst hC hR hU) | (with_reducible refine rN ?_; subst hbq) | (with_reducible refine iR ?_; refine rG (by simp only [compL, gtOf, nthDst]; exact rfl) ?_) | (with_reducible refine r1 ?_; clear hbq bq) | (with_reducible refine iL ?_; refine rL (by rw [Tryz.results35]) (fin _) ?_; simp only [go_sem, ↓reduceIte, aPack, Option.some.injEq, exists_eq_left', e1.1, e1.1.symm, e2.1, e2.1.symm, e3.1, e3.1.symm, ho, l0, l1, build24_0]) | with_reducible first | refine nS ?_ | refine rS fun bq hbq => ?_ | refine rR ?_
    exact hq _ (fresh_bad vs lv ty hE rfl)
  cases l2 : decide ((vs.length : Int) ≥ 2000)
  case true =>
    have hE : freshErr vs lv ty = 2 := by unfold freshErr; rw [c0, ho, l0, l1, l2]; rfl
    try dsimp only
    repeat first | ((with_reducible first | refine sS ?_ | refine sC ?_); intro bC bR bU hC hR hU; simp only [go_sem, ↓reduceIte, e1.1, e1.1.symm, e2.1, e2.1.symm, e3.1, e3.1.symm, ho, l0, l1, l2, build24_0]; subst hC hR hU) | (with_reducible refine rN ?_; subst hbq) | (with_reducible refine iR ?_; refine rG (by simp only [compL, gtOf, nthDst]; exact rfl) ?_) | (with_reducible refine r1 ?_; clear hbq bq) | (with_reducible refine iL ?_; refine rL (by rw [Tryz.results35]) (fin _) ?_; simp only [go_sem, ↓reduceIte, aPack, Option.some.injEq, exists_eq_left', e1.1, e1.1.symm, e2.1, e2.1.symm, e3.1, e3.1.symm, ho, l0, l1, l2, build24_0]) | with_reducible first | refine nS ?_ | refine rS fun bq hbq => ?_ | refine rK ?_ | refine rR ?_
    exact hq _ (fresh_bad vs lv ty hE rfl)
  have hE : freshErr vs lv ty = 0 := by unfold freshErr; rw [c0, ho, l0, l1, l2]; rfl
  try dsimp only
  repeat first | ((with_reducible first | refine sS ?_ | refine sC ?_); intro bC bR bU hC hR hU; simp only [go_sem, ↓reduceIte, e1.1, e1.1.symm, e2.1, e2.1.symm, e3.1, e3.1.symm, ho, l0, l1, l2]; subst hC hR hU) | (with_reducible refine rN ?_; subst hbq) | (with_reducible refine iR ?_; refine rG (by simp only [compL, gtOf, nthDst]; exact rfl) ?_) | with_reducible first | refine nS ?_ | refine rS fun bq hbq => ?_ | refine rK ?_
  refine AmCalls.args (args' := [.agg [.list 8 (encVs vs) vs.length .none]]) (.cons (LeAV.agg (.cons (LeAV.list _ _ _ _) .nil)) .nil) (copiedStore_am vs _ _ (by omega) (check_sizes c0) (fun hnil => ?_) (fun hne p hp => ?_))
  · try dsimp only
    repeat (((with_reducible refine sS ?_); intro bC bR bU hC hR hU; simp only [go_sem, ↓reduceIte, e1.1, e1.1.symm, e2.1, e2.1.symm, e3.1, e3.1.symm]; subst hC hR hU))
    intro q hq3
    have q1 := fresh_if hq3
    have q2 := fresh_if q1.2
    have q3 := fresh_if q2.2
    try dsimp only
    repeat first | ((with_reducible refine sS ?_); intro bC bR bU hC hR hU; simp only [go_sem, ↓reduceIte, e1.1, e1.1.symm, e2.1, e2.1.symm, e3.1, e3.1.symm, q1.1, q1.1.symm, q2.1, q2.1.symm, q3.1, q3.1.symm]; subst hC hR hU) | (with_reducible refine rN ?_; subst hbq) | with_reducible first | refine nS ?_ | refine rS fun bq hbq => ?_
    repeat with_reducible refine run_seq fun bq hbq => ?_
    refine run_draw (.take 0 (.take 1 (.take 2 (.take 3 (.one 4 [1] (.take 5 (.take 6 (.one 7 [] (.take 8 (.one 9 [] (.done))))))))))) (by kernel_rfl) (by simp only [compL, gtOf, nthDst]; exact rfl) ?_
    try dsimp only
    repeat (((first | (with_reducible refine iT ?_; refine sT rfl ?_) | (with_reducible refine iO ?_; refine sO rfl ?_)); intro bC bR bU hC hR hU; simp only [go_sem, ↓reduceIte, e1.1, e1.1.symm, e2.1, e2.1.symm, e3.1, e3.1.symm, q1.1, q1.1.symm, q2.1, q2.1.symm, q3.1, q3.1.symm]; subst hC hR hU))
    refine copyType_am ty.size ty _ _ (Nat.le_refl _) (by have := type_size ho; omega) ?_
    try dsimp only
    repeat (((first | (with_reducible refine sA ?_) | (with_reducible refine iT ?_; refine sT rfl ?_) | (with_reducible refine i0 ?_; refine s0 rfl ?_)); intro bC bR bU hC hR hU; simp only [go_sem, ↓reduceIte, e1.1, e1.1.symm, e2.1, e2.1.symm, e3.1, e3.1.symm, q1.1, q1.1.symm, q2.1, q2.1.symm, q3.1, q3.1.symm, build62N, build22N]; subst hC hR hU))
    refine cAppend_own ?_
    simp only [go_sem, ↓reduceIte, cOwnStep]
    intro w hw
    have w1 := fresh_if hw
    have w2 := fresh_if w1.2
    have w3 := fresh_if w2.2
    have w4 := fresh_if w3.2
    rw [own_new el_22 el_22 sz_62 by_62 ze_62 ⟨rfl, by decide⟩ (.inl rfl) (.inl rfl) rfl (by decide) (by decide)]
    simp only [go_sem, ↓reduceIte]
    simp only [go_sem, ↓reduceIte, e1.1, e1.1.symm, e2.1, e2.1.symm, e3.1, e3.1.symm, q1.1, q1.1.symm, q2.1, q2.1.symm, q3.1, q3.1.symm, w1.1, w1.1.symm, w2.1, w2.1.symm, w3.1, w3.1.symm, w4.1, w4.1.symm]
    try dsimp only
    repeat first | (with_reducible refine rN ?_; subst hbq) | with_reducible refine rS fun bq hbq => ?_
    repeat with_reducible refine run_seq fun bq hbq => ?_
    refine run_draw (.take 0 (.take 1 (.take 2 (.take 3 (.one 4 [2] (.take 5 (.take 6 (.done)))))))) (by kernel_rfl) (by simp only [compL, gtOf, nthDst]; exact rfl) ?_
    try dsimp only
    repeat first | ((first | (with_reducible refine iT ?_; refine sT rfl ?_) | (with_reducible refine iO ?_; refine sO rfl ?_)); intro bC bR bU hC hR hU; simp only [go_sem, ↓reduceIte, e1.1, e1.1.symm, e2.1, e2.1.symm, e3.1, e3.1.symm, q1.1, q1.1.symm, q2.1, q2.1.symm, q3.1, q3.1.symm, w1.1, w1.1.symm, w2.1, w2.1.symm, w3.1, w3.1.symm, w4.1, w4.1.symm]; subst hC hR hU) | (with_reducible refine rN ?_; subst hbq) | (with_reducible refine iL ?_; refine rL (by rw [Tryz.results35]) (HLess.refl _) ?_; simp only [go_sem, ↓reduceIte, aPack, Option.some.injEq, exists_eq_left', e1.1, e1.1.symm, e2.1, e2.1.symm, e3.1, e3.1.symm, q1.1, q1.1.symm, q2.1, q2.1.symm, q3.1, q3.1.symm, w1.1, w1.1.symm, w2.1, w2.1.symm, w3.1, w3.1.symm, w4.1, w4.1.symm]) | with_reducible first | refine nD ?_ | refine rR ?_
    have hV : freshVs vs lv ty = vs ++ [newVa lv ty] := by unfold freshVs; rw [hE]; rfl
    have hN : freshN vs lv ty = vs.length := by unfold freshN; rw [hE]; rfl
    subst hnil
    refine hq2 _ _ (WeakV.freeze (p := w) (n := 0 + 1) (z := 8) (cs := [] ++ [.int .i64 lv, .str ty.name, .list 2 (encTs ty.args) ty.args.length .none, .bool false, .int .i64 0, .int .i64 0, .str noNameS, .list 0 [] 0 .nil]) (T := 62) ?_ ?_ ?_ ?_ (LeH.of ?_ w4.2))
    · rw [upd_other _ _ w2.1, upd_other _ _ w1.1, upd_same]; rfl
    · rfl
    · rfl
    · refine LeF.trans (LeF.tuple (.cons (LeF.agg (.cons LeF.here .nil)) (.cons (LeF.refl _) (.cons (LeF.refl _) .nil)))) (LeF.of ?_)
      unfold freshAV
      rw [hV, hN, hE]
      exact LeAV.tuple (.cons (LeAV.agg (.cons (le_new [] lv ty _) .nil)) (.cons (LeAV.refl _) (.cons (LeAV.refl _) .nil)))
    · exact hless_set (hless_set (hless_set (hless_set (hless_set (hless_set (hless_set (HLess.refl h) ha _) e1.2 _) e3.2 _) q3.2 _) w4.2 _) q3.2 _) e3.2 _
  · have p1 := fresh_if hp
    have p2 := fresh_if p1.2
    have p3 := fresh_if p2.2
    try dsimp only
    repeat (((with_reducible refine sS ?_); intro bC bR bU hC hR hU; simp only [go_sem, ↓reduceIte, e1.1, e1.1.symm, e2.1, e2.1.symm, e3.1, e3.1.symm]; subst hC hR hU))
    intro q hq3
    have q1 := fresh_if hq3
    have q2 := fresh_if q1.2
    have q3 := fresh_if q2.2
    have q4 := fresh_if q3.2
    try dsimp only
    repeat first | ((with_reducible refine sS ?_); intro bC bR bU hC hR hU; simp only [go_sem, ↓reduceIte, e1.1, e1.1.symm, e2.1, e2.1.symm, e3.1, e3.1.symm, p1.1, p1.1.symm, p2.1, p2.1.symm, p3.1, p3.1.symm, q1.1, q1.1.symm, q2.1, q2.1.symm, q3.1, q3.1.symm, q4.1, q4.1.symm]; subst hC hR hU) | (with_reducible refine rN ?_; subst hbq) | with_reducible first | refine nS ?_ | refine rS fun bq hbq => ?_
    repeat with_reducible refine run_seq fun bq hbq => ?_
    refine run_draw (.take 0 (.take 1 (.take 2 (.take 3 (.one 4 [1] (.take 5 (.take 6 (.one 7 [] (.take 8 (.one 9 [] (.done))))))))))) (by kernel_rfl) (by simp only [compL, gtOf, nthDst]; exact rfl) ?_
    try dsimp only
    repeat (((first | (with_reducible refine iT ?_; refine sT rfl ?_) | (with_reducible refine iO ?_; refine sO rfl ?_)); intro bC bR bU hC hR hU; simp only [go_sem, ↓reduceIte, e1.1, e1.1.symm, e2.1, e2.1.symm, e3.1, e3.1.symm, p1.1, p1.1.symm, p2.1, p2.1.symm, p3.1, p3.1.symm, q1.1, q1.1.symm, q2.1, q2.1.symm, q3.1, q3.1.symm, q4.1, q4.1.symm]; subst hC hR hU))
    refine copyType_am ty.size ty _ _ (Nat.le_refl _) (by have := type_size ho; omega) ?_
    try dsimp only
    repeat (((first | (with_reducible refine sA ?_) | (with_reducible refine iT ?_; refine sT rfl ?_) | (with_reducible refine i0 ?_; refine s0 rfl ?_)); intro bC bR bU hC hR hU; simp only [go_sem, ↓reduceIte, e1.1, e1.1.symm, e2.1, e2.1.symm, e3.1, e3.1.symm, p1.1, p1.1.symm, p2.1, p2.1.symm, p3.1, p3.1.symm, q1.1, q1.1.symm, q2.1, q2.1.symm, q3.1, q3.1.symm, q4.1, q4.1.symm, build62N, build22N]; subst hC hR hU))
    refine cAppend_own ?_
    simp only [go_sem, ↓reduceIte, cOwnStep]
    intro w hw
    have w1 := fresh_if hw
    have w2 := fresh_if w1.2
    have w3 := fresh_if w2.2
    have w4 := fresh_if w3.2
    have w5 := fresh_if w4.2
    rw [own_more el_22 el_22 sz_62 by_62 ze_62 ⟨rfl, by decide⟩ (k := p) (cs := encVs vs) (n1 := vs.length) (by simp [upd, p1.1, p2.1, p3.1, q1.1.symm, q1.1]) (by rw [encVs_length]) rfl (by decide) (by omega)]
    simp only [go_sem, ↓reduceIte]
    simp only [go_sem, ↓reduceIte, e1.1, e1.1.symm, e2.1, e2.1.symm, e3.1, e3.1.symm, p1.1, p1.1.symm, p2.1, p2.1.symm, p3.1, p3.1.symm, q1.1, q1.1.symm, q2.1, q2.1.symm, q3.1, q3.1.symm, q4.1, q4.1.symm, w1.1, w1.1.symm, w2.1, w2.1.symm, w3.1, w3.1.symm, w4.1, w4.1.symm, w5.1, w5.1.symm]
    try dsimp only
    repeat first | (with_reducible refine rN ?_; subst hbq) | with_reducible refine rS fun bq hbq => ?_
    repeat with_reducible refine run_seq fun bq hbq => ?_
    refine run_draw (.take 0 (.take 1 (.take 2 (.take 3 (.one 4 [2] (.take 5 (.take 6 (.done)))))))) (by kernel_rfl) (by simp only [compL, gtOf, nthDst]; exact rfl) ?_
    try dsimp only
    repeat first | ((first | (with_reducible refine iT ?_; refine sT rfl ?_) | (with_reducible refine iO ?_; refine sO rfl ?_)); intro bC bR bU hC hR hU; simp only [go_sem, ↓reduceIte, e1.1, e1.1.symm, e2.1, e2.1.symm, e3.1, e3.1.symm, p1.1, p1.1.symm, p2.1, p2.1.symm, p3.1, p3.1.symm, q1.1, q1.1.symm, q2.1, q2.1.symm, q3.1, q3.1.symm, q4.1, q4.1.symm, w1.1, w1.1.symm, w2.1, w2.1.symm, w3.1, w3.1.symm, w4.1, w4.1.symm, w5.1, w5.1.symm]; subst hC hR hU) | (with_reducible refine rN ?_; subst hbq) | (with_reducible refine iL ?_; refine rL (by rw [Tryz.results35]) (HLess.refl _) ?_; simp only [go_sem, ↓reduceIte, aPack, Option.some.injEq, exists_eq_left', e1.1, e1.1.symm, e2.1, e2.1.symm, e3.1, e3.1.symm, p1.1, p1.1.symm, p2.1, p2.1.symm, p3.1, p3.1.symm, q1.1, q1.1.symm, q2.1, q2.1.symm, q3.1, q3.1.symm, q4.1, q4.1.symm, w1.1, w1.1.symm, w2.1, w2.1.symm, w3.1, w3.1.symm, w4.1, w4.1.symm, w5.1, w5.1.symm]) | with_reducible first | refine nD ?_ | refine rR ?_
    have hV : freshVs vs lv ty = vs ++ [newVa lv ty] := by unfold freshVs; rw [hE]; rfl
    have hN : freshN vs lv ty = vs.length := by unfold freshN; rw [hE]; rfl
    refine hq2 _ _ (WeakV.freeze (p := w) (n := vs.length + 1) (z := 8) (cs := encVs vs ++ [.int .i64 lv, .str ty.name, .list 2 (encTs ty.args) ty.args.length .none, .bool false, .int .i64 0, .int .i64 0, .str noNameS, .list 0 [] 0 .nil]) (T := 62) ?_ ?_ ?_ ?_ (LeH.of ?_ w5.2))
    · rw [upd_other _ _ w3.1, upd_other _ _ w1.1, upd_same]
    · rw [List.length_append, encVs_length]; simp only [List.length_cons, List.length_nil]; omega
    · rw [List.all_append, encVs_flat]; rfl
    · refine LeF.trans (LeF.tuple (.cons (LeF.agg (.cons LeF.here .nil)) (.cons (LeF.refl _) (.cons (LeF.refl _) .nil)))) (LeF.of ?_)
      unfold freshAV
      rw [hV, hN, hE]
      exact LeAV.tuple (.cons (LeAV.agg (.cons (le_new vs lv ty _) .nil)) (.cons (LeAV.refl _) (.cons (LeAV.refl _) .nil)))
    · exact hless_set (hless_set (hless_set (hless_set (hless_set (hless_set (hless_set (hless_set (hless_set (HLess.refl h) ha _) e1.2 _) e3.2 _) p3.2 _) q4.2 _) p3.2 _) w5.2 _) q4.2 _) e3.2 _
/- The law UnifyStores. -/


theorem saneS_am (h : AHeap) (Q : AOut → AHeap → Prop) (hq : Q (.ret (.bool true)) h) : AmCalls Tryz.prog 13 [] h Q :=
  fun n => (sane_calls h n).mono fun o h' n' ⟨ho, hh, _⟩ => by subst ho; subst hh; exact hq
theorem fresh_sizes (vs : List Va) (lv : Int) (ty : Ty) : ∀ v ∈ freshVs vs lv ty, v.type.size ≤ 1000000000 ∧ v.t.size ≤ 1000000000 := by
  intro v hv
  unfold freshVs at hv
  split at hv
  · rename_i h0
    unfold freshErr at h0
    cases hc0 : (checkF vs == 0)
    · rw [hc0] at h0
      simp only [Bool.false_eq_true, if_false] at h0
      rw [hc0] at h0; cases h0
    · rw [hc0] at h0
      cases ho : (argsF ty).isSome
      · rw [ho] at h0; cases h0
      · rcases List.mem_append.1 hv with hv | hv
        · exact check_sizes hc0 v hv
        · rw [List.mem_singleton] at hv
          subst hv
          have := type_size ho
          refine ⟨by show ty.size ≤ _; omega, ?_⟩
          simp only [newVa]
          rw [Term.size, sizes]; decide
  · exact absurd hv List.not_mem_nil
theorem stores_am (vs : List Va) (tk : Tok) (t : Term) (lv : Int) (ty : Ty) (h : AHeap) (Q : AOut → AHeap → Prop) (hq : Q (.ret (.bool true)) h) :
    AmCalls Tryz.prog 8 [.agg [.list 8 (encVs vs) vs.length tk], enc t, .agg [.int .i64 lv, .str ty.name, .list 2 (encTs ty.args) ty.args.length .none]] h Q := by
  refine AmCalls.of_sem (fn := Tryz.f8) Tryz.func8 rfl (by kernel_rfl) (by rw [Tryz.ntmps8]; simp) (enters_of Tryz.func8 (by kernel_rfl) (by kernel_rfl)) ?_
  try dsimp only
  repeat first | ((with_reducible refine sS ?_); intro bC bR bU hC hR hU; simp only [go_sem, ↓reduceIte]; subst hC hR hU) | (with_reducible refine iR ?_; refine rG (by simp only [compL, gtOf, nthDst]; exact rfl) ?_) | with_reducible refine rS fun bq hbq => ?_
  intro a ha
  try dsimp only
  repeat (((with_reducible refine sS ?_); intro bC bR bU hC hR hU; simp only [go_sem, ↓reduceIte]; subst hC hR hU))
  intro b hb
  have e1 := fresh_if hb
  try dsimp only
  repeat (((with_reducible refine sS ?_); intro bC bR bU hC hR hU; simp only [go_sem, ↓reduceIte]; subst hC hR hU))
  intro c hc
  have e2 := fresh_if hc
  have e3 := fresh_if e2.2
  have fin : HLess (upd (upd (upd h a (some (.cells [.list 8 (encVs vs) vs.length tk] 24))) b (some (.cells (cellsT t) 27))) c (some (.cells [.int .i64 lv, .str ty.name, .list 2 (encTs ty.args) ty.args.length .none] 68))) h := ((HLess.refl h).new ha |>.new e1.2 |>.new e3.2)
  try dsimp only
  repeat first | ((with_reducible refine sS ?_); intro bC bR bU hC hR hU; simp only [go_sem, ↓reduceIte, e1.1, e1.1.symm, e2.1, e2.1.symm, e3.1, e3.1.symm]; subst hC hR hU) | (with_reducible refine rN ?_; subst hbq) | (with_reducible refine iR ?_; refine rG (by simp only [compL, gtOf, nthDst]; exact rfl) ?_) | with_reducible first | refine nS ?_ | refine rS fun bq hbq => ?_
  refine saneS_am _ _ ?_
  try dsimp only
  repeat first | ((with_reducible refine sS ?_); intro bC bR bU hC hR hU; simp only [go_sem, ↓reduceIte, e1.1, e1.1.symm, e2.1, e2.1.symm, e3.1, e3.1.symm, build25_1]; subst hC hR hU) | (with_reducible refine rN ?_; subst hbq) | (with_reducible refine iR ?_; refine rG (by simp only [compL, gtOf, nthDst]; exact rfl) ?_) | with_reducible first | refine nS ?_ | refine rS fun bq hbq => ?_
  have e25 : encs [t] = cellsT t := by rw [encs_eq]; simp
  refine AmCalls.args (args' := [.agg [.list 8 (encVs vs) vs.length tk], .list 4 (encs [t]) ([t] : List Term).length .none]) (.cons (LeAV.refl _) (.cons (by rw [e25]; exact LeAV.list _ _ _ _) .nil)) (fewS_am vs tk [t] _ _ (by simp) ?_)
  have sa : (upd (upd (upd h a (some (AObj.cells [.list 8 (encVs vs) vs.length tk] 24))) b (some (.cells (cellsT t) 27))) c (some (.cells [.int .i64 lv, .str ty.name, .list 2 (encTs ty.args) ty.args.length .none] 68))) a = some (.cells [.list 8 (encVs vs) vs.length tk] 24) := by rw [upd_other _ _ e3.1.symm, upd_other _ _ e1.1.symm, upd_same]
  have sb : (upd (upd (upd h a (some (AObj.cells [.list 8 (encVs vs) vs.length tk] 24))) b (some (.cells (cellsT t) 27))) c (some (.cells [.int .i64 lv, .str ty.name, .list 2 (encTs ty.args) ty.args.length .none] 68))) b = some (.cells (cellsT t) 27) := by rw [upd_other _ _ e2.1.symm, upd_same]
  have sc : (upd (upd (upd h a (some (AObj.cells [.list 8 (encVs vs) vs.length tk] 24))) b (some (.cells (cellsT t) 27))) c (some (.cells [.int .i64 lv, .str ty.name, .list 2 (encTs ty.args) ty.args.length .none] 68))) c = some (.cells [.int .i64 lv, .str ty.name, .list 2 (encTs ty.args) ty.args.length .none] 68) := upd_same _ _ _
  generalize (upd (upd (upd h a (some (AObj.cells [.list 8 (encVs vs) vs.length tk] 24))) b (some (AObj.cells (cellsT t) 27))) c (some (AObj.cells [.int .i64 lv, .str ty.name, .list 2 (encTs ty.args) ty.args.length .none] 68))) = H at *
  cases c1 : fewSF vs [t]
  · try dsimp only
    repeat first | ((with_reducible first | refine sS ?_ | refine sC ?_); intro bC bR bU hC hR hU; simp only [go_sem, ↓reduceIte, sa, sb, sc, c1]; subst hC hR hU) | (with_reducible refine rN ?_; subst hbq) | (with_reducible refine iR ?_; refine rG (by simp only [compL, gtOf, nthDst]; exact rfl) ?_) | (with_reducible refine r1 ?_; clear hbq bq) | (with_reducible refine iL ?_; refine rL (by rw [Tryz.results8]) fin ?_; simp only [go_sem, ↓reduceIte, aPack, Option.some.injEq, exists_eq_left', sa, sb, sc, c1]) | with_reducible first | refine nS ?_ | refine rS fun bq hbq => ?_ | refine rR ?_
    exact hq
  have hvs : vs.length ≤ 999999 := by
    unfold fewSF at c1
    rw [Bool.and_eq_true, Bool.not_eq_true', decide_eq_false_iff_not] at c1
    omega
  try dsimp only
  repeat (((with_reducible refine sS ?_); intro bC bR bU hC hR hU; simp only [go_sem, ↓reduceIte, sa, sb, sc, c1]; subst hC hR hU))
  refine fewer_am ty _ _ ?_
  cases c2 : decide (typesF ty 60 ≤ 60)
  · try dsimp only
    repeat first | ((with_reducible first | refine sS ?_ | refine sC ?_); intro bC bR bU hC hR hU; simp only [go_sem, ↓reduceIte, sa, sb, sc, c1, c2]; subst hC hR hU) | (with_reducible refine rN ?_; subst hbq) | (with_reducible refine iR ?_; refine rG (by simp only [compL, gtOf, nthDst]; exact rfl) ?_) | (with_reducible refine r1 ?_; clear hbq bq) | (with_reducible refine iL ?_; refine rL (by rw [Tryz.results8]) fin ?_; simp only [go_sem, ↓reduceIte, aPack, Option.some.injEq, exists_eq_left', sa, sb, sc, c1, c2]) | with_reducible first | refine nS ?_ | refine rS fun bq hbq => ?_ | refine rR ?_
    exact hq
  try dsimp only
  repeat first | ((with_reducible first | refine sS ?_ | refine sC ?_); intro bC bR bU hC hR hU; simp only [go_sem, ↓reduceIte, sa, sb, sc, c1, c2]; subst hC hR hU) | (with_reducible refine rN ?_; subst hbq) | (with_reducible refine iR ?_; refine rG (by simp only [compL, gtOf, nthDst]; exact rfl) ?_) | with_reducible first | refine nS ?_ | refine rS fun bq hbq => ?_ | refine rK ?_
  refine args_am ty _ _ ?_
  rw [argsV_eq]
  try dsimp only
  repeat first | ((with_reducible refine sS ?_); intro bC bR bU hC hR hU; simp only [go_sem, ↓reduceIte, sa, sb, sc]; subst hC hR hU) | (with_reducible refine rN ?_; subst hbq) | (with_reducible refine iR ?_; refine rG (by simp only [compL, gtOf, nthDst]; exact rfl) ?_) | with_reducible first | refine nS ?_ | refine rS fun bq hbq => ?_
  refine refArgs_am ty _ _ ?_
  rw [argsV_eq]
  try dsimp only
  repeat first | ((with_reducible refine sS ?_); intro bC bR bU hC hR hU; simp only [go_sem, ↓reduceIte, sa, sb, sc]; subst hC hR hU) | (with_reducible refine rN ?_; subst hbq) | (with_reducible refine iR ?_; refine rG (by simp only [compL, gtOf, nthDst]; exact rfl) ?_) | with_reducible first | refine nS ?_ | refine rS fun bq hbq => ?_
  refine fresh_am vs (by omega) tk lv ty _ _ ?_
  try dsimp only
  repeat (((with_reducible refine sS ?_); intro bC bR bU hC hR hU; simp only [go_sem, ↓reduceIte, sa, sb, sc]; subst hC hR hU))
  intro p hp
  have pa := ne_of_new hp sa
  have pb := ne_of_new hp sb
  have pc := ne_of_new hp sc
  try dsimp only
  repeat first | ((with_reducible refine sS ?_); intro bC bR bU hC hR hU; simp only [go_sem, ↓reduceIte, sa, sb, sc, pa, pb, pc]; subst hC hR hU) | (with_reducible refine rN ?_; subst hbq) | (with_reducible refine iR ?_; refine rG (by simp only [compL, gtOf, nthDst]; exact rfl) ?_) | with_reducible first | refine nS ?_ | refine rS fun bq hbq => ?_
  refine refFresh_am vs (by omega) tk lv ty _ _ ?_
  have sp : (upd H p (some (AObj.cells [.list 8 (encVs (freshVs vs lv ty)) (freshVs vs lv ty).length .none] 24))) p = some (.cells [.list 8 (encVs (freshVs vs lv ty)) (freshVs vs lv ty).length .none] 24) := upd_same _ _ _
  have hlp : HLess (upd H p (some (AObj.cells [.list 8 (encVs (freshVs vs lv ty)) (freshVs vs lv ty).length .none] 24))) H := HLess.one hp
  have sa := hlp _ _ sa
  have sb := hlp _ _ sb
  have sc := hlp _ _ sc
  have fin := hlp.trans fin
  generalize (upd H p (some (AObj.cells [.list 8 (encVs (freshVs vs lv ty)) (freshVs vs lv ty).length .none] 24))) = H2 at *
  try dsimp only
  repeat (((with_reducible refine sS ?_); intro bC bR bU hC hR hU; simp only [go_sem, ↓reduceIte, sa, sb, sc, sp]; subst hC hR hU))
  intro q hq3
  have qa := ne_of_new hq3 sa
  have qb := ne_of_new hq3 sb
  have qc := ne_of_new hq3 sc
  have qp := ne_of_new hq3 sp
  try dsimp only
  repeat first | ((with_reducible refine sS ?_); intro bC bR bU hC hR hU; simp only [go_sem, ↓reduceIte, sa, sb, sc, sp, qa, qb, qc, qp]; subst hC hR hU) | (with_reducible refine rN ?_; subst hbq) | with_reducible first | refine nS ?_ | refine rS fun bq hbq => ?_
  have sq : (upd H2 q (some (AObj.cells [.list 8 (encVs (freshVs vs lv ty)) (freshVs vs lv ty).length .none] 24))) q = some (.cells [.list 8 (encVs (freshVs vs lv ty)) (freshVs vs lv ty).length .none] 24) := upd_same _ _ _
  have hlq : HLess (upd H2 q (some (AObj.cells [.list 8 (encVs (freshVs vs lv ty)) (freshVs vs lv ty).length .none] 24))) H2 := HLess.one hq3
  have sa := hlq _ _ sa
  have sb := hlq _ _ sb
  have sp := hlq _ _ sp
  have fin := hlq.trans fin
  generalize (upd H2 q (some (AObj.cells [.list 8 (encVs (freshVs vs lv ty)) (freshVs vs lv ty).length .none] 24))) = H3 at *
  repeat with_reducible refine run_seq fun bq hbq => ?_
  refine run_draw (.take 0 (.take 1 (.take 2 (.take 4 (.one 3 [4] (.one 5 [] (.take 6 (.take 7 (.take 8 (.take 9 (.take 10 (.take 12 (.take 13 (.one 11 [13, 12] (.one 14 [] (.take 15 (.take 16 (.take 17 (.take 18 (.take 19 (.take 20 (.take 21 (.take 22 (.take 23 (.take 24 (.one 25 [] (.take 26 (.take 27 (.take 28 (.take 29 (.take 30 (.take 31 (.take 32 (.take 33 (.take 34 (.take 35 (.take 36 (.take 37 (.take 38 (.take 39 (.one 40 [] (.take 41 (.take 42 (.done)))))))))))))))))))))))))))))))))))))))))))) (by kernel_rfl) (by simp only [compL, gtOf, nthDst]; exact rfl) ?_
  try dsimp only
  repeat (((first | (with_reducible refine iT ?_; refine sT rfl ?_) | (with_reducible refine iO ?_; refine sO rfl ?_)); intro bC bR bU hC hR hU; simp only [go_sem, ↓reduceIte, sa, sb, sp, sq]; subst hC hR hU))
  refine check_am vs (by omega) tk _ _ ?_
  try dsimp only
  repeat (((first | (with_reducible refine sA ?_) | (with_reducible refine i0 ?_; refine s0 rfl ?_)); intro bC bR bU hC hR hU; simp only [go_sem, ↓reduceIte, sa, sb, sp, sq]; subst hC hR hU))
  refine refCheck_am vs (by omega) tk _ _ ?_
  have b1 : (checkF vs == checkF vs) = true := beq_self_eq_true _
  try dsimp only
  repeat (((first | (with_reducible refine iT ?_; refine sT rfl ?_) | (with_reducible refine iO ?_; refine sO rfl ?_)); intro bC bR bU hC hR hU; simp only [go_sem, ↓reduceIte, sa, sb, sp, sq, b1]; subst hC hR hU))
  refine fitsS_am vs (by omega) tk t _ _ ?_
  try dsimp only
  repeat (((first | (with_reducible refine sA ?_) | (with_reducible refine i0 ?_; refine s0 rfl ?_)); intro bC bR bU hC hR hU; simp only [go_sem, ↓reduceIte, sa, sb, sp, sq, b1]; subst hC hR hU))
  refine refFitsS_am vs (by omega) tk t _ _ ?_
  generalize (if (checkF vs == 0) = true then fitErrS vs t else checkF vs) = X
  have b2 : (X == X) = true := beq_self_eq_true _
  have b3 : ((argsF ty).isSome == (argsF ty).isSome) = true := beq_self_eq_true _
  try dsimp only
  repeat (((first | (with_reducible refine iT ?_; refine sT rfl ?_) | (with_reducible refine i0 ?_; refine s0 rfl ?_)); intro bC bR bU hC hR hU; simp only [go_sem, ↓reduceIte, sa, sb, sp, sq, b1, b2, b3]; subst hC hR hU))
  refine sameStrings_am ((argsF ty).getD []) _ _ (by have := args_len ty; unfold arityF at this; omega) ?_
  have b4 : (freshErr vs lv ty == freshErr vs lv ty) = true := beq_self_eq_true _
  have b5 : (freshN vs lv ty == freshN vs lv ty) = true := beq_self_eq_true _
  try dsimp only
  repeat (((first | (with_reducible refine iT ?_; refine sT rfl ?_) | (with_reducible refine i0 ?_; refine s0 rfl ?_)); intro bC bR bU hC hR hU; simp only [go_sem, ↓reduceIte, sa, sb, sp, sq, b1, b2, b3, b4, b5]; subst hC hR hU))
  refine sameStore_am (freshVs vs lv ty) ?_ ?_ .none .none _ _ ?_
  · unfold freshVs
    split
    · rw [List.length_append]; simp; omega
    · simp
  · exact fresh_sizes vs lv ty
  · try dsimp only
    repeat first | ((with_reducible refine iT ?_; refine sT rfl ?_); intro bC bR bU hC hR hU; simp only [go_sem, ↓reduceIte, sa, sb, sp, sq, b1, b2, b3, b4, b5]; subst hC hR hU) | (with_reducible refine rN ?_; subst hbq) | (with_reducible refine iL ?_; refine rL (by rw [Tryz.results8]) fin ?_; simp only [go_sem, ↓reduceIte, aPack, Option.some.injEq, exists_eq_left', sa, sb, sp, sq, b1, b2, b3, b4, b5]) | with_reducible first | refine nD ?_ | refine rR ?_
    exact hq
end Go.Proofs.YthkjmiejaoomcaaGreat.Am
