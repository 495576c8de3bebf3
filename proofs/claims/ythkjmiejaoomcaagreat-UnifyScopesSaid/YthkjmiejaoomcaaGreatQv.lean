/- Part of the proof of a law of layer 5: own texts, joined. -/
import Derived.Test.YthkjmiejaoomcaaGreatQu
set_option linter.unusedVariables false
set_option linter.unusedSimpArgs false
set_option linter.unnecessarySimpa false
namespace Go.Proofs.YthkjmiejaoomcaaGreat.Am
open Go Go.RowKit Go.Proofs
set_option linter.unusedVariables false
set_option linter.unusedSimpArgs false
set_option maxRecDepth 100000
set_option maxHeartbeats 1000000
attribute [local go_sem] cSeq cDr cOne cStays nthCO panK aKind gWanted panC cPanic cOp needsName cStep aop aEval argEnv List.getD_cons_zero List.getD_cons_succ AV.known AV.cells if_true if_false cond_true cond_false aPut true_and and_true ofConst ofLeaf true_imp false_imp true_imp' false_imp' btt btf
 aFieldAt aAssert aLoad aPick aBin aInt aShift aStr unSl aLen aBuiltin Option.map_some Option.map_none upd_same eupd_at Nat.reduceBEq List.drop_zero List.drop_succ_cons List.drop_nil List.take_succ_cons List.take_zero List.head?_cons List.length_cons List.length_nil Nat.reduceAdd Nat.reduceLeDiff Nat.reduceEqDiff List.map_cons List.map_nil Nat.zero_add Nat.add_zero reduceCtorEq Bool.false_eq_true
 aResL aRes1 true_implies false_implies implies_true forall_const and_self Bool.not_true Bool.not_false Bool.cond_self upd_if aExtract aNil aIface aMax aMin aNot List.getElem?_cons_zero List.getElem?_cons_succ aIndexAt aStore aSplice AV.flat List.all_cons List.all_nil Bool.and_true Bool.true_and Bool.and_false Bool.false_and Int.natCast_nonneg Int.ofNat_lt Int.toNat_natCast cCall Nat.le_add_left List.append_nil List.contains_cons List.contains_nil Bool.or_true Bool.or_false Bool.true_or Bool.false_or Nat.reduceBEq List.cons_append List.nil_append
 sz_1 by_1 ag_1 tk_1 ze_1 sz_3 by_3 ag_3 tk_3 ze_3 sz_4 by_4 ag_4 tk_4 ze_4 sz_9 by_9 ag_9 tk_9 ze_9
 sz_20 by_20 ag_20 tk_20 ze_20 sz_22 by_22 ag_22 tk_22 el_22 ze_22 sz_24 by_24 ag_24 tk_24 ze_24 fi_24_0 pl_24 sz_25 by_25
 ag_25 tk_25 el_25 ze_25 sz_27 by_27 ag_27 tk_27 ze_27 fi_27_0 fi_27_1 fi_27_2 fi_27_3 pl_27 sz_30 by_30 ag_30 tk_30 ze_30 sz_34
 by_34 ag_34 tk_34 ze_34 fi_34_0 fi_34_1 fi_34_2 fi_34_3 pl_34 sz_40 by_40 ag_40 tk_40 el_40 ze_40 sz_42 by_42 ag_42 tk_42 ze_42
 fi_42_0 fi_42_1 fi_42_2 pl_42 sz_52 by_52 ag_52 tk_52 ze_52 fi_52_0 fi_52_1 fi_52_2 fi_52_3 pl_52 sz_60 by_60 ag_60 tk_60 ze_60 fi_60_0
 fi_60_1 pl_60 sz_62 by_62 ag_62 tk_62 ze_62 fi_62_0 fi_62_1 fi_62_2 fi_62_3 pl_62 sz_68 by_68 ag_68 tk_68 ze_68 fi_68_0 fi_68_1 pl_68
 sz_70 by_70 ag_70 tk_70 el_70 ze_70 sz_77 by_77 ag_77 tk_77 el_77 ze_77 sz_80 by_80 ag_80 tk_80 ze_80 sz_83 by_83 ag_83
 tk_83 ze_83 fi_83_0 fi_83_1 pl_83 sz_95 by_95 ag_95 tk_95 ze_95 sz_97 by_97 ag_97 tk_97 ze_97 sz_99 by_99 ag_99 tk_99 mp_99
 ze_99 sz_101 by_101 ag_101 tk_101 ze_101 fi_101_0 fi_101_1 fi_101_2 pl_101 sz_104 by_104 ag_104 tk_104 ze_104 sz_106 by_106 ag_106 tk_106 ze_106
 fi_106_0 fi_106_1 fi_106_2 pl_106 sz_108 by_108 ag_108 tk_108 ze_108 sz_109 by_109 ag_109 tk_109 ze_109 sz_110 by_110 ag_110 tk_110 el_110 ze_110
 sz_112 by_112 ag_112 tk_112 ze_112 fi_112_0 fi_112_1 fi_112_2 fi_112_3 pl_112 sz_115 by_115 ag_115 tk_115 ze_115 fi_115_0 fi_115_1 pl_115 sz_121 by_121
 ag_121 tk_121 ze_121 sz_125 by_125 ag_125 tk_125 ze_125 sz_126 by_126 ag_126 tk_126 mp_126 ze_126 sz_128 by_128 ag_128 tk_128 ze_128 fi_128_0
 fi_128_1 fi_128_2 fi_128_3 pl_128 sz_136 by_136 ag_136 tk_136 el_136 ze_136 sz_140 by_140 ag_140 tk_140 mp_140 ze_140 sz_142 by_142 ag_142 tk_142
 ze_142 fi_142_0 fi_142_1 pl_142 sz_144 by_144 ag_144 tk_144 ze_144 sz_145 by_145 ag_145 tk_145 el_145 ze_145 sz_147 by_147 ag_147 tk_147 ze_147
 fi_147_0 fi_147_1 fi_147_2 fi_147_3 pl_147 sz_150 by_150 ag_150 tk_150 ze_150 pl_150 sz_152 by_152 ag_152 tk_152 ze_152 fi_152_0 pl_152 sz_156 by_156
 ag_156 tk_156 ze_156 sz_158 by_158 ag_158 tk_158 ze_158 fi_158_0 fi_158_1 fi_158_2 pl_158 sz_160 by_160 ag_160 tk_160 mp_160 ze_160 sz_162 by_162
 ag_162 tk_162 ze_162 sz_164 by_164 ag_164 tk_164 ze_164 fi_164_0 fi_164_1 fi_164_2 pl_164 sz_167 by_167 ag_167 tk_167 ze_167 fi_167_0 fi_167_1 pl_167
 sz_173 by_173 ag_173 tk_173 el_173 ze_173 sz_189 by_189 ag_189 tk_189 ze_189 sz_198 by_198 ag_198 tk_198 ze_198
 cStays_nil bne decide_true decide_false Nat.mul_one upd_twice beq_self_eq_true Int.reduceBEq Int.reduceLT Int.reduceLE
theorem tooLarge_am (e : Int) (h : AHeap) (Q : AOut → AHeap → Prop) (hq : Q (.ret (.bool (e == 2 || e == 5))) h) : AmCalls Tryz.prog 24 [.int .i64 e] h Q := by
 refine AmCalls.of_sem (fn := Tryz.f24) Tryz.func24 rfl (by kernel_rfl) (by rw [Tryz.ntmps24]; simp) (enters_of Tryz.func24 (by kernel_rfl) (by kernel_rfl)) ?_
 cases e2 : (e == 2)
 ·cases e5 : (e == 5)
  ·rw [e2, e5] at hq
   repeat first | ((with_reducible refine sS ?_); intro _ _ _ C_ R_ U_; simp only [go_sem, ↓reduceIte, e2, e5]; subst C_ R_ U_) | (with_reducible refine rN ?_; subst hbq) | (with_reducible refine iR ?_; refine rG2 ?_) | (with_reducible refine iL ?_; refine rL (by rw [Tryz.results24]) (HLess.refl _) ?_; simp only [go_sem, ↓reduceIte, aPack, Option.some.injEq, exists_eq_left', e2, e5]) | with_reducible first | refine nS ?_ | refine rS fun bq hbq => ?_ | refine rR ?_
   exact hq
  ·rw [e2, e5] at hq
   repeat first | ((with_reducible refine sS ?_); intro _ _ _ C_ R_ U_; simp only [go_sem, ↓reduceIte, e2, e5]; subst C_ R_ U_) | (with_reducible refine rN ?_; subst hbq) | (with_reducible refine iR ?_; refine rG2 ?_) | (with_reducible refine iL ?_; refine rL (by rw [Tryz.results24]) (HLess.refl _) ?_; simp only [go_sem, ↓reduceIte, aPack, Option.some.injEq, exists_eq_left', e2, e5]) | with_reducible first | refine nS ?_ | refine rS fun bq hbq => ?_ | refine rR ?_
   exact hq
 ·rw [e2] at hq
  repeat first | ((with_reducible refine sS ?_); intro _ _ _ C_ R_ U_; simp only [go_sem, ↓reduceIte, e2]; subst C_ R_ U_) | (with_reducible refine rN ?_; subst hbq) | (with_reducible refine iR ?_; refine rG2 ?_) | (with_reducible refine iL ?_; refine rL (by rw [Tryz.results24]) (HLess.refl _) ?_; simp only [go_sem, ↓reduceIte, aPack, Option.some.injEq, exists_eq_left', e2]) | with_reducible first | refine nS ?_ | refine rS fun bq hbq => ?_ | refine rR ?_
  exact hq
theorem scopes_am (vs : List Va) (tk : Tok) (t u : Term) (h : AHeap) (Q : AOut → AHeap → Prop) (hq : Q (.ret (.bool true)) h) :
  AmCalls Tryz.prog 6 [.agg [.list 8 (encVs vs) vs.length tk], enc t, enc u] h Q := by
 refine AmCalls.of_sem (fn := Tryz.f6) Tryz.func6 rfl (by kernel_rfl) (by rw [Tryz.ntmps6]; simp) (enters_of Tryz.func6 (by kernel_rfl) (by kernel_rfl)) ?_
 repeat first | ((with_reducible refine sS ?_); intro _ _ _ C_ R_ U_; simp only [go_sem, ↓reduceIte]; subst C_ R_ U_) | (with_reducible refine iR ?_; refine rG2 ?_) | with_reducible refine rS fun bq hbq => ?_
 intro a ha
 repeat (((with_reducible refine sS ?_); intro _ _ _ C_ R_ U_; simp only [go_sem, ↓reduceIte]; subst C_ R_ U_))
 intro b hb
 have e1 := fresh_if hb
 repeat (((with_reducible refine sS ?_); intro _ _ _ C_ R_ U_; simp only [go_sem, ↓reduceIte]; subst C_ R_ U_))
 intro c hc
 have e2 := fresh_if hc
 have e3 := fresh_if e2.2
 have fin : HLess (upd (upd (upd h a (some (.cells [.list 8 (encVs vs) vs.length tk] 24))) b (some (.cells (cellsT t) 27))) c (some (.cells (cellsT u) 27))) h := ((HLess.refl h).new ha |>.new e1.2 |>.new e3.2)
 repeat first | ((with_reducible refine sS ?_); intro _ _ _ C_ R_ U_; simp only [go_sem, ↓reduceIte, e1.1, e1.1.symm, e2.1, e2.1.symm, e3.1, e3.1.symm]; subst C_ R_ U_) | (with_reducible refine rN ?_; subst hbq) | (with_reducible refine iR ?_; refine rG2 ?_) | with_reducible first | refine nS ?_ | refine rS fun bq hbq => ?_
 refine saneS_am _ _ ?_
 have sa : (upd (upd (upd h a (some (AObj.cells [.list 8 (encVs vs) vs.length tk] 24))) b (some (.cells (cellsT t) 27))) c (some (.cells (cellsT u) 27))) a = some (.cells [.list 8 (encVs vs) vs.length tk] 24) := by rw [upd_other _ _ e3.1.symm, upd_other _ _ e1.1.symm, upd_same]
 have sb : (upd (upd (upd h a (some (AObj.cells [.list 8 (encVs vs) vs.length tk] 24))) b (some (.cells (cellsT t) 27))) c (some (.cells (cellsT u) 27))) b = some (.cells (cellsT t) 27) := by rw [upd_other _ _ e2.1.symm, upd_same]
 have sc : (upd (upd (upd h a (some (AObj.cells [.list 8 (encVs vs) vs.length tk] 24))) b (some (.cells (cellsT t) 27))) c (some (.cells (cellsT u) 27))) c = some (.cells (cellsT u) 27) := upd_same _ _ _
 generalize (upd (upd (upd h a (some (AObj.cells [.list 8 (encVs vs) vs.length tk] 24))) b (some (AObj.cells (cellsT t) 27))) c (some (AObj.cells (cellsT u) 27))) = H at *
 try dsimp only
 repeat first | ((with_reducible refine sS ?_); intro _ _ _ C_ R_ U_; simp only [go_sem, ↓reduceIte, sa, sb, sc, build25_2]; subst C_ R_ U_) | (with_reducible refine rN ?_; subst hbq) | (with_reducible refine iR ?_; refine rG2 ?_) | with_reducible first | refine nS ?_ | refine rS fun bq hbq => ?_
 have e25 : encs [t, u] = cellsT t ++ cellsT u := by rw [encs_eq]; simp
 refine AmCalls.args (args' := [.agg [.list 8 (encVs vs) vs.length tk], .list 4 (encs [t, u]) ([t, u] : List Term).length .none]) (.cons (LeAV.refl _) (.cons (by rw [e25]; exact LeAV.list _ _ _ _) .nil)) (fewS_am vs tk [t, u] _ _ (by simp) ?_)
 cases c1 : fewSF vs [t, u]
 ·try dsimp only
  repeat first | ((with_reducible first | refine sS ?_ | refine sC ?_); intro _ _ _ C_ R_ U_; simp only [go_sem, ↓reduceIte, sa, sb, sc, c1]; subst C_ R_ U_) | (with_reducible refine rN ?_; subst hbq) | (with_reducible refine iR ?_; refine rG2 ?_) | (with_reducible refine r1 ?_; clear hbq bq) | (with_reducible refine iL ?_; refine rL (by rw [Tryz.results6]) fin ?_; simp only [go_sem, ↓reduceIte, aPack, Option.some.injEq, exists_eq_left', sa, sb, sc, c1]) | with_reducible first | refine nS ?_ | refine rS fun bq hbq => ?_ | refine rR ?_
  exact hq
 have hvs : vs.length ≤ 12 := by
  unfold fewSF at c1
  rw [Bool.and_eq_true, Bool.not_eq_true', decide_eq_false_iff_not] at c1
  omega
 try dsimp only
 repeat (((with_reducible refine sS ?_); intro _ _ _ C_ R_ U_; simp only [go_sem, ↓reduceIte, sa, sb, sc, c1]; subst C_ R_ U_))
 refine fitsS_am vs (by omega) tk t _ _ ?_
 generalize (if (checkF vs == 0) = true then fitErrS vs t else checkF vs) = E1
 cases f1 : (E1 == 0)
 ·try dsimp only
  repeat first | ((with_reducible first | refine sS ?_ | refine sC ?_); intro _ _ _ C_ R_ U_; simp only [go_sem, ↓reduceIte, sa, sb, sc, f1]; subst C_ R_ U_) | (with_reducible refine rN ?_; subst hbq) | (with_reducible refine iR ?_; refine rG2 ?_) | (with_reducible refine r1 ?_; clear hbq bq) | (with_reducible refine iL ?_; refine rL (by rw [Tryz.results6]) fin ?_; simp only [go_sem, ↓reduceIte, aPack, Option.some.injEq, exists_eq_left', sa, sb, sc, f1]) | with_reducible first | refine nS ?_ | refine rS fun bq hbq => ?_ | refine rR ?_
  exact hq
 try dsimp only
 repeat (((with_reducible refine sS ?_); intro _ _ _ C_ R_ U_; simp only [go_sem, ↓reduceIte, sa, sb, sc, f1]; subst C_ R_ U_))
 refine fitsS_am vs (by omega) tk u _ _ ?_
 generalize (if (checkF vs == 0) = true then fitErrS vs u else checkF vs) = E2
 cases f2 : (E2 == 0)
 ·try dsimp only
  repeat first | ((with_reducible first | refine sS ?_ | refine sC ?_); intro _ _ _ C_ R_ U_; simp only [go_sem, ↓reduceIte, sa, sb, sc, f2]; subst C_ R_ U_) | (with_reducible refine rN ?_; subst hbq) | (with_reducible refine iR ?_; refine rG2 ?_) | (with_reducible refine r1 ?_; clear hbq bq) | (with_reducible refine iL ?_; refine rL (by rw [Tryz.results6]) fin ?_; simp only [go_sem, ↓reduceIte, aPack, Option.some.injEq, exists_eq_left', sa, sb, sc, f2]) | with_reducible first | refine nS ?_ | refine rS fun bq hbq => ?_ | refine rR ?_
  exact hq
 try dsimp only
 repeat first | ((with_reducible first | refine sS ?_ | refine sC ?_); intro _ _ _ C_ R_ U_; simp only [go_sem, ↓reduceIte, sa, sb, sc, f2]; subst C_ R_ U_) | (with_reducible refine rN ?_; subst hbq) | (with_reducible refine iR ?_; refine rG2 ?_) | with_reducible first | refine nS ?_ | refine rS fun bq hbq => ?_ | refine rK ?_
 refine unify_am vs (by omega) tk t u _ _ ?_
 have hsc := @scope_value vs t u
 have hso := @unify_sound vs t u
 generalize unifyF vs t u = R at *
 obtain ⟨ms, is, er⟩ := R
 dsimp only [outU] at hsc hso ⊢
 repeat (((with_reducible refine sS ?_); intro _ _ _ C_ R_ U_; simp only [go_sem, ↓reduceIte, sa, sb, sc]; subst C_ R_ U_))
 intro p hp
 have pa := ne_of_new hp sa
 have pb := ne_of_new hp sb
 have pc := ne_of_new hp sc
 have fin : HLess (upd H p (some (AObj.cells [.list 8 (encVs ms) ms.length .none] 24))) h := fin.new (fin.none hp)
 cases f3 : (er == 0)
 ·repeat first | ((with_reducible first | refine sS ?_ | refine sC ?_); intro _ _ _ C_ R_ U_; simp only [go_sem, ↓reduceIte, sa, sb, sc, pa, pb, pc, f3]; subst C_ R_ U_) | (with_reducible refine rN ?_; subst hbq) | (with_reducible refine iR ?_; refine rG2 ?_) | (with_reducible refine r1 ?_; clear hbq bq) | (with_reducible refine iL ?_; refine rL (by rw [Tryz.results6]) fin ?_; simp only [go_sem, ↓reduceIte, aPack, Option.some.injEq, exists_eq_left', sa, sb, sc, pa, pb, pc, f3]) | with_reducible first | refine nS ?_ | refine rS fun bq hbq => ?_ | refine rR ?_
  exact hq
 obtain rfl : er = 0 := by simpa using f3
 cases is with
 | false =>
  repeat first | ((with_reducible first | refine sS ?_ | refine sC ?_); intro _ _ _ C_ R_ U_; simp only [go_sem, ↓reduceIte, sa, sb, sc, pa, pb, pc, f3]; subst C_ R_ U_) | (with_reducible refine rN ?_; subst hbq) | (with_reducible refine iR ?_; refine rG2 ?_) | (with_reducible refine r1 ?_; clear hbq bq) | (with_reducible refine iL ?_; refine rL (by rw [Tryz.results6]) fin ?_; simp only [go_sem, ↓reduceIte, aPack, Option.some.injEq, exists_eq_left', sa, sb, sc, pa, pb, pc, f3]) | with_reducible first | refine nS ?_ | refine rS fun bq hbq => ?_ | refine rR ?_
  exact hq
 | true =>
 obtain ⟨hck, hE⟩ := hso rfl rfl
 have hck2 : (checkF ms == 0) = true := by rw [hck]; rfl
 have hlen : ms.length ≤ 2000 := (inv_check hck).len
 have sa : (upd H p (some (AObj.cells [.list 8 (encVs ms) ms.length .none] 24))) a = some (.cells [.list 8 (encVs vs) vs.length tk] 24) := by rw [upd_other _ _ (by first | exact pa | exact pa.symm)]; exact sa
 have sp : (upd H p (some (AObj.cells [.list 8 (encVs ms) ms.length .none] 24))) p = some (.cells [.list 8 (encVs ms) ms.length .none] 24) := upd_same _ _ _
 repeat first | ((with_reducible first | refine sS ?_ | refine sC ?_); intro _ _ _ C_ R_ U_; simp only [go_sem, ↓reduceIte, pa, pb, pc, f3]; subst C_ R_ U_) | (with_reducible refine rN ?_; subst hbq) | (with_reducible refine iR ?_; refine rG2 ?_) | with_reducible first | refine nS ?_ | refine rS fun bq hbq => ?_ | refine rK ?_
 generalize (upd H p (some (AObj.cells [.list 8 (encVs ms) ms.length .none] 24))) = H2 at *
 refine check_am ms (by omega) .none _ _ ?_
 try dsimp only
 repeat first | ((with_reducible first | refine sS ?_ | refine sC ?_); intro _ _ _ C_ R_ U_; simp only [go_sem, ↓reduceIte, pa, pb, pc, f3, hck2]; subst C_ R_ U_) | (with_reducible refine rN ?_; subst hbq) | (with_reducible refine iR ?_; refine rG2 ?_) | (with_reducible refine rB fun cq hcq => ?_; subst hcq) | with_reducible first | refine nS ?_ | refine rS fun bq hbq => ?_ | refine rK ?_
 refine run_loop (fun k τ h' => ∃ i : Nat, k + i = vs.length ∧ τ 3 = .ptr a 0 ∧ τ 7 = .bool true ∧ τ 8 = .ptr p 0 ∧ τ 11 = .int .i64 i ∧ HLess h' H2) vs.length ?_ ?_
 ·refine ⟨0, rfl, ?_⟩
  simp only [go_sem, ↓reduceIte]
  exact ⟨rfl, HLess.refl _⟩
 ·intro cc hcc k τ h' hI
  obtain ⟨i, hk, f_3, f_7, f_8, f_11, hl⟩ := hI
  subst hcc
  have sa := hl _ _ sa
  have sp := hl _ _ sp
  have fin := hl.trans fin
  by_cases hi : i < vs.length
  ·repeat first | ((with_reducible first | refine sS ?_ | refine sC ?_); intro _ _ _ C_ R_ U_; simp only [go_sem, ↓reduceIte, f_3, f_7, f_8, f_11, hi, sa, sp]; subst C_ R_ U_) | (with_reducible refine rN ?_; subst hbq) | (with_reducible refine iR ?_; refine rG2 ?_) | (with_reducible refine rB fun cq hcq => ?_; subst hcq) | with_reducible first | refine nS ?_ | refine rS fun bq hbq => ?_ | refine rK ?_
   repeat with_reducible refine run_seq fun bq hbq => ?_
   refine run_lateC (.take 0 (.take 1 (.take 2 (.one 3 [0] (.one 4 [] (.take 5 (.take 6 (.take 7 (.one 8 [] (.one 9 [] (.take 10 (.done)))))))))))) [0, 1, 2, 3, 4, 5, 6, 7, 8, 9, 10] (by kernel_rfl) (by kernel_rfl) (by simp only [compL, gtOf, nthDst]; exact rfl) ?_
   repeat (((first | (with_reducible refine iT ?_; refine sT rfl ?_) | (with_reducible refine iO ?_; refine sO rfl ?_)); intro _ _ _ C_ R_ U_; simp only [go_sem, ↓reduceIte, f_3, f_7, f_8, f_11, hi, sa, sp]; subst C_ R_ U_))
   refine itself_am vs (by omega) tk i (by omega) (by omega) _ _ ?_
   try dsimp only
   repeat (((first | (with_reducible refine sA ?_) | (with_reducible refine i0 ?_; refine s0 rfl ?_)); intro _ _ _ C_ R_ U_; simp only [go_sem, ↓reduceIte, f_3, f_7, f_8, f_11, hi, sa, sp]; subst C_ R_ U_))
   obtain ⟨o, er, hv⟩ := value_pair ms (itselfF vs i)
   refine value27_am ms (by omega) .none hv _ _ ?_
   have hsv := hsc rfl rfl (show (0 : Int) ≤ (i : Int) by omega) (show (i : Int) < (vs.length : Int) by omega) hv
   try dsimp only
   repeat (((first | (with_reducible refine iT ?_; refine sT rfl ?_) | (with_reducible refine i0 ?_; refine s0 rfl ?_)); intro _ _ _ C_ R_ U_; simp only [go_sem, ↓reduceIte, f_3, f_7, f_8, f_11, hi, sa, sp]; subst C_ R_ U_))
   intro p2 hp2
   have pa := ne_of_new hp2 sa
   have pp := ne_of_new hp2 sp
   have fin2 : HLess (upd h' p2 (some (.cells (cellsT o) 27))) h := fin.new (fin.none hp2)
   have hl2 : HLess (upd h' p2 (some (.cells (cellsT o) 27))) H2 := hl.new (hl.none hp2)
   have sp2 : (upd h' p2 (some (AObj.cells (cellsT o) 27))) p2 = some (.cells (cellsT o) 27) := upd_same _ _ _
   have sa2 : (upd h' p2 (some (AObj.cells (cellsT o) 27))) a = some (.cells [.list 8 (encVs vs) vs.length tk] 24) := by rw [upd_other _ _ pa]; exact sa
   rcases hsv with he | ⟨rfl, hun⟩
   ·have z : (er == 0) = false := by rcases he with rfl | rfl <;> rfl
    have y : (er == 2 || er == 5) = true := by rcases he with rfl | rfl <;> rfl
    repeat first | ((first | (with_reducible first | refine sS ?_ | refine sC ?_) | (with_reducible refine iT ?_; refine sT rfl ?_) | (with_reducible refine i0 ?_; refine s0 rfl ?_)); intro _ _ _ C_ R_ U_; simp only [go_sem, ↓reduceIte, f_3, f_7, f_8, f_11, pa, pp, z]; subst C_ R_ U_) | (with_reducible refine rN ?_; subst hbq) | (with_reducible refine iR ?_; refine rG2 ?_) | with_reducible first | refine nS ?_ | refine nD ?_ | refine rS fun bq hbq => ?_
    refine tooLarge_am er _ _ ?_
    rw [y]
    try dsimp only
    repeat first | ((with_reducible refine sS ?_); intro _ _ _ C_ R_ U_; simp only [go_sem, ↓reduceIte, f_3, f_7, f_8, f_11, pa, pp, z]; subst C_ R_ U_) | (with_reducible refine rN ?_; subst hbq) | (with_reducible refine r1 ?_; clear hbq bq) | (with_reducible refine iL ?_; refine rL (by rw [Tryz.results6]) fin2 ?_; simp only [go_sem, ↓reduceIte, aPack, Option.some.injEq, exists_eq_left', f_3, f_7, f_8, f_11, pa, pp, z]) | with_reducible first | refine nS ?_ | refine rR ?_ | refine r3 ?_ | refine r4 ?_
    exact hq
   ·obtain ⟨w, hw⟩ : ∃ w, vs[i]? = some w := ⟨_, List.getElem?_eq_getElem hi⟩
    have hwv : valAt vs i = w := by
     unfold valAt
     rw [Int.toNat_natCast, List.getD_eq_getElem?_getD, hw]; rfl
    obtain ⟨r, hr⟩ := encVs_at vs i hw
    have z : ((0 : Int) == 0) = true := rfl
    repeat first | ((first | (with_reducible first | refine sS ?_ | refine sC ?_) | (with_reducible refine iT ?_; refine sT rfl ?_) | (with_reducible refine i0 ?_; refine s0 rfl ?_)); intro _ _ _ C_ R_ U_; simp only [go_sem, ↓reduceIte, f_3, f_7, f_8, f_11, pa, pp, z, hi, sa]; subst C_ R_ U_) | (with_reducible refine rN ?_; subst hbq) | (with_reducible refine iR ?_; refine rG2 ?_) | with_reducible first | refine nS ?_ | refine nD ?_ | refine rS fun bq hbq => ?_ | refine rK ?_
    repeat with_reducible refine run_seq fun bq hbq => ?_
    refine run_lateC (.take 0 (.take 1 (.take 2 (.take 3 (.take 4 (.take 5 (.take 6 (.one 7 [2] (.take 8 (.done)))))))))) [0, 1, 2, 3, 4, 5, 6, 7, 8] (by kernel_rfl) (by kernel_rfl) (by simp only [compL, gtOf, nthDst]; exact rfl) ?_
    repeat (((first | (with_reducible refine iT ?_; refine sT rfl ?_) | (with_reducible refine iO ?_; refine sO rfl ?_)); intro _ _ _ C_ R_ U_; simp only [go_sem, ↓reduceIte, f_3, f_7, f_8, f_11, pa, pp, z, hi, sa, hr]; subst C_ R_ U_))
    have hos := (pair_again hv).1
    refine under_am w.level o.size o _ _ (Nat.le_refl _) (by omega) ?_
    rw [← hwv, hun]
    try dsimp only
    repeat first | ((first | (with_reducible first | refine sS ?_ | refine sA ?_ | refine sC ?_) | (with_reducible refine iT ?_; refine sT rfl ?_)); intro _ _ _ C_ R_ U_; simp only [go_sem, ↓reduceIte, f_3, f_7, f_8, f_11, pa, pp, z, hi, sa, sa2, wrapI ((i : Int) + 1) (by omega)]; subst C_ R_ U_) | (with_reducible refine rN ?_; subst hbq) | (with_reducible refine iR ?_; refine rG2 ?_) | with_reducible first | refine nS ?_ | refine nD ?_ | refine rK ?_ | refine rE ?_
    refine run_loopN (m := k - 1) (by omega) ⟨i + 1, by omega, ?_⟩
    simp only [go_sem, ↓reduceIte, f_3, f_7, f_8]
    exact ⟨rfl, hl2⟩
  ·repeat first | ((with_reducible first | refine sS ?_ | refine sC ?_); intro _ _ _ C_ R_ U_; simp only [go_sem, ↓reduceIte, f_3, f_7, f_8, f_11, hi, sa, sp]; subst C_ R_ U_) | (with_reducible refine rN ?_; subst hbq) | (with_reducible refine iR ?_; refine rG2 ?_) | (with_reducible refine x1 ?_; clear hbq bq) | (with_reducible refine iL ?_; refine rL (by rw [Tryz.results6]) fin ?_; simp only [go_sem, ↓reduceIte, aPack, Option.some.injEq, exists_eq_left', f_3, f_7, f_8, f_11, hi, sa, sp]) | with_reducible first | refine nS ?_ | refine rS fun bq hbq => ?_ | refine rXx ?_ | refine rR ?_ | refine x3 ?_ | refine x4 ?_
   exact hq
end Go.Proofs.YthkjmiejaoomcaaGreat.Am
