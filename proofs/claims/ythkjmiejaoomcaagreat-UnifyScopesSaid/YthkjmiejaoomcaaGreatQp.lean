/- Part of the proof of a law of layer 5: own texts, joined. -/
import Derived.Test.YthkjmiejaoomcaaGreatQo
import Derived.Test.YthkjmiejaoomcaaGreatQi
import Derived.Test.YthkjmiejaoomcaaGreatQg
import Derived.Test.YthkjmiejaoomcaaGreatQk
import Derived.Test.YthkjmiejaoomcaaGreatQn
import Derived.Test.YthkjmiejaoomcaaGreatQb
set_option linter.unusedVariables false
set_option linter.unusedSimpArgs false
set_option linter.unnecessarySimpa false
namespace Go.Proofs.YthkjmiejaoomcaaGreat.Am
open Go Go.RowKit Go.Proofs
set_option linter.unusedVariables false
set_option linter.unusedSimpArgs false
set_option maxRecDepth 100000
set_option maxHeartbeats 1000000
attribute [local go_sem] cSeq cDr cOne cStays nthCO panK aKind gWanted panC cPanic cOp needsName cStep aop aEval argEnv List.getD_cons_zero List.getD_cons_succ AV.known AV.cells if_true if_false cond_true cond_false aPut true_and and_true ofConst ofLeaf true_imp false_imp true_imp' false_imp' btt btf
 aFieldAt aAssert aLoad aPick aBin aInt aShift aStr unSl aLen aBuiltin Option.map_some Option.map_none upd_same eupd_at Nat.reduceBEq List.drop_zero List.drop_succ_cons List.drop_nil List.take_succ_cons List.take_zero List.head?_cons List.length_cons List.length_nil Nat.reduceAdd Nat.reduceLeDiff Nat.reduceEqDiff List.map_cons List.map_nil Nat.zero_add Nat.add_zero reduceCtorEq Bool.false_eq_true
 aResL aRes1 true_implies false_implies implies_true forall_const and_self Bool.not_true Bool.not_false Bool.cond_self upd_if aExtract aNil aIface aMax aMin aNot List.getElem?_cons_zero List.getElem?_cons_succ aIndexAt aStore aSplice AV.flat List.all_cons List.all_nil Bool.and_true Bool.true_and Bool.and_false Bool.false_and Int.natCast_nonneg Int.ofNat_lt Int.toNat_natCast cCall Nat.le_add_left List.append_nil List.contains_cons List.contains_nil Bool.or_true Bool.or_false Bool.true_or Bool.false_or Nat.reduceBEq List.cons_append List.nil_append
 sz_1 by_1 ag_1 tk_1 ze_1 sz_3 by_3 ag_3 tk_3 ze_3 sz_4 by_4 ag_4 tk_4 ze_4 sz_9 by_9 ag_9 tk_9 ze_9
 sz_20 by_20 ag_20 tk_20 ze_20 sz_22 by_22 ag_22 tk_22 el_22 ze_22 sz_24 by_24 ag_24 tk_24 ze_24 fi_24_0 pl_24 sz_25 by_25
 ag_25 tk_25 el_25 ze_25 sz_27 by_27 ag_27 tk_27 ze_27 fi_27_0 fi_27_1 fi_27_2 fi_27_3 pl_27 sz_30 by_30 ag_30 tk_30 ze_30 sz_34
 by_34 ag_34 tk_34 ze_34 fi_34_0 fi_34_1 fi_34_2 fi_34_3 pl_34 sz_40 by_40 ag_40 tk_40 el_40 ze_40 sz_42 by_42 ag_42 tk_42 ze_42
 fi_42_0 fi_42_1 fi_42_2 pl_42 sz_52 by_52 ag_52 tk_52 ze_52 fi_52_0 fi_52_1 fi_52_2 fi_52_3 pl_52 sz_60 by_60 ag_60 tk_60 ze_60 fi_60_0
 fi_60_1 pl_60 sz_62 by_62 ag_62 tk_62 ze_62 fi_62_0 fi_62_1 fi_62_2 fi_62_3 pl_62 sz_68 by_68 ag_68 tk_68 ze_68 fi_68_0 fi_68_1 pl_68
 sz_70 by_70 ag_70 tk_70 el_70 ze_70 sz_77 by_77 ag_77 tk_77 el_77 ze_77 sz_80 by_80 ag_80 tk_80 ze_80 sz_83 by_83 ag_83
 tk_83 ze_83 fi_83_0 fi_83_1 pl_83 sz_95 by_95 ag_95 tk_95 ze_95 sz_97 by_97 ag_97 tk_97 ze_97 sz_99 by_99 ag_99 tk_99 mp_99
 ze_99 sz_101 by_101 ag_101 tk_101 ze_101 fi_101_0 fi_101_1 fi_101_2 pl_101 sz_104 by_104 ag_104 tk_104 ze_104 sz_106 by_106 ag_106 tk_106 ze_106
 fi_106_0 fi_106_1 fi_106_2 pl_106 sz_108 by_108 ag_108 tk_108 ze_108 sz_109 by_109 ag_109 tk_109 ze_109 sz_110 by_110 ag_110 tk_110 el_110 ze_110
 sz_112 by_112 ag_112 tk_112 ze_112 fi_112_0 fi_112_1 fi_112_2 fi_112_3 pl_112 sz_115 by_115 ag_115 tk_115 ze_115 fi_115_0 fi_115_1 pl_115 sz_121 by_121
 ag_121 tk_121 ze_121 sz_125 by_125 ag_125 tk_125 ze_125 sz_126 by_126 ag_126 tk_126 mp_126 ze_126 sz_128 by_128 ag_128 tk_128 ze_128 fi_128_0
 fi_128_1 fi_128_2 fi_128_3 pl_128 sz_136 by_136 ag_136 tk_136 el_136 ze_136 sz_140 by_140 ag_140 tk_140 mp_140 ze_140 sz_142 by_142 ag_142 tk_142
 ze_142 fi_142_0 fi_142_1 pl_142 sz_144 by_144 ag_144 tk_144 ze_144 sz_145 by_145 ag_145 tk_145 el_145 ze_145 sz_147 by_147 ag_147 tk_147 ze_147
 fi_147_0 fi_147_1 fi_147_2 fi_147_3 pl_147 sz_150 by_150 ag_150 tk_150 ze_150 pl_150 sz_152 by_152 ag_152 tk_152 ze_152 fi_152_0 pl_152 sz_156 by_156
 ag_156 tk_156 ze_156 sz_158 by_158 ag_158 tk_158 ze_158 fi_158_0 fi_158_1 fi_158_2 pl_158 sz_160 by_160 ag_160 tk_160 mp_160 ze_160 sz_162 by_162
 ag_162 tk_162 ze_162 sz_164 by_164 ag_164 tk_164 ze_164 fi_164_0 fi_164_1 fi_164_2 pl_164 sz_167 by_167 ag_167 tk_167 ze_167 fi_167_0 fi_167_1 pl_167
 sz_173 by_173 ag_173 tk_173 el_173 ze_173 sz_189 by_189 ag_189 tk_189 ze_189 sz_198 by_198 ag_198 tk_198 ze_198
 cStays_nil bne decide_true decide_false Nat.mul_one upd_twice beq_self_eq_true Int.reduceBEq Int.reduceLT Int.reduceLE
theorem check_am (vs : List Va) (hvs : vs.length ≤ 1000000) (tk : Tok) (h : AHeap) (Q : AOut → AHeap → Prop) (hq : Q (.ret (.int .i64 (checkF vs))) h) : AmCalls Tryz.prog 26 [.agg [.list 8 (encVs vs) vs.length tk]] h Q := by
 unfold checkF at hq
 refine AmCalls.of_sem (fn := Tryz.f26) Tryz.func26 rfl (by kernel_rfl) (by rw [Tryz.ntmps26]; simp) (enters_of Tryz.func26 (by kernel_rfl) (by kernel_rfl)) ?_
 repeat first | ((with_reducible refine sS ?_); intro _ _ _ C_ R_ U_; simp only [go_sem, ↓reduceIte]; subst C_ R_ U_) | (with_reducible refine iR ?_; refine rG2 ?_) | with_reducible refine rS fun bq hbq => ?_
 intro a ha
 have fin : HLess (upd h a (some (.cells [.list 8 (encVs vs) vs.length tk] 24))) h := HLess.one ha
 have sa : (upd h a (some (AObj.cells [.list 8 (encVs vs) vs.length tk] 24))) a = some (.cells [.list 8 (encVs vs) vs.length tk] 24) := upd_same _ _ _
 cases c1 : decide ((vs.length : Int) > 2000)
 case true =>
  repeat first | ((with_reducible first | refine sS ?_ | refine sC ?_); intro _ _ _ C_ R_ U_; simp only [go_sem, ↓reduceIte, c1]; subst C_ R_ U_) | (with_reducible refine rN ?_; subst hbq) | (with_reducible refine iR ?_; refine rG2 ?_) | (with_reducible refine r1 ?_; clear hbq bq) | (with_reducible refine iL ?_; refine rL (by rw [Tryz.results26]) fin ?_; simp only [go_sem, ↓reduceIte, aPack, Option.some.injEq, exists_eq_left', c1]) | with_reducible first | refine nS ?_ | refine rS fun bq hbq => ?_ | refine rR ?_
  exact ret_as (by rw [if_pos (by simpa using c1)]) hq
 rw [if_neg (by simpa using c1)] at hq
 repeat first | ((with_reducible first | refine sS ?_ | refine sC ?_); intro _ _ _ C_ R_ U_; simp only [go_sem, ↓reduceIte, c1]; subst C_ R_ U_) | (with_reducible refine rN ?_; subst hbq) | (with_reducible refine iR ?_; refine rG2 ?_) | with_reducible first | refine nS ?_ | refine rS fun bq hbq => ?_ | refine rK ?_
 generalize upd h a (some (AObj.cells [.list 8 (encVs vs) vs.length tk] 24)) = H at *
 refine run_cutS (fun τ h' => τ 1 = .ptr a 0 ∧ HLess h' H ∧ longF vs 4000 = false) ?_ fun τ h' hI => ?_
 ·repeat with_reducible refine run_seq fun bq hbq => ?_
  refine run_block fun cq hcq => ?_
  subst hcq
  refine run_loop (fun k τ h' => ∃ (i : Nat) (left : Int), k + i = vs.length ∧ longF (vs.drop i) left = longF vs 4000 ∧ 0 ≤ left ∧ left ≤ 4000 ∧ τ 1 = .ptr a 0 ∧ τ 3 = .int .i64 left ∧ τ 11 = .list 8 (encVs vs) vs.length tk ∧ τ 12 = .int .i64 vs.length ∧ τ 13 = .int .i64 i ∧ HLess h' H) vs.length ?_ ?_
  ·exact ⟨0, 4000, rfl, rfl, by decide, by decide, rfl, rfl, rfl, rfl, rfl, HLess.refl _⟩
  ·intro c hc k τ h' hI
   obtain ⟨i, left, hk, hix, hl0, hl1, f1, f3, f11, f12, f13, hl'⟩ := hI
   subst hc
   by_cases hi : i < vs.length
   ·obtain ⟨v, hv⟩ : ∃ v, vs[i]? = some v := ⟨_, List.getElem?_eq_getElem hi⟩
    obtain ⟨r, hr⟩ := encVs_at vs i hv
    have hdrop : vs.drop i = v :: vs.drop (i + 1) := by
     rw [List.drop_eq_getElem_cons hi]
     rw [List.getElem?_eq_getElem hi] at hv; injection hv with hv; rw [hv]
    rw [hdrop, longF] at hix
    repeat first | ((with_reducible first | refine sS ?_ | refine sC ?_); intro _ _ _ C_ R_ U_; simp only [go_sem, ↓reduceIte, f1, f3, f11, f12, f13, hi, hr]; subst C_ R_ U_) | (with_reducible refine rN ?_; subst hbq) | (with_reducible refine iR ?_; refine rG2 ?_) | (with_reducible refine rB fun cq hcq => ?_; subst hcq) | with_reducible first | refine nS ?_ | refine rS fun bq hbq => ?_ | refine rK ?_
    intro p hp
    have hlp : HLess (upd h' p (some (.cells (cellsV v) 62))) H := (HLess.one hp).trans hl'
    have finp : HLess (upd h' p (some (.cells (cellsV v) 62))) h := hlp.trans fin
    cases hvi : v.is
    ·rw [hvi] at hix
     repeat first | ((with_reducible first | refine sS ?_ | refine sC ?_); intro _ _ _ C_ R_ U_; simp only [go_sem, ↓reduceIte, f1, f3, f11, f12, f13, hvi, wrapI ((i : Int) + 1) (by omega)]; subst C_ R_ U_) | (with_reducible refine rN ?_; subst hbq) | (with_reducible refine iR ?_; refine rG2 ?_) | with_reducible first | refine nS ?_ | refine rS fun bq hbq => ?_ | refine rK ?_ | refine rE ?_
     refine run_loopN (m := k - 1) (by omega) ⟨i + 1, left, by omega, by simpa using hix, hl0, hl1, ?_⟩
     simp only [go_sem, ↓reduceIte, f1, f3, f11, f12]
     exact ⟨rfl, (HLess.one hp).trans hl'⟩
    ·rw [hvi] at hix
     simp only [if_true] at hix
     repeat first | ((with_reducible first | refine sS ?_ | refine sC ?_); intro _ _ _ C_ R_ U_; simp only [go_sem, ↓reduceIte, f1, f3, f11, f12, f13, hvi]; subst C_ R_ U_) | (with_reducible refine rN ?_; subst hbq) | (with_reducible refine iR ?_; refine rG2 ?_) | with_reducible first | refine nS ?_ | refine rS fun bq hbq => ?_
     refine parts_am v.t.size v.t left _ _ (Nat.le_refl _) (by omega) (by omega) ?_
     have hb := (partsL_bound v.t.size).1 v.t left (Nat.le_refl _)
     cases hd : decide ((v.t.size : Int) > left)
     ·rw [hd] at hix
      simp only [Bool.false_eq_true, if_false] at hix
      have hd' : ¬ (v.t.size : Int) > left := by simpa using hd
      have hps := parts_of_small v.t left (by omega)
      have hw := wrapI (left - v.t.size) (by omega)
      have hneg : decide (left - (v.t.size : Int) < 0) = false := by simp; omega
      rw [hps]
      try dsimp only
      repeat first | ((with_reducible first | refine sS ?_ | refine sC ?_); intro _ _ _ C_ R_ U_; simp only [go_sem, ↓reduceIte, f1, f3, f11, f12, f13, hvi, hw, hneg, wrapI ((i : Int) + 1) (by omega)]; subst C_ R_ U_) | (with_reducible refine rN ?_; subst hbq) | (with_reducible refine iR ?_; refine rG2 ?_) | with_reducible first | refine nS ?_ | refine rS fun bq hbq => ?_ | refine rK ?_ | refine rE ?_
      refine run_loopN (m := k - 1) (by omega) ⟨i + 1, left - v.t.size, by omega, hix, by omega, by omega, ?_⟩
      simp only [go_sem, ↓reduceIte, f1, f11, f12]
      exact ⟨rfl, (HLess.one hp).trans hl'⟩
     ·rw [hd] at hix
      simp only [if_true] at hix
      have hd' : partsF v.t left > left := (parts_big v.t left).2 (by simpa using hd)
      have hw := wrapI (left - partsF v.t left) (by omega)
      have hneg : decide (left - partsF v.t left < 0) = true := by simp; omega
      try dsimp only
      repeat first | ((with_reducible first | refine sS ?_ | refine sC ?_); intro _ _ _ C_ R_ U_; simp only [go_sem, ↓reduceIte, f1, f3, f11, f12, f13, hvi, hw, hneg]; subst C_ R_ U_) | (with_reducible refine rN ?_; subst hbq) | (with_reducible refine iR ?_; refine rG2 ?_) | (with_reducible refine r1 ?_; clear hbq bq) | (with_reducible refine iL ?_; refine rL (by rw [Tryz.results26]) ((HLess.one hp).trans (hl'.trans fin)) ?_; simp only [go_sem, ↓reduceIte, aPack, Option.some.injEq, exists_eq_left', f1, f3, f11, f12, f13, hvi, hw, hneg]) | with_reducible first | refine nS ?_ | refine rS fun bq hbq => ?_ | refine rR ?_ | refine r2 ?_ | refine r3 ?_ | refine r4 ?_
      exact ret_as (by rw [← hix, if_pos rfl]) hq
   ·rw [List.drop_eq_nil_of_le (by omega), longF] at hix
    repeat first | ((with_reducible first | refine sS ?_ | refine sC ?_); intro _ _ _ C_ R_ U_; simp only [go_sem, ↓reduceIte, f1, f3, f11, f12, f13, hi]; subst C_ R_ U_) | (with_reducible refine rN ?_; subst hbq) | (with_reducible refine iR ?_; refine rG2 ?_) | (with_reducible refine x1 ?_; clear hbq bq) | with_reducible first | refine nS ?_ | refine rS fun bq hbq => ?_ | refine rXx ?_ | refine x3 ?_ | refine x4 ?_
    refine run_endcut ?_
    exact ⟨f1, hl', hix.symm⟩
 ·obtain ⟨f1, hl', hlg⟩ := hI
  subst hbq
  rw [hlg] at hq
  simp only [Bool.false_eq_true, if_false] at hq
  have ta := hl' _ _ sa
  have fin2 : HLess h' h := hl'.trans fin
  repeat first | ((with_reducible refine sS ?_); intro _ _ _ C_ R_ U_; simp only [go_sem, ↓reduceIte, f1, ta]; subst C_ R_ U_) | (with_reducible refine iR ?_; refine rG2 ?_) | with_reducible refine rS fun bq hbq => ?_
  refine AmCalls.args (args' := [.list 8 (encVs vs) vs.length .none, .func (.func 72) [] [.ptr a 0]]) (.cons (LeAV.list _ _ _ _) (.cons (LeAV.refl _) .nil)) (containsFuncV_am vs 72 [] [.ptr a 0] (fun v => !validF vs v) _ _ (by omega) (fun i u hu _ h2 Q2 hl2 hq2 => valid72 vs hvs tk u h2 a (hl2 _ _ ta) Q2 hq2) ?_)
  cases hall : vs.any fun v => !validF vs v
  ·have hall' : vs.all (validF vs) = true := by
    rw [List.all_eq_true]
    rw [List.any_eq_false] at hall
    intro v hv
    have := hall v hv
    simpa using this
   rw [hall'] at hq
   simp only [if_true] at hq
   have hg := good_of vs hlg hall'
   try dsimp only
   repeat (((with_reducible refine sS ?_); intro _ _ _ C_ R_ U_; simp only [go_sem, ↓reduceIte, f1, ta, hall]; subst C_ R_ U_))
   refine circles_am vs hvs hg.vals tk _ _ ?_
   cases hc : circlesF vs
   ·try dsimp only
    repeat first | ((with_reducible first | refine sS ?_ | refine sC ?_); intro _ _ _ C_ R_ U_; simp only [go_sem, ↓reduceIte, f1, ta, hall, hc]; subst C_ R_ U_) | (with_reducible refine rN ?_; subst hbq) | (with_reducible refine iR ?_; refine rG2 ?_) | (with_reducible refine iL ?_; refine rL (by rw [Tryz.results26]) fin2 ?_; simp only [go_sem, ↓reduceIte, aPack, Option.some.injEq, exists_eq_left', f1, ta, hall, hc]) | with_reducible first | refine nS ?_ | refine rS fun bq hbq => ?_ | refine rK ?_ | refine rR ?_
    exact ret_as (by rw [hc]; first | done | rfl) hq
   ·try dsimp only
    repeat first | ((with_reducible first | refine sS ?_ | refine sC ?_); intro _ _ _ C_ R_ U_; simp only [go_sem, ↓reduceIte, f1, ta, hall, hc]; subst C_ R_ U_) | (with_reducible refine rN ?_; subst hbq) | (with_reducible refine iR ?_; refine rG2 ?_) | (with_reducible refine r1 ?_; clear hbq bq) | (with_reducible refine iL ?_; refine rL (by rw [Tryz.results26]) fin2 ?_; simp only [go_sem, ↓reduceIte, aPack, Option.some.injEq, exists_eq_left', f1, ta, hall, hc]) | with_reducible first | refine nS ?_ | refine rS fun bq hbq => ?_ | refine rR ?_
    exact ret_as (by rw [hc]; first | done | rfl) hq
  ·have hall' : vs.all (validF vs) = false := by
    rw [Bool.eq_false_iff]
    intro h1
    rw [List.all_eq_true] at h1
    rw [List.any_eq_true] at hall
    obtain ⟨v, hv, h2⟩ := hall
    rw [h1 v hv] at h2; cases h2
   rw [hall'] at hq
   try dsimp only
   repeat first | ((with_reducible first | refine sS ?_ | refine sC ?_); intro _ _ _ C_ R_ U_; simp only [go_sem, ↓reduceIte, f1, ta, hall]; subst C_ R_ U_) | (with_reducible refine rN ?_; subst hbq) | (with_reducible refine iR ?_; refine rG2 ?_) | (with_reducible refine r1 ?_; clear hbq bq) | (with_reducible refine iL ?_; refine rL (by rw [Tryz.results26]) fin2 ?_; simp only [go_sem, ↓reduceIte, aPack, Option.some.injEq, exists_eq_left', f1, ta, hall]) | with_reducible first | refine nS ?_ | refine rS fun bq hbq => ?_ | refine rR ?_
   exact hq
theorem sizedS_small (t : Term) (h : (sizedF t == 0) = true) : t.size ≤ 4000 := by
 refine parts_small t fun hp => ?_
 unfold sizedF at h
 rw [if_pos hp] at h
 exact absurd h (by decide)
def fitErrS (vs : List Va) (t : Term) : Int := if sizedF t == 0 then (if fitsF vs t 0 then 0 else 6) else sizedF t
def fitErrsS (vs : List Va) : List Term → Int
 | [] => 0
 | t :: ts => if fitErrS vs t == 0 then fitErrsS vs ts else fitErrS vs t
theorem fittingS_am (vs : List Va) (hvs : vs.length ≤ 1000000) (tk : Tok) (l : List Term) (h : AHeap) (Q : AOut → AHeap → Prop) (hl : l.length ≤ 1000000000) (hq : Q (.ret (.int .i64 (if checkF vs == 0 then fitErrsS vs l else checkF vs))) h) : AmCalls Tryz.prog 57 [.agg [.list 8 (encVs vs) vs.length tk], .list 4 (encs l) l.length .none] h Q := by
 refine AmCalls.of_sem (fn := Tryz.f57) Tryz.func57 rfl (by kernel_rfl) (by rw [Tryz.ntmps57]; simp) (enters_of Tryz.func57 (by kernel_rfl) (by kernel_rfl)) ?_
 repeat first | ((with_reducible refine sS ?_); intro _ _ _ C_ R_ U_; simp only [go_sem, ↓reduceIte]; subst C_ R_ U_) | (with_reducible refine iR ?_; refine rG2 ?_) | with_reducible refine rS fun bq hbq => ?_
 intro a ha
 have fin : HLess (upd h a (some (.cells [.list 8 (encVs vs) vs.length tk] 24))) h := (HLess.refl h).new ha
 repeat first | ((with_reducible refine sS ?_); intro _ _ _ C_ R_ U_; simp only [go_sem, ↓reduceIte]; subst C_ R_ U_) | (with_reducible refine rN ?_; subst hbq) | (with_reducible refine iR ?_; refine rG2 ?_) | with_reducible first | refine nS ?_ | refine rS fun bq hbq => ?_
 refine check_am vs hvs tk _ _ ?_
 cases c0 : (checkF vs == 0)
 ·rw [c0] at hq
  try dsimp only
  repeat first | ((with_reducible first | refine sS ?_ | refine sC ?_); intro _ _ _ C_ R_ U_; simp only [go_sem, ↓reduceIte, c0]; subst C_ R_ U_) | (with_reducible refine rN ?_; subst hbq) | (with_reducible refine iR ?_; refine rG2 ?_) | (with_reducible refine r1 ?_; clear hbq bq) | (with_reducible refine iL ?_; refine rL (by rw [Tryz.results57]) fin ?_; simp only [go_sem, ↓reduceIte, aPack, Option.some.injEq, exists_eq_left', c0]) | with_reducible first | refine nS ?_ | refine rS fun bq hbq => ?_ | refine rR ?_
  exact hq
 rw [c0] at hq
 simp only [if_true] at hq
 try dsimp only
 repeat first | ((with_reducible first | refine sS ?_ | refine sC ?_); intro _ _ _ C_ R_ U_; simp only [go_sem, ↓reduceIte, c0]; subst C_ R_ U_) | (with_reducible refine rN ?_; subst hbq) | (with_reducible refine iR ?_; refine rG2 ?_) | (with_reducible refine rB fun cq hcq => ?_; subst hcq) | with_reducible first | refine nS ?_ | refine rS fun bq hbq => ?_ | refine rK ?_
 refine run_loop (fun k τ h' => ∃ i : Nat, k + i = l.length ∧ τ 2 = .ptr a 0 ∧ τ 14 = .list 4 (encs l) l.length .none ∧ τ 15 = .int .i64 l.length ∧ τ 16 = .int .i64 i ∧ HLess h' h ∧ h' a = some (.cells [.list 8 (encVs vs) vs.length tk] 24) ∧ fitErrsS vs (l.drop i) = fitErrsS vs l) l.length ?_ ?_
 ·exact ⟨0, rfl, rfl, rfl, rfl, rfl, fin, upd_same _ _ _, rfl⟩
 ·intro c hc k τ h' hI
  obtain ⟨i, hk, f2, f14, f15, f16, hl', ma, hix⟩ := hI
  subst hc
  by_cases hi : i < l.length
  ·obtain ⟨u, hu⟩ : ∃ u, l[i]? = some u := ⟨_, List.getElem?_eq_getElem hi⟩
   obtain ⟨r, hr⟩ := encs_at l i hu
   have hdrop : l.drop i = u :: l.drop (i + 1) := by
    rw [List.drop_eq_getElem_cons hi]
    rw [List.getElem?_eq_getElem hi] at hu; injection hu with hu; rw [hu]
   rw [hdrop, fitErrsS] at hix
   repeat first | ((with_reducible first | refine sS ?_ | refine sC ?_); intro _ _ _ C_ R_ U_; simp only [go_sem, ↓reduceIte, f2, f14, f15, f16, hi, hr]; subst C_ R_ U_) | (with_reducible refine rN ?_; subst hbq) | (with_reducible refine iR ?_; refine rG2 ?_) | (with_reducible refine rB fun cq hcq => ?_; subst hcq) | with_reducible first | refine nS ?_ | refine rS fun bq hbq => ?_ | refine rK ?_
   intro b hb
   have hba := ne_of_new hb ma
   have fin : HLess (upd h' b (some (.cells (cellsT u) 27))) h := hl'.new (hl'.none hb)
   repeat first | ((with_reducible refine sS ?_); intro _ _ _ C_ R_ U_; simp only [go_sem, ↓reduceIte, f2, f14, f15, f16, ma, hba]; subst C_ R_ U_) | (with_reducible refine rN ?_; subst hbq) | (with_reducible refine iR ?_; refine rG2 ?_) | with_reducible first | refine nS ?_ | refine rS fun bq hbq => ?_
   refine sized_am u _ _ ?_
   cases hs : (sizedF u == 0)
   ·rw [show fitErrS vs u = sizedF u by simp only [fitErrS, hs]; rfl, hs] at hix
    try dsimp only
    repeat first | ((with_reducible first | refine sS ?_ | refine sC ?_); intro _ _ _ C_ R_ U_; simp only [go_sem, ↓reduceIte, f2, f14, f15, f16, ma, hba, hs]; subst C_ R_ U_) | (with_reducible refine rN ?_; subst hbq) | (with_reducible refine iR ?_; refine rG2 ?_) | (with_reducible refine r1 ?_; clear hbq bq) | (with_reducible refine iL ?_; refine rL (by rw [Tryz.results57]) fin ?_; simp only [go_sem, ↓reduceIte, aPack, Option.some.injEq, exists_eq_left', f2, f14, f15, f16, ma, hba, hs]) | with_reducible first | refine nS ?_ | refine rS fun bq hbq => ?_ | refine rR ?_ | refine r3 ?_ | refine r4 ?_
    exact ret_as (by rw [← hix]; rfl) hq
   ·have hsz := sizedS_small u hs
    try dsimp only
    repeat first | ((with_reducible first | refine sS ?_ | refine sC ?_); intro _ _ _ C_ R_ U_; simp only [go_sem, ↓reduceIte, f2, f14, f15, f16, ma, hba, hs]; subst C_ R_ U_) | (with_reducible refine rN ?_; subst hbq) | (with_reducible refine iR ?_; refine rG2 ?_) | with_reducible first | refine nS ?_ | refine rS fun bq hbq => ?_ | refine rK ?_
    refine fits_am vs hvs tk u.size u 0 _ _ (Nat.le_refl _) (by decide) (by omega) ?_
    cases hf : fitsF vs u 0
    ·rw [show fitErrS vs u = 6 by simp only [fitErrS, hs, hf]; rfl] at hix
     try dsimp only
     repeat first | ((with_reducible first | refine sS ?_ | refine sC ?_); intro _ _ _ C_ R_ U_; simp only [go_sem, ↓reduceIte, f2, f14, f15, f16, ma, hba, hs, hf]; subst C_ R_ U_) | (with_reducible refine rN ?_; subst hbq) | (with_reducible refine iR ?_; refine rG2 ?_) | (with_reducible refine r1 ?_; clear hbq bq) | (with_reducible refine iL ?_; refine rL (by rw [Tryz.results57]) fin ?_; simp only [go_sem, ↓reduceIte, aPack, Option.some.injEq, exists_eq_left', f2, f14, f15, f16, ma, hba, hs, hf]) | with_reducible first | refine nS ?_ | refine rS fun bq hbq => ?_ | refine rR ?_ | refine r3 ?_ | refine r4 ?_
     exact ret_as (by rw [← hix]; rfl) hq
    ·rw [show fitErrS vs u = 0 by simp only [fitErrS, hs, hf]; rfl] at hix
     try dsimp only
     repeat first | ((with_reducible first | refine sS ?_ | refine sC ?_); intro _ _ _ C_ R_ U_; simp only [go_sem, ↓reduceIte, f2, f14, f15, f16, ma, hba, hs, hf, wrapI ((i : Int) + 1) (by omega)]; subst C_ R_ U_) | (with_reducible refine rN ?_; subst hbq) | (with_reducible refine iR ?_; refine rG2 ?_) | with_reducible first | refine nS ?_ | refine rK ?_ | refine rE ?_
     refine run_loopN (m := k - 1) (by omega) ⟨i + 1, by omega, ?_⟩
     simp only [go_sem, ↓reduceIte, f2, f14, f15, f16, hba, ma]
     exact ⟨rfl, fin, hix⟩
  ·rw [List.drop_eq_nil_of_le (by omega), fitErrsS] at hix
   repeat first | ((with_reducible first | refine sS ?_ | refine sC ?_); intro _ _ _ C_ R_ U_; simp only [go_sem, ↓reduceIte, f2, f14, f15, f16, hi]; subst C_ R_ U_) | (with_reducible refine rN ?_; subst hbq) | (with_reducible refine iR ?_; refine rG2 ?_) | (with_reducible refine x1 ?_; clear hbq bq) | (with_reducible refine iL ?_; refine rL (by rw [Tryz.results57]) hl' ?_; simp only [go_sem, ↓reduceIte, aPack, Option.some.injEq, exists_eq_left', f2, f14, f15, f16, hi]) | with_reducible first | refine nS ?_ | refine rS fun bq hbq => ?_ | refine rXx ?_ | refine rR ?_ | refine x3 ?_ | refine x4 ?_
   rw [hix]; exact hq
theorem build25_1 (t : Term) : aBuildSlice Tryz.prog 25 1 [(0, .agg (cellsT t))] = some (.list 4 (cellsT t) 1 .full) := build1 el_25 sz_27 ze_27 rfl rfl rfl (by decide)
theorem fitsS_am (vs : List Va) (hvs : vs.length ≤ 1000000) (tk : Tok) (t : Term) (h : AHeap) (Q : AOut → AHeap → Prop) (hq : Q (.ret (.int .i64 (if checkF vs == 0 then fitErrS vs t else checkF vs))) h) : AmCalls Tryz.prog 23 [.agg [.list 8 (encVs vs) vs.length tk], enc t] h Q := by
 refine AmCalls.of_sem (fn := Tryz.f23) Tryz.func23 rfl (by kernel_rfl) (by rw [Tryz.ntmps23]; simp) (enters_of Tryz.func23 (by kernel_rfl) (by kernel_rfl)) ?_
 repeat first | ((with_reducible refine sS ?_); intro _ _ _ C_ R_ U_; simp only [go_sem, ↓reduceIte]; subst C_ R_ U_) | (with_reducible refine iR ?_; refine rG2 ?_) | with_reducible refine rS fun bq hbq => ?_
 intro a ha
 repeat (((with_reducible refine sS ?_); intro _ _ _ C_ R_ U_; simp only [go_sem, ↓reduceIte]; subst C_ R_ U_))
 intro b hb
 have e := fresh_if hb
 have fin : HLess (upd (upd h a (some (.cells [.list 8 (encVs vs) vs.length tk] 24))) b (some (.cells (cellsT t) 27))) h := (HLess.refl h).new ha |>.new e.2
 repeat first | ((with_reducible refine sS ?_); intro _ _ _ C_ R_ U_; simp only [go_sem, ↓reduceIte, e.1, e.1.symm, build25_1]; subst C_ R_ U_) | (with_reducible refine rN ?_; subst hbq) | (with_reducible refine iR ?_; refine rG2 ?_) | with_reducible first | refine nS ?_ | refine rS fun bq hbq => ?_
 have e1 : encs [t] = cellsT t := by rw [encs_eq]; simp
 refine AmCalls.args (args' := [.agg [.list 8 (encVs vs) vs.length tk], .list 4 (encs [t]) ([t] : List Term).length .none]) (.cons (LeAV.refl _) (.cons (by rw [e1]; exact LeAV.list _ _ _ _) .nil)) (fittingS_am vs hvs tk [t] _ _ (by simp) ?_)
 try dsimp only
 repeat first | ((with_reducible refine sS ?_); intro _ _ _ C_ R_ U_; simp only [go_sem, ↓reduceIte, e.1, e.1.symm]; subst C_ R_ U_) | (with_reducible refine rN ?_; subst hbq) | (with_reducible refine iL ?_; refine rL (by rw [Tryz.results23]) fin ?_; simp only [go_sem, ↓reduceIte, aPack, Option.some.injEq, exists_eq_left', e.1, e.1.symm]) | with_reducible first | refine nS ?_ | refine rR ?_
 refine ret_as ?_ hq
 rw [fitErrsS, fitErrsS]
 cases h1 : (fitErrS vs t == 0)
 ·rfl
 ·have : fitErrS vs t = 0 := by simpa using h1
  rw [this]; rfl
def fewSF (vs : List Va) (l : List Term) : Bool := !decide ((vs.length : Int) > 12) && (vs.all (fun v => fewF v.t) && l.all fewF)
theorem fewS_am (vs : List Va) (tk : Tok) (l : List Term) (h : AHeap) (Q : AOut → AHeap → Prop) (hl : l.length ≤ 1000000000) (hq : Q (.ret (.bool (fewSF vs l))) h) : AmCalls Tryz.prog 14 [.agg [.list 8 (encVs vs) vs.length tk], .list 4 (encs l) l.length .none] h Q := by
 unfold fewSF at hq
 refine AmCalls.of_sem (fn := Tryz.f14) Tryz.func14 rfl (by kernel_rfl) (by rw [Tryz.ntmps14]; simp) (enters_of Tryz.func14 (by kernel_rfl) (by kernel_rfl)) ?_
 repeat first | ((with_reducible refine sS ?_); intro _ _ _ C_ R_ U_; simp only [go_sem, ↓reduceIte]; subst C_ R_ U_) | (with_reducible refine iR ?_; refine rG2 ?_) | with_reducible refine rS fun bq hbq => ?_
 intro a ha
 have fin : HLess (upd h a (some (.cells [.list 8 (encVs vs) vs.length tk] 24))) h := HLess.one ha
 have sa : (upd h a (some (AObj.cells [.list 8 (encVs vs) vs.length tk] 24))) a = some (.cells [.list 8 (encVs vs) vs.length tk] 24) := upd_same _ _ _
 cases c1 : decide ((vs.length : Int) > 12)
 case true =>
  repeat first | ((with_reducible first | refine sS ?_ | refine sC ?_); intro _ _ _ C_ R_ U_; simp only [go_sem, ↓reduceIte, c1]; subst C_ R_ U_) | (with_reducible refine rN ?_; subst hbq) | (with_reducible refine iR ?_; refine rG2 ?_) | (with_reducible refine r1 ?_; clear hbq bq) | (with_reducible refine iL ?_; refine rL (by rw [Tryz.results14]) fin ?_; simp only [go_sem, ↓reduceIte, aPack, Option.some.injEq, exists_eq_left', c1]) | with_reducible first | refine nS ?_ | refine rS fun bq hbq => ?_ | refine rR ?_
  exact ret_as (by rw [c1]; rfl) hq
 have hv12 : (vs.length : Int) ≤ 12 := by simpa using c1
 rw [c1, Bool.not_false, Bool.true_and] at hq
 repeat first | ((with_reducible first | refine sS ?_ | refine sC ?_); intro _ _ _ C_ R_ U_; simp only [go_sem, ↓reduceIte, c1]; subst C_ R_ U_) | (with_reducible refine rN ?_; subst hbq) | (with_reducible refine iR ?_; refine rG2 ?_) | (with_reducible refine rB fun cq hcq => ?_; subst hcq) | with_reducible first | refine nS ?_ | refine rS fun bq hbq => ?_ | refine rK ?_
 generalize upd h a (some (AObj.cells [.list 8 (encVs vs) vs.length tk] 24)) = H at *
 refine run_loop (fun k τ h' => ∃ i : Nat, k + i = vs.length ∧ τ 1 = .list 4 (encs l) l.length .none ∧ τ 2 = .ptr a 0 ∧ τ 5 = .int .i64 i ∧ h' = H ∧ (vs.drop i).all (fun v => fewF v.t) = vs.all (fun v => fewF v.t)) vs.length ?_ ?_
 ·exact ⟨0, rfl, rfl, rfl, rfl, rfl, rfl⟩
 ·intro c hc k τ h' hI
  obtain ⟨i, hk, f1, f2, f5, rfl, hix⟩ := hI
  subst hc
  by_cases hi : i < vs.length
  ·obtain ⟨v, hv⟩ : ∃ v, vs[i]? = some v := ⟨_, List.getElem?_eq_getElem hi⟩
   obtain ⟨r, hr⟩ := encVs_at vs i hv
   have hr4 : List.drop (i * 8 + 4) (encVs vs) = .int .i64 v.t.kind :: .int .i64 v.t.n :: .str v.t.name :: .list 4 (encs v.t.args) v.t.args.length .none :: r := by rw [← List.drop_drop, hr]; rfl
   have hdrop : vs.drop i = v :: vs.drop (i + 1) := by
    rw [List.drop_eq_getElem_cons hi]
    rw [List.getElem?_eq_getElem hi] at hv; injection hv with hv; rw [hv]
   rw [hdrop, List.all_cons] at hix
   repeat first | ((with_reducible first | refine sS ?_ | refine sC ?_); intro _ _ _ C_ R_ U_; simp only [go_sem, ↓reduceIte, f1, f2, f5, sa, hi, hr4]; subst C_ R_ U_) | (with_reducible refine rN ?_; subst hbq) | (with_reducible refine iR ?_; refine rG2 ?_) | (with_reducible refine rB fun cq hcq => ?_; subst hcq) | with_reducible first | refine nS ?_ | refine rS fun bq hbq => ?_ | refine rK ?_
   refine fewT_am v.t _ _ ?_
   cases hf : fewF v.t
   ·rw [hf, Bool.false_and] at hix
    rw [← hix] at hq
    try dsimp only
    repeat first | ((with_reducible first | refine sS ?_ | refine sC ?_); intro _ _ _ C_ R_ U_; simp only [go_sem, ↓reduceIte, f1, f2, f5, sa, hf]; subst C_ R_ U_) | (with_reducible refine rN ?_; subst hbq) | (with_reducible refine iR ?_; refine rG2 ?_) | (with_reducible refine r1 ?_; clear hbq bq) | (with_reducible refine iL ?_; refine rL (by rw [Tryz.results14]) fin ?_; simp only [go_sem, ↓reduceIte, aPack, Option.some.injEq, exists_eq_left', f1, f2, f5, sa, hf]) | with_reducible first | refine nS ?_ | refine rS fun bq hbq => ?_ | refine rR ?_ | refine r3 ?_ | refine r4 ?_
    exact hq
   ·rw [hf, Bool.true_and] at hix
    try dsimp only
    repeat first | ((with_reducible first | refine sS ?_ | refine sC ?_); intro _ _ _ C_ R_ U_; simp only [go_sem, ↓reduceIte, f1, f2, f5, sa, hf, wrapI ((i : Int) + 1) (by omega)]; subst C_ R_ U_) | (with_reducible refine rN ?_; subst hbq) | (with_reducible refine iR ?_; refine rG2 ?_) | with_reducible first | refine nS ?_ | refine rK ?_ | refine rE ?_
    refine run_loopN (m := k - 1) (by omega) ⟨i + 1, by omega, f1, f2, rfl, rfl, hix⟩
  ·rw [List.drop_eq_nil_of_le (by omega), List.all_nil] at hix
   rw [← hix, Bool.true_and] at hq
   repeat first | ((with_reducible first | refine sS ?_ | refine sC ?_); intro _ _ _ C_ R_ U_; simp only [go_sem, ↓reduceIte, f1, f2, f5, sa, hi]; subst C_ R_ U_) | (with_reducible refine rN ?_; subst hbq) | (with_reducible refine iR ?_; refine rG2 ?_) | (with_reducible refine rB fun cq hcq => ?_; subst hcq) | (with_reducible refine x1 ?_; clear hbq bq) | with_reducible first | refine nS ?_ | refine rS fun bq hbq => ?_ | refine rXx ?_ | refine x3 ?_ | refine x4 ?_
   refine run_loop (fun k τ h2 => ∃ i : Nat, k + i = l.length ∧ τ 1 = .list 4 (encs l) l.length .none ∧ τ 6 = .int .i64 i ∧ HLess h2 h ∧ (l.drop i).all fewF = l.all fewF) l.length ?_ ?_
   ·exact ⟨0, rfl, f1, rfl, fin, rfl⟩
   intro c hc k τ h2 hI
   clear f1 f2 f5 hix
   obtain ⟨i, hk, f1, f6, hl', hix⟩ := hI
   subst hc
   by_cases hi : i < l.length
   ·obtain ⟨u, hu⟩ : ∃ u, l[i]? = some u := ⟨_, List.getElem?_eq_getElem hi⟩
    obtain ⟨r, hr⟩ := encs_at l i hu
    have hdrop : l.drop i = u :: l.drop (i + 1) := by
     rw [List.drop_eq_getElem_cons hi]
     rw [List.getElem?_eq_getElem hi] at hu; injection hu with hu; rw [hu]
    rw [hdrop, List.all_cons] at hix
    repeat first | ((with_reducible first | refine sS ?_ | refine sC ?_); intro _ _ _ C_ R_ U_; simp only [go_sem, ↓reduceIte, f1, f6, hi, hr]; subst C_ R_ U_) | (with_reducible refine rN ?_; subst hbq) | (with_reducible refine iR ?_; refine rG2 ?_) | (with_reducible refine rB fun cq hcq => ?_; subst hcq) | with_reducible first | refine nS ?_ | refine rS fun bq hbq => ?_ | refine rK ?_
    refine fewT_am u _ _ ?_
    cases hf : fewF u
    ·rw [hf, Bool.false_and] at hix
     rw [← hix] at hq
     try dsimp only
     repeat first | ((with_reducible first | refine sS ?_ | refine sC ?_); intro _ _ _ C_ R_ U_; simp only [go_sem, ↓reduceIte, f1, f6, hf]; subst C_ R_ U_) | (with_reducible refine rN ?_; subst hbq) | (with_reducible refine iR ?_; refine rG2 ?_) | (with_reducible refine r1 ?_; clear hbq bq) | (with_reducible refine iL ?_; refine rL (by rw [Tryz.results14]) hl' ?_; simp only [go_sem, ↓reduceIte, aPack, Option.some.injEq, exists_eq_left', f1, f6, hf]) | with_reducible first | refine nS ?_ | refine rS fun bq hbq => ?_ | refine rR ?_ | refine r3 ?_ | refine r4 ?_
     exact hq
    ·rw [hf, Bool.true_and] at hix
     try dsimp only
     repeat first | ((with_reducible first | refine sS ?_ | refine sC ?_); intro _ _ _ C_ R_ U_; simp only [go_sem, ↓reduceIte, f1, f6, hf, wrapI ((i : Int) + 1) (by omega)]; subst C_ R_ U_) | (with_reducible refine rN ?_; subst hbq) | (with_reducible refine iR ?_; refine rG2 ?_) | with_reducible first | refine nS ?_ | refine rK ?_ | refine rE ?_
     refine run_loopN (m := k - 1) (by omega) ⟨i + 1, by omega, f1, rfl, hl', hix⟩
   ·rw [List.drop_eq_nil_of_le (by omega), List.all_nil] at hix
    rw [← hix] at hq
    repeat first | ((with_reducible first | refine sS ?_ | refine sC ?_); intro _ _ _ C_ R_ U_; simp only [go_sem, ↓reduceIte, f1, f6, hi]; subst C_ R_ U_) | (with_reducible refine rN ?_; subst hbq) | (with_reducible refine iR ?_; refine rG2 ?_) | (with_reducible refine x1 ?_; clear hbq bq) | (with_reducible refine iL ?_; refine rL (by rw [Tryz.results14]) hl' ?_; simp only [go_sem, ↓reduceIte, aPack, Option.some.injEq, exists_eq_left', f1, f6, hi]) | with_reducible first | refine nS ?_ | refine rS fun bq hbq => ?_ | refine rXx ?_ | refine rR ?_ | refine x3 ?_ | refine x4 ?_
    exact hq
theorem LeAV.listL {sz n : Nat} {t : Tok} {xs ys : List AV} (hl : LeL xs ys) : LeAV (.list sz xs n t) (.list sz ys n t) := by
 intro G W v hr
 simp only [Rel] at hr ⊢
 obtain ⟨a, c, vs, hv, hc, hr, rest⟩ := hr
 exact ⟨a, c, vs, hv, hc, hl.rel G W vs hr, rest⟩
def newVa (lv : Int) (ty : Ty) : Va := ⟨lv, ty, false, ⟨0, 0, noNameS, []⟩⟩
theorem build24_0 : aBuild Tryz.prog 24 [] = some (.agg [.list 0 [] 0 .nil]) := by
 simp only [aBuild, ze_24, pl_24, aFill]
 rfl
theorem build62N (lv : Int) (ty : Ty) : aBuild Tryz.prog 62 [(0, .int .i64 lv), (1, .agg [.str ty.name, .list 2 (encTs ty.args) ty.args.length .none])] = some (.agg [.int .i64 lv, .str ty.name, .list 2 (encTs ty.args) ty.args.length .none, .bool false, .int .i64 0, .int .i64 0, .str noNameS, .list 0 [] 0 .nil]) := by
 simp only [aBuild, ze_62, pl_62, aFill]
 rfl
theorem build22N (lv : Int) (ty : Ty) : aBuildSlice Tryz.prog 22 1 [(0, .agg [.int .i64 lv, .str ty.name, .list 2 (encTs ty.args) ty.args.length .none, .bool false, .int .i64 0, .int .i64 0, .str noNameS, .list 0 [] 0 .nil])] = some (.list 8 [.int .i64 lv, .str ty.name, .list 2 (encTs ty.args) ty.args.length .none, .bool false, .int .i64 0, .int .i64 0, .str noNameS, .list 0 [] 0 .nil] 1 .full) := build1 el_22 sz_62 ze_62 rfl rfl rfl (by decide)
theorem LeL.app {xs ys : List AV} (h : LeL xs ys) : ∀ l : List AV, LeL (l ++ xs) (l ++ ys)
 | [] => h
 | a :: l => .cons (LeAV.refl a) (LeL.app h l)
theorem encs_appV (l m : List Term) : encs (l ++ m) = encs l ++ encs m := by rw [encs_eq, encs_eq, encs_eq, List.flatMap_append]
theorem encs_oneV (u : Term) : encs [u] = cellsT u := by rw [encs_eq]; simp
theorem le_listV {done : List Term} {i sz : Nat} {tok : Tok} (hdl : done.length = i) (hsz : i = 0 ∨ sz = 4) : LeAV (.list sz (encs done) i tok) (.list 4 (encs done) done.length .none) := by
 subst hdl
 rcases hsz with h0 | rfl
 ·have : done = [] := List.eq_nil_of_length_eq_zero h0
  subst this
  intro G W v hr
  rw [encs_nil] at hr ⊢
  exact LeAV.nil _ _ _ G W v hr
 ·exact LeAV.list _ _ _ _
theorem val_get {vs : List Va} {n : Int} (h0 : 0 ≤ n) (h1 : n < (vs.length : Int)) : ∃ r, (encVs vs).drop (n.toNat * 8) = cellsV (valAt vs n) ++ r := by
 have hn1 : n.toNat < vs.length := by omega
 obtain ⟨v, hv⟩ : ∃ v, vs[n.toNat]? = some v := ⟨_, List.getElem?_eq_getElem hn1⟩
 have hva : valAt vs n = v := by rw [valAt, List.getD_eq_getElem?_getD, hv]; rfl
 rw [hva]
 exact encVs_at vs n.toNat hv
theorem cDr_twoV {cl : List CO} {i j : Nat} {st st' : List Nat} {p q : Plan} {K : AK} {T : Pend} {τ : Env} {h : AHeap} (h1 : cDr Tryz.prog cl K (.one i st p) T τ h) (h2 : cDr Tryz.prog cl K (.one j st' q) T τ h) : cDr Tryz.prog cl K (.two i st p j st' q) T τ h := ⟨h1, h2⟩
theorem build152 (e : Int) : aBuild Tryz.prog 152 [(0, .int .i64 e)] = some (.agg [.int .i64 e]) := by
 simp only [aBuild, ze_152, pl_152, aFill]
 rfl
theorem sizes_app : ∀ l m : List Term, sizes (l ++ m) = sizes l + sizes m
 | [], m => by rw [List.nil_append, sizes]; omega
 | t :: l, m => by rw [List.cons_append, sizes, sizes, sizes_app l m]; omega
theorem depL_pos (l : List Term) : 0 ≤ depL l := (dep_pos (sizes l)).2 l (Nat.le_refl _)
theorem depL_app : ∀ l m : List Term, depL (l ++ m) = max (depL l) (depL m)
 | [], m => by have := depL_pos m; rw [List.nil_append, depL]; omega
 | t :: l, m => by rw [List.cons_append, depL, depL, depL_app l m]; omega
theorem sizes_take {l : List Term} {i : Nat} {w : Term} (h : l[i]? = some w) : sizes (l.take (i + 1)) = sizes (l.take i) + w.size := by
 rw [List.take_add_one, h, sizes_app]
 simp only [Option.toList_some, sizes]; omega
theorem depL_take {l : List Term} {i : Nat} {w : Term} (h : l[i]? = some w) : depL (l.take (i + 1)) = max (depL (l.take i)) (dep w) := by
 have := (dep_pos w.size).1 w (Nat.le_refl _)
 rw [List.take_add_one, h, depL_app]
 simp only [Option.toList_some, depL]; omega
theorem sizes_take_le (l : List Term) (i : Nat) : sizes (l.take i) ≤ sizes l := by
 have := sizes_app (l.take i) (l.drop i)
 rw [List.take_append_drop] at this
 omega
structure VObj (T : TypeId) (vs : List Va) (tk : Tok) (p : Nat) (n : Int) (dp : Bool) (h0 h : AHeap) : Prop where
 less : HLess h h0
 obj : h p = some (.cells [.list 8 (encVs vs) vs.length tk, .int .i64 n, .bool dp] T)
theorem whole_am (vs : List Va) (hvs : vs.length ≤ 1000000) (tk : Tok) {d : Int} {t v : Term} (hv : Val vs d t v) : ∀ (n deep : Int) (dp : Bool) (p : Nat) (h0 h : AHeap) (Q : AOut → AHeap → Prop), 0 ≤ n → n ≤ 4000 → 0 ≤ d → d ≤ deep → deep ≤ n + 1 → h0 p = Option.none → VObj 164 vs tk p n dp h0 h →
  (∀ h2, n + v.size ≤ 4000 → VObj 164 vs tk p (n + v.size) (dp || decide (deep + dep v - 1 > 100)) h0 h2 → Q (.ret (enc v)) h2) →
  (∀ h2 dp', n + v.size > 4000 → VObj 164 vs tk p 4001 dp' h0 h2 → Q (.panic (.iface 152 (.agg [.int .i64 2]))) h2) →
  AmCalls Tryz.prog 123 [.ptr p 0, enc t, .int .i64 deep] h Q := by
 induction hv with
 | @mk d t k u l hs hn hl ha ih =>
  intro n deep dp p h0 h Q hn0 hn1 hd0 hdd hdn hp0 hV hq hpan
  have hx := hV.obj
  refine AmCalls.of_sem (fn := Tryz.f123) Tryz.func123 rfl (by kernel_rfl) (by rw [Tryz.ntmps123]; simp) (enters_of Tryz.func123 (by kernel_rfl) (by kernel_rfl)) ?_
  repeat first | ((with_reducible refine sS ?_); intro _ _ _ C_ R_ U_; simp only [go_sem, ↓reduceIte]; subst C_ R_ U_) | (with_reducible refine iR ?_; refine rG2 ?_) | with_reducible refine rS fun bq hbq => ?_
  intro b hb
  have hpb := ne_of_new hb hx
  repeat (((with_reducible refine sS ?_); intro _ _ _ C_ R_ U_; simp only [go_sem, ↓reduceIte]; subst C_ R_ U_))
  intro q hq'
  have e1 := fresh_if hq'
  have hpq := ne_of_new e1.2 hx
  refine run_next ?_; subst hbq
  repeat with_reducible refine run_seq fun bq hbq => ?_
  refine run_cutS (fun τ h' => τ 0 = .ptr p 0 ∧ τ 2 = .int .i64 deep ∧ τ 4 = .ptr b 0 ∧ τ 6 = .ptr q 0 ∧ HLess h' h ∧ h' b = some (.cells (cellsT u) 27) ∧ h' q = some (.cells [.int .i64 0, .int .i64 0, .str noNameS, .list 0 [] 0 .nil] 27)) ?_ fun τ h' hI => ?_
  ·repeat ((with_reducible refine rB fun cq hcq => ?_; subst hcq))
   refine run_loop (fun j τ h' => ∃ t', Heads vs d t' j u ∧ τ 0 = .ptr p 0 ∧ τ 2 = .int .i64 deep ∧ τ 4 = .ptr b 0 ∧ τ 6 = .ptr q 0 ∧ HLess h' h ∧ h' b = some (.cells (cellsT t') 27) ∧ h' q = some (.cells [.int .i64 0, .int .i64 0, .str noNameS, .list 0 [] 0 .nil] 27)) k ?_ ?_
   ·refine ⟨t, hs, ?_⟩
    simp only [go_sem, ↓reduceIte, e1.1, e1.1.symm]
    exact ((HLess.refl h).new hb).new e1.2
   intro c hc j τ h' hI
   obtain ⟨t', hs', f0, f2, f4, f6, hl', lb, lq⟩ := hI
   subst hc
   have hx' := hl' _ _ hx
   have hqb : q ≠ b := e1.1
   cases hs' with
   | zero =>
    cases h4 : (u.kind == 4)
    ·repeat with_reducible refine run_seq fun bq hbq => ?_
     refine run_draw (.take 0 (.take 1 (.take 2 (.take 3 (.take 4 (.take 5 (.take 6 (.take 7 (.take 8 (.take 9 (.take 10 (.take 11 (.take 12 (.take 13 (.take 14 (.done)))))))))))))))) (by kernel_rfl) (by simp only [compL, gtOf, nthDst]; exact rfl) ?_
     repeat first | ((first | (with_reducible refine sC ?_) | (with_reducible refine iT ?_; refine sT rfl ?_)); intro _ _ _ C_ R_ U_; simp only [go_sem, ↓reduceIte, f0, f2, f4, f6, lb, hx', h4]; subst C_ R_ U_) | (with_reducible refine rN ?_; subst hbq) | (with_reducible refine x1 ?_; clear hbq bq) | with_reducible first | refine nD ?_ | refine rXx ?_ | refine x3 ?_ | refine x4 ?_
     refine run_endcut ?_
     simp only [go_sem, ↓reduceIte, f0, f2, f4, f6]
     exact ⟨hl', lb, lq⟩
    ·have hv := hn.var h4
     obtain ⟨r, hr⟩ := val_get hv.1 hv.2.1
     have hr3 : List.drop (u.n.toNat * 8 + 3) (encVs vs) = .bool (valAt vs u.n).is :: (List.drop 4 (cellsV (valAt vs u.n)) ++ r) := by rw [← List.drop_drop, hr]; rfl
     rw [hv.2.2] at hr3
     repeat with_reducible refine run_seq fun bq hbq => ?_
     refine run_draw (.take 0 (.take 1 (.take 2 (.take 3 (.take 4 (.take 5 (.take 6 (.take 7 (.take 8 (.take 9 (.take 10 (.take 11 (.take 12 (.take 13 (.take 14 (.done)))))))))))))))) (by kernel_rfl) (by simp only [compL, gtOf, nthDst]; exact rfl) ?_
     repeat first | ((first | (with_reducible refine sC ?_) | (with_reducible refine iT ?_; refine sT rfl ?_)); intro _ _ _ C_ R_ U_; simp only [go_sem, ↓reduceIte, f0, f2, f4, f6, lb, hx', h4, hv.1, hv.2.1, hr3]; subst C_ R_ U_) | (with_reducible refine rN ?_; subst hbq) | (with_reducible refine x1 ?_; clear hbq bq) | with_reducible first | refine nD ?_ | refine rXx ?_ | refine x3 ?_ | refine x4 ?_
     refine run_endcut ?_
     simp only [go_sem, ↓reduceIte, f0, f2, f4, f6]
     exact ⟨hl', lb, lq⟩
   | @succ _ j _ h4 hi ok hs2 =>
    have h1 := ok.n0
    have h2 := ok.n1
    obtain ⟨r, hr⟩ := val_get h1 h2
    have hr3 : List.drop (t'.n.toNat * 8 + 3) (encVs vs) = .bool (valAt vs t'.n).is :: (List.drop 4 (cellsV (valAt vs t'.n)) ++ r) := by rw [← List.drop_drop, hr]; rfl
    have hr4 : List.drop (t'.n.toNat * 8 + 4) (encVs vs) = cellsT (valAt vs t'.n).t ++ r := by rw [← List.drop_drop, hr]; rfl
    rw [hi] at hr3
    have hln := ok.len
    have hbt : ((bodyF ((t'.args.length : Int)).toNat (valAt vs t'.n).t).1) = bodyOf vs t' := rfl
    have hb2 : (bodyF ((t'.args.length : Int)).toNat (valAt vs t'.n).t).2 = true := ok.body
    repeat with_reducible refine run_seq fun bq hbq => ?_
    refine run_draw (.take 0 (.take 1 (.take 2 (.take 3 (.take 4 (.take 5 (.take 6 (.take 7 (.take 8 (.take 9 (.take 10 (.take 11 (.take 12 (.take 13 (.take 14 (.done)))))))))))))))) (by kernel_rfl) (by simp only [compL, gtOf, nthDst]; exact rfl) ?_
    repeat first | ((first | (with_reducible refine sC ?_) | (with_reducible refine iT ?_; refine sT rfl ?_)); intro _ _ _ C_ R_ U_; simp only [go_sem, ↓reduceIte, f0, f2, f4, f6, lb, hx', h4, h1, h2, hr3]; subst C_ R_ U_) | (with_reducible refine rN ?_; subst hbq) | (with_reducible refine rB fun cq hcq => ?_; subst hcq) | with_reducible first | refine nD ?_ | refine rS fun bq hbq => ?_ | refine rK ?_
    refine run_cutS (fun τ' h'' => ∃ c, h' c = Option.none ∧ τ' 0 = .ptr p 0 ∧ τ' 2 = .int .i64 deep ∧ τ' 4 = .ptr b 0 ∧ τ' 6 = .ptr q 0 ∧ τ' 7 = .ptr c 0 ∧ h'' = upd h' c (some (.cells (cellsT (bodyOf vs t')) 27))) ?_ fun τ h' hI => ?_
    ·repeat with_reducible refine run_seq fun bq hbq => ?_
     refine run_draw (.take 0 (.take 1 (.take 2 (.take 3 (.take 4 (.take 5 (.take 6 (.take 7 (.take 8 (.take 9 (.take 10 (.take 11 (.take 12 (.two 13 [11, 6, 4] (.take 14 (.take 15 (.take 16 (.one 17 [11, 6, 4] (.one 18 [] (.take 19 (.done))))))) 17 [11, 9, 6, 4] (.one 13 [11, 6, 4] (.take 14 (.take 15 (.take 16 (.one 18 [] (.take 19 (.done))))))))))))))))))))) (by kernel_rfl) (by simp only [compL, gtOf, nthDst]; exact rfl) ?_
     repeat (((with_reducible refine iT ?_; refine sT rfl ?_); intro _ _ _ C_ R_ U_; simp only [go_sem, ↓reduceIte, f0, f2, f4, f6, lb, hx', h4, h1, h2, hr4]; subst C_ R_ U_))
     refine cDr_twoV ?_ ?_
     ·repeat (((with_reducible refine iO ?_; refine sO rfl ?_); intro _ _ _ C_ R_ U_; simp only [go_sem, ↓reduceIte, f0, f2, f4, f6, lb, hx', h4, h1, h2, hr4]; subst C_ R_ U_))
      refine body_am (valAt vs t'.n).t t'.args.length _ _ (by omega) ?_
      rw [hbt, hb2]
      try dsimp only
      repeat (((first | (with_reducible refine sA ?_) | (with_reducible refine iT ?_; refine sT rfl ?_) | (with_reducible refine iO ?_; refine sO rfl ?_)); intro _ _ _ C_ R_ U_; simp only [go_sem, ↓reduceIte, f0, f2, f4, f6, lb, hx', h4, h1, h2, hr4]; subst C_ R_ U_))
      intro c hc
      have hcb := ne_of_new hc lb
      have hcx := ne_of_new hc hx'
      repeat first | ((first | (with_reducible refine sA ?_) | (with_reducible refine iT ?_; refine sT rfl ?_) | (with_reducible refine i0 ?_; refine s0 rfl ?_)); intro _ _ _ C_ R_ U_; simp only [go_sem, ↓reduceIte, f0, f2, f4, f6, lb, hx', h4, h1, h2, hr4, hcb, hcx, hcb.symm, hcx.symm]; subst C_ R_ U_) | with_reducible refine nD ?_
      refine run_endcut ?_
      refine ⟨c, hc, ?_⟩
      simp only [go_sem, ↓reduceIte, f0, f2, f4, f6]
     ·repeat (((with_reducible refine iO ?_; refine sO rfl ?_); intro _ _ _ C_ R_ U_; simp only [go_sem, ↓reduceIte, f0, f2, f4, f6, lb, hx', h4, h1, h2, hr4]; subst C_ R_ U_))
      intro c hc
      have hcb := ne_of_new hc lb
      have hcx := ne_of_new hc hx'
      repeat (((first | (with_reducible refine sA ?_) | (with_reducible refine iO ?_; refine sO rfl ?_)); intro _ _ _ C_ R_ U_; simp only [go_sem, ↓reduceIte, f0, f2, f4, f6, lb, hx', h4, h1, h2, hr4, hcb, hcx, hcb.symm, hcx.symm]; subst C_ R_ U_))
      refine body_am (valAt vs t'.n).t t'.args.length _ _ (by omega) ?_
      rw [hbt, hb2]
      try dsimp only
      repeat first | ((first | (with_reducible refine sA ?_) | (with_reducible refine iT ?_; refine sT rfl ?_) | (with_reducible refine i0 ?_; refine s0 rfl ?_)); intro _ _ _ C_ R_ U_; simp only [go_sem, ↓reduceIte, f0, f2, f4, f6, lb, hx', h4, h1, h2, hr4, hcb, hcx, hcb.symm, hcx.symm]; subst C_ R_ U_) | with_reducible refine nD ?_
      refine run_endcut ?_
      refine ⟨c, hc, ?_⟩
      simp only [go_sem, ↓reduceIte, f0, f2, f4, f6]
    clear f0 f2 f4 f6
    obtain ⟨c, hc0, f0, f2, f4, f6, f7, rfl⟩ := hI
    subst hbq
    have hcb := ne_of_new hc0 lb
    have hcx := ne_of_new hc0 hx'
    have hcq := ne_of_new hc0 lq
    have hsb : (bodyOf vs t').size ≤ 4000 := Nat.le_trans (body_size _ _) ok.size
    repeat first | ((with_reducible refine sS ?_); intro _ _ _ C_ R_ U_; simp only [go_sem, ↓reduceIte, f0, f2, f4, f6, f7, lb, hcb, hcb.symm]; subst C_ R_ U_) | (with_reducible refine iR ?_; refine rG2 ?_)
    refine filled_am 4000 (bodyOf vs t') t'.args 0 _ _ hsb (Int.le_refl _) (by omega) (by omega) (fun u hu => ?_) ok.fill ?_
    ·have hu1 := ok.args u hu
     rcases (simple_kind hu1.1).1 with e | e
     ·have := hu1.2.2.1 e; omega
     ·have := hu1.2.2.2 e; omega
    try dsimp only
    repeat first | ((with_reducible refine sS ?_); intro _ _ _ C_ R_ U_; simp only [go_sem, ↓reduceIte, f0, f2, f4, f6, f7, lb, hcb, hcb.symm]; subst C_ R_ U_) | with_reducible first | refine nS ?_ | refine rE ?_
    refine run_loopN (m := j) (by omega) ⟨_, hs2, ?_⟩
    simp only [go_sem, ↓reduceIte, f0, f2, f4, f6, hqb, lq, hcb, hcb.symm, hcq, hcq.symm]
    exact (hl'.new (hl'.none hc0)).new hb
  obtain ⟨f0, f2, f4, f6, hl', lb, lq⟩ := hI
  subst hbq
  have hx' := hl' _ _ hx
  repeat first | ((with_reducible first | refine sS ?_ | refine sC ?_); intro _ _ _ C_ R_ U_; simp only [go_sem, ↓reduceIte, f0, f2, f4, f6, hx', wrapI (n + 1) (by omega)]; subst C_ R_ U_) | (with_reducible refine rN ?_; subst hbq) | (with_reducible refine iR ?_; refine rG2 ?_) | with_reducible first | refine nS ?_ | refine rS fun bq hbq => ?_
  have hm : HLess h' (upd h p Option.none) := fun i o hi => by
   by_cases e : i = p
   ·subst e; rw [upd_same] at hi; cases hi
   ·rw [upd_other _ _ e] at hi; exact hl' i o hi
  have hm0 : HLess (upd h p Option.none) h0 := fun i o hi => by
   by_cases e : i = p
   ·subst e; rw [hp0] at hi; cases hi
   ·rw [upd_other _ _ e]; exact hV.less i o hi
  cases hbig : decide (n + 1 > 4000)
  case true =>
   have hb1 : n + 1 > 4000 := by simpa using hbig
   try dsimp only
   repeat first | ((with_reducible refine sS ?_); intro _ _ _ C_ R_ U_; simp only [go_sem, ↓reduceIte, f0, f2, f4, f6, hbig, build152]; subst C_ R_ U_) | (with_reducible refine iR ?_; refine rG2 ?_)
   refine p1 (pL (HLess.refl _) (hpan _ dp ?_ ⟨(hm.new (upd_same _ _ _)).trans hm0, ?_⟩))
   ·rw [Term.size]; omega
   ·rw [upd_same, show n + 1 = 4001 by omega]
  case false =>
   have hb1 : ¬ n + 1 > 4000 := by simpa using hbig
   have hpr : b ≠ p := fun e => hpb e.symm
   have hqr : q ≠ p := fun e => hpq e.symm
   simp only [hbig]
   refine run_skip ?_
   refine run_next ?_; subst hbq
   repeat with_reducible refine run_seq fun bq hbq => ?_
   refine run_cutS (fun τ' h'' => τ' 0 = .ptr p 0 ∧ τ' 2 = .int .i64 deep ∧ τ' 4 = .ptr b 0 ∧ τ' 6 = .ptr q 0 ∧ h'' = upd h' p (some (.cells [.list 8 (encVs vs) vs.length tk, .int .i64 (n + 1), .bool (dp || decide (deep > 100))] 164))) ?_ fun τ h' hI => ?_
   ·cases hdp : dp
    all_goals
     repeat first | ((with_reducible refine sS ?_); intro _ _ _ C_ R_ U_; simp only [go_sem, ↓reduceIte, f0, f2, f4, f6, hdp]; subst C_ R_ U_) | (with_reducible refine iR ?_; refine rG2 ?_) | with_reducible refine nS ?_
     refine run_endcut ?_
     simp only [go_sem, ↓reduceIte, f0, f2, f4, f6, hdp]
   clear f0 f2 f4 f6
   obtain ⟨f0, f2, f4, f6, rfl⟩ := hI
   subst hbq
   have sp : (upd h' p (some (AObj.cells [.list 8 (encVs vs) vs.length tk, .int .i64 (n + 1), .bool (dp || decide (deep > 100))] 164))) p = some (.cells [.list 8 (encVs vs) vs.length tk, .int .i64 (n + 1), .bool (dp || decide (deep > 100))] 164) := upd_same _ _ _
   have sb : (upd h' p (some (AObj.cells [.list 8 (encVs vs) vs.length tk, .int .i64 (n + 1), .bool (dp || decide (deep > 100))] 164))) b = some (.cells (cellsT u) 27) := by rw [upd_other _ _ hpr]; exact lb
   have sq : (upd h' p (some (AObj.cells [.list 8 (encVs vs) vs.length tk, .int .i64 (n + 1), .bool (dp || decide (deep > 100))] 164))) q = some (.cells [.int .i64 0, .int .i64 0, .str noNameS, .list 0 [] 0 .nil] 27) := by rw [upd_other _ _ hqr]; exact lq
   have hmH : HLess (upd h' p (some (AObj.cells [.list 8 (encVs vs) vs.length tk, .int .i64 (n + 1), .bool (dp || decide (deep > 100))] 164))) (upd h p Option.none) := hm.new (upd_same _ _ _)
   generalize upd h' p (some (AObj.cells [.list 8 (encVs vs) vs.length tk, .int .i64 (n + 1), .bool (dp || decide (deep > 100))] 164)) = H at *
   repeat first | ((with_reducible refine sS ?_); intro _ _ _ C_ R_ U_; simp only [go_sem, ↓reduceIte, f0, f2, f4, f6, sb, sp, sq]; subst C_ R_ U_) | (with_reducible refine iR ?_; refine rG2 ?_) | with_reducible refine rS fun bq hbq => ?_
   intro r hr
   have hrb := ne_of_new hr sb
   have hrp := ne_of_new hr sp
   have hrq := ne_of_new hr sq
   repeat first | ((with_reducible refine sS ?_); intro _ _ _ C_ R_ U_; simp only [go_sem, ↓reduceIte, f0, f2, f4, f6, sb, sp, sq, hrb, hrb.symm, hrp, hrp.symm, hrq, hrq.symm]; subst C_ R_ U_) | (with_reducible refine rN ?_; subst hbq) | (with_reducible refine iR ?_; refine rG2 ?_) | (with_reducible refine rB fun cq hcq => ?_; subst hcq) | with_reducible first | refine nS ?_ | refine rS fun bq hbq => ?_
   have hM : ∀ x, x ≠ p → h x = Option.none → (upd h p Option.none) x = Option.none := fun x hx hn => by rw [upd_other _ _ hx]; exact hn
   have hMp : (upd h p Option.none) p = Option.none := upd_same _ _ _
   have hrM : (upd h p Option.none) r = Option.none := hmH.none hr
   have hqM : (upd h p Option.none) q = Option.none := hM q hqr e1.2
   generalize upd h p Option.none = M at *
   refine run_loop (fun kk τ h2 => ∃ (i sz : Nat) (tok : Tok), kk + i = u.args.length ∧ τ 0 = .ptr p 0 ∧ τ 2 = .int .i64 deep ∧ τ 6 = .ptr q 0 ∧ τ 9 = .ptr r 0 ∧ τ 76 = .list 4 (encs u.args) u.args.length .none ∧ τ 77 = .int .i64 u.args.length ∧ τ 78 = .int .i64 i ∧ HLess h2 M ∧ h2 p = some (.cells [.list 8 (encVs vs) vs.length tk, .int .i64 (n + 1 + sizes (l.take i)), .bool (dp || decide (deep + depL (l.take i) > 100))] 164) ∧ h2 q = some (.cells [.int .i64 0, .int .i64 0, .str noNameS, .list 0 [] 0 .nil] 27) ∧ h2 r = some (.cells [.int .i64 u.kind, .int .i64 u.n, .str u.name, .list sz (encs (l.take i)) i tok] 27) ∧ Grow 27 M h2 tok ∧ (i = 0 ∨ sz = 4) ∧ n + 1 + sizes (l.take i) ≤ 4000) u.args.length ?_ ?_
   ·refine ⟨0, 0, .nil, rfl, ?_⟩
    simp only [go_sem, ↓reduceIte, f0, f2, f6, List.take_zero, encs_nil, sizes, depL, sp, sq, hrp, hrp.symm, hrq, hrq.symm]
    refine ⟨rfl, hmH.new hrM, by simp, .inl (.inr rfl), ?_⟩
    simp; omega
   intro c hc kk τ h2 hI
   clear f0 f2 f6
   obtain ⟨i, sz, tok, hk, f0, f2, f6, f9, f76, f77, f78, hl2, lp, lq2, lr, hg, hsz0, hn4⟩ := hI
   subst hc
   have hlen8 := hn.len
   by_cases hi : i < u.args.length
   ·obtain ⟨a, hau⟩ : ∃ a, u.args[i]? = some a := ⟨_, List.getElem?_eq_getElem hi⟩
    obtain ⟨w, hw⟩ : ∃ w, l[i]? = some w := ⟨_, List.getElem?_eq_getElem (by omega)⟩
    obtain ⟨rr, hrr⟩ := encs_at u.args i hau
    repeat first | ((with_reducible first | refine sS ?_ | refine sC ?_); intro _ _ _ C_ R_ U_; simp only [go_sem, ↓reduceIte, f0, f2, f6, f9, f76, f77, f78, hi, hrr]; subst C_ R_ U_) | (with_reducible refine rN ?_; subst hbq) | (with_reducible refine iR ?_; refine rG2 ?_) | (with_reducible refine rB fun cq hcq => ?_; subst hcq) | with_reducible first | refine nS ?_ | refine rS fun bq hbq => ?_ | refine rK ?_
    intro x hx
    have hxp := ne_of_new hx lp
    have hxr := ne_of_new hx lr
    have hxq := ne_of_new hx lq2
    repeat first | ((with_reducible refine sS ?_); intro _ _ _ C_ R_ U_; simp only [go_sem, ↓reduceIte, f0, f2, f6, f9, f76, f77, f78, hi, hrr]; subst C_ R_ U_) | (with_reducible refine rN ?_; subst hbq) | with_reducible refine nS ?_
    repeat with_reducible refine run_seq fun bq hbq => ?_
    refine run_draw (.take 0 (.take 1 (.take 2 (.take 3 (.take 4 (.take 5 (.one 6 [1] (.take 7 (.one 8 [] (.take 9 (.one 10 [] (.done)))))))))))) (by kernel_rfl) (by simp only [compL, gtOf, nthDst]; exact rfl) ?_
    repeat (((first | (with_reducible refine iT ?_; refine sT rfl ?_) | (with_reducible refine iO ?_; refine sO rfl ?_)); intro _ _ _ C_ R_ U_; simp only [go_sem, ↓reduceIte, f0, f2, f6, f9, f76, f77, f78, lp, lr, lq2, hxp, hxp.symm, hxr, hxr.symm, hxq, hxq.symm, wrapI (deep + 1) (by omega)]; subst C_ R_ U_))
    have hl3 : HLess (upd h2 x (some (AObj.cells (cellsT a) 27))) M := hl2.new (hl2.none hx)
    have lp3 : (upd h2 x (some (AObj.cells (cellsT a) 27))) p = some (.cells [.list 8 (encVs vs) vs.length tk, .int .i64 (n + 1 + sizes (l.take i)), .bool (dp || decide (deep + depL (l.take i) > 100))] 164) := by rw [upd_other _ _ hxp]; exact lp
    have lr3 : (upd h2 x (some (AObj.cells (cellsT a) 27))) r = some (.cells [.int .i64 u.kind, .int .i64 u.n, .str u.name, .list sz (encs (l.take i)) i tok] 27) := by rw [upd_other _ _ hxr]; exact lr
    have lq3 : (upd h2 x (some (AObj.cells (cellsT a) 27))) q = some (.cells [.int .i64 0, .int .i64 0, .str noNameS, .list 0 [] 0 .nil] 27) := by rw [upd_other _ _ hxq]; exact lq2
    have hg3 : Grow 27 M (upd h2 x (some (AObj.cells (cellsT a) 27))) tok := by
     rcases hg with e | ⟨f, ef, hf, hf0⟩
     ·exact .inl e
     ·exact .inr ⟨f, ef, by rw [upd_other _ _ (ne_of_new hx hf)]; exact hf, hf0⟩
    have hst := sizes_take hw
    have hsl := sizes_take_le l (i + 1)
    have hdt := depL_take hw
    have hin : inner u.kind d ≤ deep + 1 := by unfold inner; split <;> omega
    refine ih i a w hau hw (n + 1 + sizes (l.take i)) (deep + 1) _ p (upd (upd h2 x (some (AObj.cells (cellsT a) 27))) p Option.none) _ _ (by omega) hn4 (inner_pos hd0) hin (by omega) (upd_same _ _ _) ⟨fun j o hj => ?_, lp3⟩ ?_ ?_
    ·by_cases e : j = p
     ·subst e; rw [upd_same] at hj; cases hj
     ·rw [upd_other _ _ e] at hj; exact hj
    ·intro h4 hsz4 hV4
     have hl4 : HLess h4 M := fun j o hj => hV4.less j o (by
      have e : j ≠ p := fun e => by subst e; rw [hMp] at hj; cases hj
      rw [upd_other _ _ e]; exact hl3 j o hj)
     have lp4 := hV4.obj
     have lr4 := hV4.less r _ (by rw [upd_other _ _ hrp.symm]; exact lr3)
     have lq4 := hV4.less q _ (by rw [upd_other _ _ hqr]; exact lq3)
     have hg4 : Grow 27 M h4 tok := by
      rcases hg3 with e | ⟨f, ef, hf, hf0⟩
      ·exact .inl e
      ·refine .inr ⟨f, ef, hV4.less f _ ?_, hf0⟩
       rw [upd_other _ _ (fun e => by subst e; rw [lp3] at hf; cases hf)]
       exact hf
     try dsimp only
     repeat (((first | (with_reducible refine sA ?_) | (with_reducible refine iT ?_; refine sT rfl ?_) | (with_reducible refine i0 ?_; refine s0 rfl ?_)); intro _ _ _ C_ R_ U_; simp only [go_sem, ↓reduceIte, f0, f2, f6, f9, f76, f77, f78, lp4, lr4, lq4, build_term]; subst C_ R_ U_))
     refine cAppend_list ?_
     simp only [go_sem, ↓reduceIte]
     intro y hy
     obtain ⟨h5, ea, hg5, hl5, keep⟩ := append_grow el_25 el_25 sz_27 by_27 ze_27 ⟨rfl, by decide⟩ (h0 := M) (h := h4) (p := y) hl4 hy (sz1 := sz) (c1 := encs (l.take i)) (n1 := i) (t := tok) (c2 := cellsT w) (n2 := 1) (t2 := .full) hg4 hsz0 (sz2 := 4) rfl (by decide) (by omega)
     have r5 := keep r _ _ lr4
     have q5 := keep q _ _ lq4
     have p5' := keep p _ _ lp4
     simp only [ea, go_sem, ↓reduceIte, f9, r5]
     repeat first | ((with_reducible refine sS ?_); intro _ _ _ C_ R_ U_; simp only [go_sem, ↓reduceIte, f78, f9, r5, wrapI ((i : Int) + 1) (by omega)]; subst C_ R_ U_) | (with_reducible refine rN ?_; subst hbq) | (with_reducible refine iR ?_; refine rG2 ?_) | with_reducible first | refine nS ?_ | refine rE ?_
     refine run_loopN (m := kk - 1) (by omega) ⟨i + 1, 4, .id y, by omega, ?_⟩
     have htk : l.take (i + 1) = l.take i ++ [w] := by rw [List.take_add_one, hw]; rfl
     have hflag : (dp || decide (deep + depL (l.take i) > 100) || decide (deep + 1 + dep w - 1 > 100)) = (dp || decide (deep + max (depL (l.take i)) (dep w) > 100)) := by
      rw [Bool.or_assoc]
      congr 1
      rw [← Bool.decide_or]
      exact decide_eq_decide.2 (by omega)
     rw [hst, hdt, htk]
     simp only [go_sem, ↓reduceIte, f0, f2, f6, f9, f76, f77, f78, encs_appV, encs_oneV, hrp, hrp.symm, hrq, hrq.symm, p5', q5]
     refine ⟨rfl, hl5.new hrM, ?_, ?_, by simp, by omega⟩
     ·rw [hflag, show n + 1 + (sizes (l.take i) : Int) + w.size = n + 1 + ((sizes (l.take i) + w.size : Nat) : Int) by omega]
     ·rcases hg5 with e | ⟨f, ef, hf, hf0⟩
      ·rcases e with e | e <;> cases e
      ·injection ef with ef; subst ef
       exact .inr ⟨y, rfl, by rw [upd_other _ _ (by intro e; rw [e, r5] at hf; cases hf)]; exact hf, hf0⟩
    ·intro h4 dp' hsz4 hV4
     have hl4 : HLess h4 M := fun j o hj => hV4.less j o (by
      have e : j ≠ p := fun e => by subst e; rw [hMp] at hj; cases hj
      rw [upd_other _ _ e]; exact hl3 j o hj)
     dsimp only
     refine p4 (p1 (p3 (p4 (p1 (pL (HLess.refl _) (hpan _ dp' ?_ ⟨hl4.trans hm0, hV4.obj⟩))))))
     rw [Term.size]; omega
   ·have hlt : l.take i = l := List.take_of_length_le (by omega)
    rw [hlt] at lp lr hn4
    have hi' : i = l.length := by omega
    repeat first | ((with_reducible first | refine sS ?_ | refine sC ?_); intro _ _ _ C_ R_ U_; simp only [go_sem, ↓reduceIte, f0, f2, f6, f9, f76, f77, f78, hi, lr, lq2, hrq, hrq.symm]; subst C_ R_ U_) | (with_reducible refine rN ?_; subst hbq) | (with_reducible refine iR ?_; refine rG2 ?_) | (with_reducible refine x1 ?_; clear hbq bq) | with_reducible first | refine nS ?_ | refine rS fun bq hbq => ?_ | refine rXx ?_ | refine rR ?_ | refine x3 ?_ | refine x4 ?_
    refine last_as (v := enc ⟨u.kind, u.n, u.name, l⟩) (by rw [Tryz.results123]) (HLess.refl _) ?_ (hq _ ?_ ⟨(hl2.new hqM).trans hm0, ?_⟩)
    ·simp only [go_sem, ↓reduceIte, f6, aPack, Option.some.injEq, exists_eq_left']
     exact LeAV.agg (.cons (LeAV.refl _) (.cons (LeAV.refl _) (.cons (LeAV.refl _) (.cons (le_listV hi'.symm hsz0) .nil))))
    ·rw [Term.size]; omega
    ·rw [upd_other _ _ hpq, lp, Term.size, dep, show n + 1 + (sizes l : Int) = n + ((sizes l + 1 : Nat) : Int) by omega, show deep + (depL l + 1) - 1 = deep + depL l by omega]
def valErr (v : Term) : Int := if (v.size : Int) > 4000 then 2 else if dep v > 100 then 5 else 0
def valOut (v : Term) : Term := if valErr v == 0 then v else noTerm
theorem build164 (cs : List AV) (n : Nat) (tk : Tok) : aBuild Tryz.prog 164 [(0, .agg [.list 8 cs n tk])] = some (.agg [.list 8 cs n tk, .int .i64 0, .bool false]) := by
 simp only [aBuild, ze_164, pl_164, aFill]
 rfl
theorem le_zeroT : LeAV (.agg [.int .i64 0, .int .i64 0, .str noNameS, .list 0 [] 0 .nil]) (enc noTerm) := by
 refine LeAV.agg (.cons (LeAV.refl _) (.cons (LeAV.refl _) (.cons (LeAV.refl _) (.cons ?_ .nil))))
 rw [show noTerm.args = [] from rfl, encs_nil]
 exact LeAV.nil _ _ _
theorem run_lastnorm {P : Program} {h : AHeap} {fn : Func} {Q : AOut → AHeap → Prop} {τ : Env} {rs : List ResultVar} {h' : AHeap} (hr : fn.results.toList = rs) (hl : HLess h h') (hs : ∃ vs, aResL P τ h rs = some vs ∧ Q (.ret (aPack vs)) h') : bodyK P fn Q .normal τ h := by
 subst hr
 obtain ⟨vs, hv, hq⟩ := hs
 exact ⟨vs, hv, _, h', WeakV.of (LeAV.refl _) hl, hq⟩
theorem valClo_am (vs : List Va) (hvs : vs.length ≤ 1000000) (tk : Tok) {t v : Term} (hv : Val vs 0 t v) (x c b o : Nat) (h0 h : AHeap) (hx0 : h0 x = Option.none) (ho0 : h0 o = Option.none) (hc : h c = some (.cells [.ptr x 0] 162)) (hb : h b = some (.cells (cellsT t) 27)) (ho : h o = some (.cells [.int .i64 0, .int .i64 0, .str noNameS, .list 0 [] 0 .nil] 27))
  (hx : h x = some (.cells [.list 8 (encVs vs) vs.length tk, .int .i64 0, .bool false] 164)) (hl : HLess h h0) (Q : AOut → AHeap → Prop)
  (hq : ∀ h2 N, (v.size : Int) ≤ 4000 → HLess h2 h0 → h2 o = some (.cells (cellsT v) 27) → h2 x = some (.cells [.list 8 (encVs vs) vs.length tk, .int .i64 N, .bool (decide (dep v > 100))] 164) → Q (.ret (.tuple [])) h2)
  (hp : ∀ h2, (v.size : Int) > 4000 → HLess h2 h0 → Q (.panic (.iface 152 (.agg [.int .i64 2]))) h2) : AmCalls Tryz.prog 122 [.ptr c 0, .ptr b 0, .ptr o 0] h Q := by
 have hxo : x ≠ o := fun e => by subst e; rw [hx] at ho; injection ho with ho; injection ho with _ ho; cases ho
 refine AmCalls.of_sem (fn := Tryz.f122) Tryz.func122 rfl (by kernel_rfl) (by rw [Tryz.ntmps122]; simp) (enters_of Tryz.func122 (by kernel_rfl) (by kernel_rfl)) ?_
 repeat first | ((with_reducible refine sS ?_); intro _ _ _ C_ R_ U_; simp only [go_sem, ↓reduceIte, hc, hb]; subst C_ R_ U_) | (with_reducible refine iR ?_; refine rG2 ?_)
 have hself : HLess h (upd h x Option.none) := fun j y hj => by
  by_cases e : j = x
  ·subst e; rw [upd_same] at hj; cases hj
  ·rw [upd_other _ _ e] at hj; exact hj
 have h0x : HLess (upd h x Option.none) h0 := fun j y hj => by
  have e : j ≠ x := fun e => by subst e; rw [hx0] at hj; cases hj
  rw [upd_other _ _ e]; exact hl j y hj
 refine whole_am vs hvs tk hv 0 1 false x (upd h x Option.none) _ _ (by decide) (by decide) (Int.le_refl _) (by decide) (by decide) (upd_same _ _ _) ⟨hself, hx⟩ ?_ ?_
 ·intro h2 hsz hV
  have ho2 := hV.less o _ (by rw [upd_other _ _ hxo.symm]; exact ho)
  have hx2 := hV.obj
  try dsimp only
  repeat first | ((with_reducible refine sS ?_); intro _ _ _ C_ R_ U_; simp only [go_sem, ↓reduceIte, ho2]; subst C_ R_ U_) | with_reducible refine nS ?_
  refine run_lastnorm (by rw [Tryz.results122]) (HLess.refl _) ⟨[], rfl, hq _ (v.size : Int) (by omega) ((hV.less.trans h0x).new ho0) (upd_same _ _ _) ?_⟩
  rw [upd_other _ _ hxo, hx2, Bool.false_or, show 1 + dep v - 1 = dep v by omega, Int.zero_add]
 ·intro h2 dp hsz hV
  dsimp only
  exact pL (HLess.refl _) (hp h2 (by omega) (hV.less.trans h0x))
theorem value_am (vs : List Va) (hvs : vs.length ≤ 1000000) (tk : Tok) {t v : Term} (hv : Val vs 0 t v) (h : AHeap) (Q : AOut → AHeap → Prop) (hq : Q (.ret (.tuple [enc (valOut v), .int .i64 (valErr v)])) h) :
  AmCalls Tryz.prog 75 [.agg [.list 8 (encVs vs) vs.length tk], enc t] h Q := by
 refine AmCalls.of_sem (fn := Tryz.f75) Tryz.func75 rfl (by kernel_rfl) (by rw [Tryz.ntmps75]; simp) (enters_of Tryz.func75 (by kernel_rfl) (by kernel_rfl)) ?_
 repeat first | ((with_reducible refine sS ?_); intro _ _ _ C_ R_ U_; simp only [go_sem, ↓reduceIte]; subst C_ R_ U_) | (with_reducible refine iR ?_; refine rG2 ?_) | with_reducible refine rS fun bq hbq => ?_
 intro a ha
 repeat (((with_reducible refine sS ?_); intro _ _ _ C_ R_ U_; simp only [go_sem, ↓reduceIte]; subst C_ R_ U_))
 intro b hb
 have e1 := fresh_if hb
 repeat (((with_reducible refine sS ?_); intro _ _ _ C_ R_ U_; simp only [go_sem, ↓reduceIte, e1.1, e1.1.symm]; subst C_ R_ U_))
 intro q hq'
 have e2 := fresh_if hq'
 have e3 := fresh_if e2.2
 repeat first | ((with_reducible refine sS ?_); intro _ _ _ C_ R_ U_; simp only [go_sem, ↓reduceIte, e1.1, e1.1.symm, e2.1, e2.1.symm, e3.1, e3.1.symm, build164]; subst C_ R_ U_) | (with_reducible refine rN ?_; subst hbq) | (with_reducible refine iR ?_; refine rG2 ?_) | with_reducible first | refine nS ?_ | refine rS fun bq hbq => ?_
 intro x hx0
 have hx : upd (upd (upd h a (some (AObj.cells [.list 8 (encVs vs) vs.length tk] 24))) b (some (AObj.cells (cellsT t) 27))) q (some (AObj.cells [.int .i64 0, .int .i64 0, .str ⟨#[]⟩, .list 0 [] 0 .nil] 27)) x = Option.none := hx0
 have sb : upd (upd (upd h a (some (AObj.cells [.list 8 (encVs vs) vs.length tk] 24))) b (some (AObj.cells (cellsT t) 27))) q (some (AObj.cells [.int .i64 0, .int .i64 0, .str ⟨#[]⟩, .list 0 [] 0 .nil] 27)) b = some (.cells (cellsT t) 27) := by rw [upd_other _ _ e2.1.symm, upd_same]
 have sq : upd (upd (upd h a (some (AObj.cells [.list 8 (encVs vs) vs.length tk] 24))) b (some (AObj.cells (cellsT t) 27))) q (some (AObj.cells [.int .i64 0, .int .i64 0, .str ⟨#[]⟩, .list 0 [] 0 .nil] 27)) q = some (AObj.cells [.int .i64 0, .int .i64 0, .str ⟨#[]⟩, .list 0 [] 0 .nil] 27) := upd_same _ _ _
 have fin : HLess (upd (upd (upd h a (some (AObj.cells [.list 8 (encVs vs) vs.length tk] 24))) b (some (AObj.cells (cellsT t) 27))) q (some (AObj.cells [.int .i64 0, .int .i64 0, .str ⟨#[]⟩, .list 0 [] 0 .nil] 27))) h := (((HLess.refl h).new ha).new e1.2).new e3.2
 clear hx0
 generalize upd (upd (upd h a (some (AObj.cells [.list 8 (encVs vs) vs.length tk] 24))) b (some (AObj.cells (cellsT t) 27))) q (some (AObj.cells [.int .i64 0, .int .i64 0, .str ⟨#[]⟩, .list 0 [] 0 .nil] 27)) = H at *
 have hxb := ne_of_new hx sb
 have hxq := ne_of_new hx sq
 repeat (((with_reducible refine sS ?_); intro _ _ _ C_ R_ U_; simp only [go_sem, ↓reduceIte, sb, sq, hxb, hxb.symm, hxq, hxq.symm]; subst C_ R_ U_))
 intro c hc0
 have hc1 := fresh_if hc0
 have hcx := hc1.1
 have hcb := ne_of_new hc1.2 sb
 have hcq := ne_of_new hc1.2 sq
 repeat first | ((with_reducible refine sS ?_); intro _ _ _ C_ R_ U_; simp only [go_sem, ↓reduceIte, sb, sq, hxb, hxb.symm, hxq, hxq.symm, hcx, hcx.symm, hcb, hcb.symm, hcq, hcq.symm]; subst C_ R_ U_) | (with_reducible refine rN ?_; subst hbq) | (with_reducible refine iR ?_; refine rG2 ?_) | with_reducible first | refine nS ?_ | refine rS fun bq hbq => ?_
 intro o ho0
 have ho1 := fresh_if ho0
 have ho2 := fresh_if ho1.2
 have hob := ne_of_new ho2.2 sb
 have hoq := ne_of_new ho2.2 sq
 have hoc := ho1.1
 have hox := ho2.1
 repeat first | ((with_reducible refine sS ?_); intro _ _ _ C_ R_ U_; simp only [go_sem, ↓reduceIte, sb, sq, hxb, hxb.symm, hxq, hxq.symm, hcx, hcx.symm, hcb, hcb.symm, hcq, hcq.symm, hob, hob.symm, hoq, hoq.symm, hoc, hoc.symm, hox, hox.symm]; subst C_ R_ U_) | (with_reducible refine rN ?_; subst hbq) | (with_reducible refine iR ?_; refine rG2 ?_) | with_reducible first | refine nS ?_ | refine rS fun bq hbq => ?_
 have tx : upd (upd (upd H x (some (AObj.cells [.list 8 (encVs vs) vs.length tk, .int .i64 0, .bool false] 164))) c (some (AObj.cells [.ptr x 0] 162))) o (some (AObj.cells [.int .i64 0, .int .i64 0, .str ⟨#[]⟩, .list 0 [] 0 .nil] 27)) x = some (.cells [.list 8 (encVs vs) vs.length tk, .int .i64 0, .bool false] 164) := by rw [upd_other _ _ hox.symm, upd_other _ _ hcx.symm, upd_same]
 have tc : upd (upd (upd H x (some (AObj.cells [.list 8 (encVs vs) vs.length tk, .int .i64 0, .bool false] 164))) c (some (AObj.cells [.ptr x 0] 162))) o (some (AObj.cells [.int .i64 0, .int .i64 0, .str ⟨#[]⟩, .list 0 [] 0 .nil] 27)) c = some (.cells [.ptr x 0] 162) := by rw [upd_other _ _ hoc.symm, upd_same]
 have to_ : upd (upd (upd H x (some (AObj.cells [.list 8 (encVs vs) vs.length tk, .int .i64 0, .bool false] 164))) c (some (AObj.cells [.ptr x 0] 162))) o (some (AObj.cells [.int .i64 0, .int .i64 0, .str ⟨#[]⟩, .list 0 [] 0 .nil] 27)) o = some (AObj.cells [.int .i64 0, .int .i64 0, .str ⟨#[]⟩, .list 0 [] 0 .nil] 27) := upd_same _ _ _
 have tH : HLess (upd (upd (upd H x (some (AObj.cells [.list 8 (encVs vs) vs.length tk, .int .i64 0, .bool false] 164))) c (some (AObj.cells [.ptr x 0] 162))) o (some (AObj.cells [.int .i64 0, .int .i64 0, .str ⟨#[]⟩, .list 0 [] 0 .nil] 27))) H := (((HLess.refl H).new hx).new hc1.2).new ho2.2
 clear hc0 ho0
 generalize upd (upd (upd H x (some (AObj.cells [.list 8 (encVs vs) vs.length tk, .int .i64 0, .bool false] 164))) c (some (AObj.cells [.ptr x 0] 162))) o (some (AObj.cells [.int .i64 0, .int .i64 0, .str ⟨#[]⟩, .list 0 [] 0 .nil] 27)) = H1 at *
 have tb := tH _ _ sb
 have tq := tH _ _ sq
 have hxo : x ≠ o := fun e => hox e.symm
 have key : AmCalls Tryz.prog 59 [.func (.func 122) [] [.ptr c 0, .ptr b 0, .ptr o 0]] H1 fun out h3 => HLess h3 (upd (upd H1 x Option.none) o Option.none) ∧
   (((v.size : Int) ≤ 4000 ∧ out = .ret (.tuple [.bool true, .int .i64 0]) ∧ h3 o = some (.cells (cellsT v) 27) ∧ ∃ N, h3 x = some (.cells [.list 8 (encVs vs) vs.length tk, .int .i64 N, .bool (decide (dep v > 100))] 164)) ∨ ((v.size : Int) > 4000 ∧ out = .ret (.tuple [.bool false, .int .i64 2]))) := by
  refine attempt_am ?_
  intro A B h1 hA hB hAB hh1
  have hAx := ne_of_new hA tx
  have hAo := ne_of_new hA to_
  have hBx := ne_of_new hB tx
  have hBo := ne_of_new hB to_
  have hA' : h1 A = some (.cells [.bool false] 4) := by rw [hh1, upd_other _ _ hAB, upd_same]
  have hB' : h1 B = some (.cells [.int .i64 0] 30) := by rw [hh1, upd_same]
  have hl1 : HLess h1 H1 := by rw [hh1]; exact ((HLess.refl H1).new hA).new hB
  have ux := hl1 _ _ tx
  have uc := hl1 _ _ tc
  have uo := hl1 _ _ to_
  have ub := hl1 _ _ tb
  have e2 : ∀ j y, (upd (upd h1 x Option.none) o Option.none) j = some y → h1 j = some y := fun j y hj => by
   by_cases e : j = o
   ·subst e; rw [upd_same] at hj; cases hj
   ·rw [upd_other _ _ e] at hj
    by_cases e3 : j = x
    ·subst e3; rw [upd_same] at hj; cases hj
    ·rw [upd_other _ _ e3] at hj; exact hj
  have hAk : (upd (upd h1 x Option.none) o Option.none) A = some (.cells [.bool false] 4) := by rw [upd_other _ _ hAo.symm, upd_other _ _ hAx.symm]; exact hA'
  have hBk : (upd (upd h1 x Option.none) o Option.none) B = some (.cells [.int .i64 0] 30) := by rw [upd_other _ _ hBo.symm, upd_other _ _ hBx.symm]; exact hB'
  have hK : ∀ h2 : AHeap, HLess h2 (upd (upd h1 x Option.none) o Option.none) → HLess (upd (upd h2 A Option.none) B Option.none) (upd (upd H1 x Option.none) o Option.none) := fun h2 hl2 j y hj => by
   have ej : j ≠ o := fun e => by subst e; rw [upd_same] at hj; cases hj
   rw [upd_other _ _ ej] at hj
   have ex : j ≠ x := fun e => by subst e; rw [upd_same] at hj; cases hj
   rw [upd_other _ _ ex] at hj
   have eA : j ≠ A := fun e => by subst e; rw [hA] at hj; cases hj
   have eB : j ≠ B := fun e => by subst e; rw [hB] at hj; cases hj
   rw [upd_other _ _ eB, upd_other _ _ eA]
   exact hl2 j y (by rw [upd_other _ _ ej, upd_other _ _ ex]; exact hl1 j y hj)
  have hless : ∀ h2 : AHeap, HLess h2 (upd (upd h2 A Option.none) B Option.none) := fun h2 j y hj => by
   by_cases e : j = B
   ·subst e; rw [upd_same] at hj; cases hj
   ·rw [upd_other _ _ e] at hj
    by_cases e3 : j = A
    ·subst e3; rw [upd_same] at hj; cases hj
    ·rw [upd_other _ _ e3] at hj; exact hj
  refine valClo_am vs hvs tk hv x c b o (upd (upd h1 x Option.none) o Option.none) h1 (by rw [upd_other _ _ hxo, upd_same]) (upd_same _ _ _) uc ub uo ux (fun j y hj => e2 j y hj) _ ?_ ?_
  ·intro h2 N hsz hl2 ho2 hx2
   refine ⟨hl2 _ _ hAk, hl2 _ _ hBk, upd (upd h2 A Option.none) B Option.none, hless h2, by rw [upd_other _ _ hAB, upd_same], upd_same _ _ _, hK h2 hl2, .inl ⟨hsz, rfl, ?_, N, ?_⟩⟩
   ·rw [upd_other _ _ hBo, upd_other _ _ hAo]; exact ho2
   ·rw [upd_other _ _ hBx, upd_other _ _ hAx]; exact hx2
  ·intro h2 hsz hl2
   exact ⟨hl2 _ _ hAk, hl2 _ _ hBk, upd (upd h2 A Option.none) B Option.none, hless h2, by rw [upd_other _ _ hAB, upd_same], upd_same _ _ _, 2, rfl, hK h2 hl2, .inr ⟨hsz, rfl⟩⟩
 refine AmCalls.mono key ?_
 intro out h3 hk3
 obtain ⟨hl3, hk3⟩ := hk3
 have vc := hl3 c _ (by rw [upd_other _ _ hoc.symm, upd_other _ _ hcx]; exact tc)
 have vq := hl3 q _ (by rw [upd_other _ _ hoq, upd_other _ _ hxq]; exact tq)
 have fin3 : HLess h3 h := (show HLess h3 H from fun j y hj => hl3 j y (by
  have ex : j ≠ x := fun e => by subst e; rw [hx] at hj; cases hj
  have eo : j ≠ o := fun e => by subst e; rw [ho2.2] at hj; cases hj
  rw [upd_other _ _ eo, upd_other _ _ ex]; exact tH j y hj)).trans fin
 rcases hk3 with ⟨hsz, rfl, vo, N, vx⟩ | ⟨hsz, rfl⟩
 ·cases hd : decide (dep v > 100)
  ·rw [hd] at vx
   have : ¬ dep v > 100 := by simpa using hd
   have he : valErr v = 0 := by unfold valErr; rw [if_neg (by omega), if_neg (by omega)]
   have ho : valOut v = v := by unfold valOut; rw [he]; rfl
   rw [he, ho] at hq
   try dsimp only
   repeat first | ((with_reducible first | refine sS ?_ | refine sC ?_); intro _ _ _ C_ R_ U_; simp only [go_sem, ↓reduceIte, vc, vq, vo, vx]; subst C_ R_ U_) | (with_reducible refine rN ?_; subst hbq) | (with_reducible refine iR ?_; refine rG2 ?_) | (with_reducible refine iL ?_; refine rL (by rw [Tryz.results75]) (fin3.new e3.2) ?_; simp only [go_sem, ↓reduceIte, aPack, Option.some.injEq, exists_eq_left', vc, vq, vo, vx]) | with_reducible first | refine nS ?_ | refine rS fun bq hbq => ?_ | refine rK ?_ | refine rR ?_
   exact hq
  ·rw [hd] at vx
   have : dep v > 100 := by simpa using hd
   have he : valErr v = 5 := by unfold valErr; rw [if_neg (by omega), if_pos (by omega)]
   have ho : valOut v = noTerm := by unfold valOut; rw [he]; rfl
   rw [he, ho] at hq
   try dsimp only
   repeat first | ((with_reducible first | refine sS ?_ | refine sC ?_); intro _ _ _ C_ R_ U_; simp only [go_sem, ↓reduceIte, vc, vq, vo, vx, build27_00]; subst C_ R_ U_) | (with_reducible refine rN ?_; subst hbq) | (with_reducible refine iR ?_; refine rG2 ?_) | (with_reducible refine r1 ?_; clear hbq bq) | with_reducible first | refine nS ?_ | refine rS fun bq hbq => ?_ | refine rK ?_ | refine rR ?_
   refine last_as (v := .tuple [enc noTerm, .int .i64 5]) (by rw [Tryz.results75]) (fin3.new e3.2) ?_ hq
   simp only [go_sem, ↓reduceIte, aPack, Option.some.injEq, exists_eq_left']
   exact LeAV.tuple (.cons le_zeroT (.cons (LeAV.refl _) .nil))
 ·have he : valErr v = 2 := by unfold valErr; rw [if_pos hsz]
  have ho : valOut v = noTerm := by unfold valOut; rw [he]; rfl
  rw [he, ho] at hq
  try dsimp only
  repeat first | ((with_reducible first | refine sS ?_ | refine sC ?_); intro _ _ _ C_ R_ U_; simp only [go_sem, ↓reduceIte, vc, vq, build27_00]; subst C_ R_ U_) | (with_reducible refine rN ?_; subst hbq) | (with_reducible refine iR ?_; refine rG2 ?_) | (with_reducible refine r1 ?_; clear hbq bq) | with_reducible first | refine nS ?_ | refine rS fun bq hbq => ?_ | refine rR ?_
  refine last_as (v := .tuple [enc noTerm, .int .i64 2]) (by rw [Tryz.results75]) (fin3.new e3.2) ?_ hq
  simp only [go_sem, ↓reduceIte, aPack, Option.some.injEq, exists_eq_left']
  exact LeAV.tuple (.cons le_zeroT (.cons (LeAV.refl _) .nil))
def fitAll (vs : List Va) (t : Term) : Int := if checkF vs == 0 then fitErrS vs t else checkF vs
def ValPair (vs : List Va) (t o : Term) (e : Int) : Prop := (fitAll vs t ≠ 0 ∧ o = noTerm ∧ e = fitAll vs t) ∨ (fitAll vs t = 0 ∧ ∃ v, Good vs 0 t v ∧ o = valOut v ∧ e = valErr v)
theorem fitAll_iff {vs : List Va} {t : Term} : fitAll vs t = 0 ↔ checkF vs = 0 ∧ sizedF t = 0 ∧ fitsF vs t 0 = true := by
 unfold fitAll fitErrS
 constructor
 ·intro h
  split at h
  ·rename_i h1
   split at h
   ·rename_i h2
    split at h
    ·rename_i h3
     exact ⟨by simpa using h1, by simpa using h2, h3⟩
    ·cases h
   ·rename_i h2
    exact absurd h (by simpa using h2)
  ·rename_i h1
   exact absurd h (by simpa using h1)
 ·rintro ⟨h1, h2, h3⟩
  simp [h1, h2, h3]
theorem value_pair (vs : List Va) (t : Term) : ∃ o e, ValPair vs t o e := by
 by_cases h : fitAll vs t = 0
 ·obtain ⟨h1, h2, h3⟩ := fitAll_iff.1 h
  obtain ⟨v, hv⟩ := has_value h1 (Int.le_refl 0) h3
  exact ⟨valOut v, valErr v, .inr ⟨h, v, hv, rfl, rfl⟩⟩
 ·exact ⟨noTerm, fitAll vs t, .inl ⟨h, rfl, rfl⟩⟩
theorem sized_of {v : Term} (h1 : (v.size : Int) ≤ 4000) (h2 : dep v ≤ 100) : sizedF v = 0 := by
 unfold sizedF
 rw [if_neg, if_neg]
 ·rw [(levels_dep v.size).1 v 100 (Nat.le_refl _)]; omega
 ·intro h; have := (parts_big v 4000).1 h; omega
theorem pair_again {vs : List Va} {t o : Term} (h : ValPair vs t o 0) : o.size ≤ 4000 ∧ fitsF vs o 0 = true ∧ normV vs o = true ∧ ValPair vs o o 0 := by
 rcases h with ⟨h1, _, h3⟩ | ⟨h1, v, ⟨g1, g2, g3⟩, rfl, he⟩
 ·exact absurd h3.symm h1
 ·have hs : (v.size : Int) ≤ 4000 ∧ dep v ≤ 100 := by
   unfold valErr at he
   split at he
   ·cases he
   ·split at he
    ·cases he
    ·omega
  have ho : valOut v = v := by unfold valOut; rw [← he]; rfl
  rw [ho]
  obtain ⟨c1, c2, c3⟩ := fitAll_iff.1 h1
  exact ⟨by omega, g2, g3, .inr ⟨fitAll_iff.2 ⟨c1, sized_of hs.1 hs.2, g2⟩, v, ⟨val_norm v.size v 0 (Nat.le_refl _) g2 g3, g2, g3⟩, ho.symm, he⟩⟩
theorem value27_am (vs : List Va) (hvs : vs.length ≤ 1000000) (tk : Tok) {t o : Term} {er : Int} (hv : ValPair vs t o er) (h : AHeap) (Q : AOut → AHeap → Prop) (hq : Q (.ret (.tuple [enc o, .int .i64 er])) h) :
  AmCalls Tryz.prog 27 [.agg [.list 8 (encVs vs) vs.length tk], enc t] h Q := by
 refine AmCalls.of_sem (fn := Tryz.f27) Tryz.func27 rfl (by kernel_rfl) (by rw [Tryz.ntmps27]; simp) (enters_of Tryz.func27 (by kernel_rfl) (by kernel_rfl)) ?_
 repeat first | ((with_reducible refine sS ?_); intro _ _ _ C_ R_ U_; simp only [go_sem, ↓reduceIte]; subst C_ R_ U_) | (with_reducible refine iR ?_; refine rG2 ?_) | with_reducible refine rS fun bq hbq => ?_
 intro a ha
 repeat (((with_reducible refine sS ?_); intro _ _ _ C_ R_ U_; simp only [go_sem, ↓reduceIte]; subst C_ R_ U_))
 intro b hb
 have e1 := fresh_if hb
 repeat (((with_reducible refine sS ?_); intro _ _ _ C_ R_ U_; simp only [go_sem, ↓reduceIte, e1.1, e1.1.symm]; subst C_ R_ U_))
 intro q hq'
 have e2 := fresh_if hq'
 have e3 := fresh_if e2.2
 have fin : HLess (upd (upd (upd h a (some (AObj.cells [.list 8 (encVs vs) vs.length tk] 24))) b (some (AObj.cells (cellsT t) 27))) q (some (AObj.cells [.int .i64 0, .int .i64 0, .str ⟨#[]⟩, .list 0 [] 0 .nil] 27))) h := (((HLess.refl h).new ha).new e1.2).new e3.2
 have sa : upd (upd (upd h a (some (AObj.cells [.list 8 (encVs vs) vs.length tk] 24))) b (some (AObj.cells (cellsT t) 27))) q (some (AObj.cells [.int .i64 0, .int .i64 0, .str ⟨#[]⟩, .list 0 [] 0 .nil] 27)) a = some (.cells [.list 8 (encVs vs) vs.length tk] 24) := by rw [upd_other _ _ e3.1.symm, upd_other _ _ e1.1.symm, upd_same]
 have sb : upd (upd (upd h a (some (AObj.cells [.list 8 (encVs vs) vs.length tk] 24))) b (some (AObj.cells (cellsT t) 27))) q (some (AObj.cells [.int .i64 0, .int .i64 0, .str ⟨#[]⟩, .list 0 [] 0 .nil] 27)) b = some (.cells (cellsT t) 27) := by rw [upd_other _ _ e2.1.symm, upd_same]
 have sq : upd (upd (upd h a (some (AObj.cells [.list 8 (encVs vs) vs.length tk] 24))) b (some (AObj.cells (cellsT t) 27))) q (some (AObj.cells [.int .i64 0, .int .i64 0, .str ⟨#[]⟩, .list 0 [] 0 .nil] 27)) q = some (AObj.cells [.int .i64 0, .int .i64 0, .str ⟨#[]⟩, .list 0 [] 0 .nil] 27) := upd_same _ _ _
 have hq0 : h q = Option.none := e3.2
 generalize upd (upd (upd h a (some (AObj.cells [.list 8 (encVs vs) vs.length tk] 24))) b (some (AObj.cells (cellsT t) 27))) q (some (AObj.cells [.int .i64 0, .int .i64 0, .str ⟨#[]⟩, .list 0 [] 0 .nil] 27)) = H at *
 repeat first | ((with_reducible refine sS ?_); intro _ _ _ C_ R_ U_; simp only [go_sem, ↓reduceIte, sa, sb, sq, build25_1]; subst C_ R_ U_) | (with_reducible refine rN ?_; subst hbq) | (with_reducible refine iR ?_; refine rG2 ?_) | with_reducible first | refine nS ?_ | refine rS fun bq hbq => ?_
 have e1 : encs [t] = cellsT t := by rw [encs_eq]; simp
 refine AmCalls.args (args' := [.agg [.list 8 (encVs vs) vs.length tk], .list 4 (encs [t]) ([t] : List Term).length .none]) (.cons (LeAV.refl _) (.cons (by rw [e1]; exact LeAV.list _ _ _ _) .nil)) (fittingS_am vs hvs tk [t] _ _ (by simp) ?_)
 have e4 : (if checkF vs == 0 then fitErrsS vs [t] else checkF vs) = fitAll vs t := by
  unfold fitAll
  rw [fitErrsS, fitErrsS]
  cases h1 : (fitErrS vs t == 0)
  ·rfl
  ·have : fitErrS vs t = 0 := by simpa using h1
   rw [this]; rfl
 rw [e4]
 rcases hv with ⟨h1, rfl, rfl⟩ | ⟨h1, v, hg, rfl, rfl⟩
 ·have h2 : (fitAll vs t == 0) = false := by simpa using h1
  try dsimp only
  repeat first | ((with_reducible first | refine sS ?_ | refine sC ?_); intro _ _ _ C_ R_ U_; simp only [go_sem, ↓reduceIte, sa, sb, sq, h2, build27_00]; subst C_ R_ U_) | (with_reducible refine rN ?_; subst hbq) | (with_reducible refine iR ?_; refine rG2 ?_) | (with_reducible refine r1 ?_; clear hbq bq) | with_reducible first | refine nS ?_ | refine rS fun bq hbq => ?_ | refine rR ?_
  refine last_as (v := .tuple [enc noTerm, .int .i64 (fitAll vs t)]) (by rw [Tryz.results27]) (fin.new hq0) ?_ hq
  simp only [go_sem, ↓reduceIte, aPack, Option.some.injEq, exists_eq_left']
  exact LeAV.tuple (.cons le_zeroT (.cons (LeAV.refl _) .nil))
 ·have h2 : (fitAll vs t == 0) = true := by simpa using h1
  try dsimp only
  repeat first | ((with_reducible first | refine sS ?_ | refine sC ?_); intro _ _ _ C_ R_ U_; simp only [go_sem, ↓reduceIte, sa, sb, sq, h2]; subst C_ R_ U_) | (with_reducible refine rN ?_; subst hbq) | (with_reducible refine iR ?_; refine rG2 ?_) | with_reducible first | refine nS ?_ | refine rS fun bq hbq => ?_ | refine rK ?_
  refine value_am vs hvs tk hg.1 _ _ ?_
  try dsimp only
  repeat first | ((with_reducible refine sS ?_); intro _ _ _ C_ R_ U_; simp only [go_sem, ↓reduceIte, sa, sb, sq, h2]; subst C_ R_ U_) | (with_reducible refine rN ?_; subst hbq) | (with_reducible refine iL ?_; refine rL (by rw [Tryz.results27]) (fin.new hq0) ?_; simp only [go_sem, ↓reduceIte, aPack, Option.some.injEq, exists_eq_left', sa, sb, sq, h2]) | with_reducible first | refine nS ?_ | refine rR ?_
  exact hq
section
variable {σ : Type} (step : σ → Term → σ)
end
end Go.Proofs.YthkjmiejaoomcaaGreat.Am
