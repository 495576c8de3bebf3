/- Part of the proof of a law of layer 5: own texts, joined. -/
import Derived.Test.YthkjmiejaoomcaaGreatNn
import Derived.Test.YthkjmiejaoomcaaGreatNi
import Derived.Test.YthkjmiejaoomcaaGreatNg
import Derived.Test.YthkjmiejaoomcaaGreatNk
set_option linter.unusedVariables false
set_option linter.unusedSimpArgs false
set_option linter.unnecessarySimpa false
namespace Go.Proofs.YthkjmiejaoomcaaGreat.Am
open Go Go.RowKit Go.Proofs
set_option linter.unusedVariables false
set_option linter.unusedSimpArgs false
set_option maxRecDepth 100000
set_option maxHeartbeats 1000000
attribute [local go_sem] cSeq cDr cOne cStays nthCO panK aKind gWanted panC cPanic cOp needsName cStep aop aEval argEnv List.getD_cons_zero List.getD_cons_succ AV.known AV.cells if_true if_false cond_true cond_false aPut true_and and_true ofConst ofLeaf true_imp false_imp true_imp' false_imp' btt btf
  aFieldAt aAssert aLoad aPick aBin aInt aShift aStr unSl aLen aBuiltin Option.map_some Option.map_none upd_same eupd_at Nat.reduceBEq List.drop_zero List.drop_succ_cons List.drop_nil List.take_succ_cons List.take_zero List.head?_cons List.length_cons List.length_nil Nat.reduceAdd Nat.reduceLeDiff Nat.reduceEqDiff List.map_cons List.map_nil Nat.zero_add Nat.add_zero reduceCtorEq Bool.false_eq_true
  aResL aRes1 true_implies false_implies implies_true forall_const and_self Bool.not_true Bool.not_false Bool.cond_self upd_if aExtract aNil aIface aMax aMin aNot List.getElem?_cons_zero List.getElem?_cons_succ aIndexAt aStore aSplice AV.flat List.all_cons List.all_nil Bool.and_true Bool.true_and Bool.and_false Bool.false_and Int.natCast_nonneg Int.ofNat_lt Int.toNat_natCast cCall Nat.le_add_left List.append_nil List.contains_cons List.contains_nil Bool.or_true Bool.or_false Bool.true_or Bool.false_or Nat.reduceBEq List.cons_append List.nil_append
  sz_1 by_1 ag_1 tk_1 ze_1 sz_3 by_3 ag_3 tk_3 ze_3 sz_4 by_4 ag_4 tk_4 ze_4 sz_9 by_9 ag_9 tk_9 ze_9
  sz_20 by_20 ag_20 tk_20 ze_20 sz_22 by_22 ag_22 tk_22 el_22 ze_22 sz_24 by_24 ag_24 tk_24 ze_24 fi_24_0 pl_24 sz_25 by_25
  ag_25 tk_25 el_25 ze_25 sz_27 by_27 ag_27 tk_27 ze_27 fi_27_0 fi_27_1 fi_27_2 fi_27_3 pl_27 sz_30 by_30 ag_30 tk_30 ze_30 sz_34
  by_34 ag_34 tk_34 ze_34 fi_34_0 fi_34_1 fi_34_2 fi_34_3 pl_34 sz_40 by_40 ag_40 tk_40 el_40 ze_40 sz_42 by_42 ag_42 tk_42 ze_42
  fi_42_0 fi_42_1 fi_42_2 pl_42 sz_52 by_52 ag_52 tk_52 ze_52 fi_52_0 fi_52_1 fi_52_2 fi_52_3 pl_52 sz_60 by_60 ag_60 tk_60 ze_60 fi_60_0
  fi_60_1 pl_60 sz_62 by_62 ag_62 tk_62 ze_62 fi_62_0 fi_62_1 fi_62_2 fi_62_3 pl_62 sz_68 by_68 ag_68 tk_68 ze_68 fi_68_0 fi_68_1 pl_68
  sz_70 by_70 ag_70 tk_70 el_70 ze_70 sz_77 by_77 ag_77 tk_77 el_77 ze_77 sz_80 by_80 ag_80 tk_80 ze_80 sz_83 by_83 ag_83
  tk_83 ze_83 fi_83_0 fi_83_1 pl_83 sz_95 by_95 ag_95 tk_95 ze_95 sz_97 by_97 ag_97 tk_97 ze_97 sz_99 by_99 ag_99 tk_99 mp_99
  ze_99 sz_101 by_101 ag_101 tk_101 ze_101 fi_101_0 fi_101_1 fi_101_2 pl_101 sz_104 by_104 ag_104 tk_104 ze_104 sz_106 by_106 ag_106 tk_106 ze_106
  fi_106_0 fi_106_1 fi_106_2 pl_106 sz_108 by_108 ag_108 tk_108 ze_108 sz_109 by_109 ag_109 tk_109 ze_109 sz_110 by_110 ag_110 tk_110 el_110 ze_110
  sz_112 by_112 ag_112 tk_112 ze_112 fi_112_0 fi_112_1 fi_112_2 fi_112_3 pl_112 sz_115 by_115 ag_115 tk_115 ze_115 fi_115_0 fi_115_1 pl_115 sz_121 by_121
  ag_121 tk_121 ze_121 sz_125 by_125 ag_125 tk_125 ze_125 sz_126 by_126 ag_126 tk_126 mp_126 ze_126 sz_128 by_128 ag_128 tk_128 ze_128 fi_128_0
  fi_128_1 fi_128_2 fi_128_3 pl_128 sz_136 by_136 ag_136 tk_136 el_136 ze_136 sz_140 by_140 ag_140 tk_140 mp_140 ze_140 sz_142 by_142 ag_142 tk_142
  ze_142 fi_142_0 fi_142_1 pl_142 sz_144 by_144 ag_144 tk_144 ze_144 sz_145 by_145 ag_145 tk_145 el_145 ze_145 sz_147 by_147 ag_147 tk_147 ze_147
  fi_147_0 fi_147_1 fi_147_2 fi_147_3 pl_147 sz_150 by_150 ag_150 tk_150 ze_150 pl_150 sz_152 by_152 ag_152 tk_152 ze_152 fi_152_0 pl_152 sz_156 by_156
  ag_156 tk_156 ze_156 sz_158 by_158 ag_158 tk_158 ze_158 fi_158_0 fi_158_1 fi_158_2 pl_158 sz_160 by_160 ag_160 tk_160 mp_160 ze_160 sz_162 by_162
  ag_162 tk_162 ze_162 sz_164 by_164 ag_164 tk_164 ze_164 fi_164_0 fi_164_1 fi_164_2 pl_164 sz_167 by_167 ag_167 tk_167 ze_167 fi_167_0 fi_167_1 pl_167
  sz_173 by_173 ag_173 tk_173 el_173 ze_173 sz_189 by_189 ag_189 tk_189 ze_189 sz_198 by_198 ag_198 tk_198 ze_198
  cStays_nil bne decide_true decide_false Nat.mul_one upd_twice beq_self_eq_true Int.reduceBEq Int.reduceLT Int.reduceLE
/- Check of the program. -/


theorem check_am (vs : List Va) (hvs : vs.length ≤ 1000000) (tk : Tok) (h : AHeap) (Q : AOut → AHeap → Prop) (hq : Q (.ret (.int .i64 (checkF vs))) h) : AmCalls Tryz.prog 26 [.agg [.list 8 (encVs vs) vs.length tk]] h Q := by
  unfold checkF at hq
  refine AmCalls.of_sem (fn := Tryz.f26) Tryz.func26 rfl (by kernel_rfl) (by rw [Tryz.ntmps26]; simp) (enters_of Tryz.func26 (by kernel_rfl) (by kernel_rfl)) ?_
  try dsimp only
  repeat first | ((with_reducible refine sS ?_); intro bC bR bU hC hR hU; simp only [go_sem, ↓reduceIte]; subst hC hR hU) | (with_reducible refine iR ?_; refine rG (by simp only [compL, gtOf, nthDst]; exact rfl) ?_) | with_reducible refine rS fun bq hbq => ?_
  intro a ha
  have fin : HLess (upd h a (some (.cells [.list 8 (encVs vs) vs.length tk] 24))) h := HLess.one ha
  have sa : (upd h a (some (AObj.cells [.list 8 (encVs vs) vs.length tk] 24))) a = some (.cells [.list 8 (encVs vs) vs.length tk] 24) := upd_same _ _ _
  cases c1 : decide ((vs.length : Int) > 2000)
  case true =>
    try dsimp only
    repeat first | ((with_reducible first | refine sS ?_ | refine sC ?_); intro bC bR bU hC hR hU; simp only [go_sem, ↓reduceIte, c1]; subst hC hR hU) | (with_reducible refine rN ?_; subst hbq) | (with_reducible refine iR ?_; refine rG (by simp only [compL, gtOf, nthDst]; exact rfl) ?_) | (with_reducible refine r1 ?_; clear hbq bq) | (with_reducible refine iL ?_; refine rL (by rw [Tryz.results26]) fin ?_; simp only [go_sem, ↓reduceIte, aPack, Option.some.injEq, exists_eq_left', c1]) | with_reducible first | refine nS ?_ | refine rS fun bq hbq => ?_ | refine rR ?_
    exact ret_as (by rw [if_pos (by simpa using c1)]) hq
  rw [if_neg (by simpa using c1)] at hq
  try dsimp only
  repeat first | ((with_reducible first | refine sS ?_ | refine sC ?_); intro bC bR bU hC hR hU; simp only [go_sem, ↓reduceIte, c1]; subst hC hR hU) | (with_reducible refine rN ?_; subst hbq) | (with_reducible refine iR ?_; refine rG (by simp only [compL, gtOf, nthDst]; exact rfl) ?_) | with_reducible first | refine nS ?_ | refine rS fun bq hbq => ?_ | refine rK ?_
  generalize upd h a (some (AObj.cells [.list 8 (encVs vs) vs.length tk] 24)) = H at *
  refine run_cutS (fun τ h' => τ 1 = .ptr a 0 ∧ HLess h' H ∧ longF vs 4000 = false) ?_ fun τ h' hI => ?_
  · repeat with_reducible refine run_seq fun bq hbq => ?_
    refine run_block fun cq hcq => ?_
    subst hcq
    refine run_loop (fun k τ h' => ∃ (i : Nat) (left : Int), k + i = vs.length ∧ longF (vs.drop i) left = longF vs 4000 ∧ 0 ≤ left ∧ left ≤ 4000 ∧ τ 1 = .ptr a 0 ∧ τ 3 = .int .i64 left ∧ τ 11 = .list 8 (encVs vs) vs.length tk ∧ τ 12 = .int .i64 vs.length ∧ τ 13 = .int .i64 i ∧ HLess h' H) vs.length ?_ ?_
    · exact ⟨0, 4000, rfl, rfl, by decide, by decide, rfl, rfl, rfl, rfl, rfl, HLess.refl _⟩
    · intro c hc k τ h' hI
      obtain ⟨i, left, hk, hix, hl0, hl1, f1, f3, f11, f12, f13, hl'⟩ := hI
      subst hc
      by_cases hi : i < vs.length
      · obtain ⟨v, hv⟩ : ∃ v, vs[i]? = some v := ⟨_, List.getElem?_eq_getElem hi⟩
        obtain ⟨r, hr⟩ := encVs_at vs i hv
        have hdrop : vs.drop i = v :: vs.drop (i + 1) := by
          rw [List.drop_eq_getElem_cons hi]
          rw [List.getElem?_eq_getElem hi] at hv; injection hv with hv; rw [hv]
        rw [hdrop, longF] at hix
        try dsimp only
        repeat first | ((with_reducible first | refine sS ?_ | refine sC ?_); intro bC bR bU hC hR hU; simp only [go_sem, ↓reduceIte, f1, f3, f11, f12, f13, hi, hr]; subst hC hR hU) | (with_reducible refine rN ?_; subst hbq) | (with_reducible refine iR ?_; refine rG (by simp only [compL, gtOf, nthDst]; exact rfl) ?_) | (with_reducible refine rB fun cq hcq => ?_; subst hcq) | with_reducible first | refine nS ?_ | refine rS fun bq hbq => ?_ | refine rK ?_
        intro p hp
        have hlp : HLess (upd h' p (some (.cells (cellsV v) 62))) H := (HLess.one hp).trans hl'
        have finp : HLess (upd h' p (some (.cells (cellsV v) 62))) h := hlp.trans fin
        cases hvi : v.is
        · rw [hvi] at hix
          try dsimp only
          repeat first | ((with_reducible first | refine sS ?_ | refine sC ?_); intro bC bR bU hC hR hU; simp only [go_sem, ↓reduceIte, f1, f3, f11, f12, f13, hvi, wrap_in (show -9223372036854775808 ≤ (i : Int) + 1 by omega) (show (i : Int) + 1 ≤ 9223372036854775807 by omega)]; subst hC hR hU) | (with_reducible refine rN ?_; subst hbq) | (with_reducible refine iR ?_; refine rG (by simp only [compL, gtOf, nthDst]; exact rfl) ?_) | with_reducible first | refine nS ?_ | refine rS fun bq hbq => ?_ | refine rK ?_ | refine rE ?_
          refine run_loopN (m := k - 1) (by omega) ⟨i + 1, left, by omega, by simpa using hix, hl0, hl1, ?_⟩
          simp only [go_sem, ↓reduceIte, f1, f3, f11, f12]
          exact ⟨rfl, (HLess.one hp).trans hl'⟩
        · rw [hvi] at hix
          simp only [if_true] at hix
          try dsimp only
          repeat first | ((with_reducible first | refine sS ?_ | refine sC ?_); intro bC bR bU hC hR hU; simp only [go_sem, ↓reduceIte, f1, f3, f11, f12, f13, hvi]; subst hC hR hU) | (with_reducible refine rN ?_; subst hbq) | (with_reducible refine iR ?_; refine rG (by simp only [compL, gtOf, nthDst]; exact rfl) ?_) | with_reducible first | refine nS ?_ | refine rS fun bq hbq => ?_
          refine parts_am v.t.size v.t left _ _ (Nat.le_refl _) (by omega) (by omega) ?_
          have hb := (partsL_bound v.t.size).1 v.t left (Nat.le_refl _)
          cases hd : decide ((v.t.size : Int) > left)
          · rw [hd] at hix
            simp only [Bool.false_eq_true, if_false] at hix
            have hd' : ¬ (v.t.size : Int) > left := by simpa using hd
            have hps := parts_of_small v.t left (by omega)
            have hw := wrap_in (show -9223372036854775808 ≤ left - v.t.size by omega) (show left - v.t.size ≤ 9223372036854775807 by omega)
            have hneg : decide (left - (v.t.size : Int) < 0) = false := by simp; omega
            rw [hps]
            try dsimp only
            repeat first | ((with_reducible first | refine sS ?_ | refine sC ?_); intro bC bR bU hC hR hU; simp only [go_sem, ↓reduceIte, f1, f3, f11, f12, f13, hvi, hw, hneg, wrap_in (show -9223372036854775808 ≤ (i : Int) + 1 by omega) (show (i : Int) + 1 ≤ 9223372036854775807 by omega)]; subst hC hR hU) | (with_reducible refine rN ?_; subst hbq) | (with_reducible refine iR ?_; refine rG (by simp only [compL, gtOf, nthDst]; exact rfl) ?_) | with_reducible first | refine nS ?_ | refine rS fun bq hbq => ?_ | refine rK ?_ | refine rE ?_
            refine run_loopN (m := k - 1) (by omega) ⟨i + 1, left - v.t.size, by omega, hix, by omega, by omega, ?_⟩
            simp only [go_sem, ↓reduceIte, f1, f11, f12]
            exact ⟨rfl, (HLess.one hp).trans hl'⟩
          · rw [hd] at hix
            simp only [if_true] at hix
            have hd' : partsF v.t left > left := (parts_big v.t left).2 (by simpa using hd)
            have hw := wrap_in (show -9223372036854775808 ≤ left - partsF v.t left by omega) (show left - partsF v.t left ≤ 9223372036854775807 by omega)
            have hneg : decide (left - partsF v.t left < 0) = true := by simp; omega
            try dsimp only
            repeat first | ((with_reducible first | refine sS ?_ | refine sC ?_); intro bC bR bU hC hR hU; simp only [go_sem, ↓reduceIte, f1, f3, f11, f12, f13, hvi, hw, hneg]; subst hC hR hU) | (with_reducible refine rN ?_; subst hbq) | (with_reducible refine iR ?_; refine rG (by simp only [compL, gtOf, nthDst]; exact rfl) ?_) | (with_reducible refine r1 ?_; clear hbq bq) | (with_reducible refine iL ?_; refine rL (by rw [Tryz.results26]) ((HLess.one hp).trans (hl'.trans fin)) ?_; simp only [go_sem, ↓reduceIte, aPack, Option.some.injEq, exists_eq_left', f1, f3, f11, f12, f13, hvi, hw, hneg]) | with_reducible first | refine nS ?_ | refine rS fun bq hbq => ?_ | refine rR ?_ | refine r2 ?_ | refine r3 ?_ | refine r4 ?_
            exact ret_as (by rw [← hix, if_pos rfl]) hq
      · rw [List.drop_eq_nil_of_le (by omega), longF] at hix
        try dsimp only
        repeat first | ((with_reducible first | refine sS ?_ | refine sC ?_); intro bC bR bU hC hR hU; simp only [go_sem, ↓reduceIte, f1, f3, f11, f12, f13, hi]; subst hC hR hU) | (with_reducible refine rN ?_; subst hbq) | (with_reducible refine iR ?_; refine rG (by simp only [compL, gtOf, nthDst]; exact rfl) ?_) | (with_reducible refine x1 ?_; clear hbq bq) | with_reducible first | refine nS ?_ | refine rS fun bq hbq => ?_ | refine rXx ?_ | refine x3 ?_ | refine x4 ?_
        refine run_endcut ?_
        exact ⟨f1, hl', hix.symm⟩
  · obtain ⟨f1, hl', hlg⟩ := hI
    subst hbq
    rw [hlg] at hq
    simp only [Bool.false_eq_true, if_false] at hq
    have ta := hl' _ _ sa
    have fin2 : HLess h' h := hl'.trans fin
    try dsimp only
    repeat first | ((with_reducible refine sS ?_); intro bC bR bU hC hR hU; simp only [go_sem, ↓reduceIte, f1, ta]; subst hC hR hU) | (with_reducible refine iR ?_; refine rG (by simp only [compL, gtOf, nthDst]; exact rfl) ?_) | with_reducible refine rS fun bq hbq => ?_
    refine AmCalls.args (args' := [.list 8 (encVs vs) vs.length .none, .func (.func 72) [] [.ptr a 0]]) (.cons (LeAV.list _ _ _ _) (.cons (LeAV.refl _) .nil)) (containsFuncV_am vs 72 [] [.ptr a 0] (fun v => !validF vs v) _ _ (by omega) (fun i u hu _ h2 Q2 hl2 hq2 => valid72 vs hvs tk u h2 a (hl2 _ _ ta) Q2 hq2) ?_)
    cases hall : vs.any fun v => !validF vs v
    · have hall' : vs.all (validF vs) = true := by
        rw [List.all_eq_true]
        rw [List.any_eq_false] at hall
        intro v hv
        have := hall v hv
        simpa using this
      rw [hall'] at hq
      simp only [if_true] at hq
      have hg := good_of vs hlg hall'
      try dsimp only
      repeat (((with_reducible refine sS ?_); intro bC bR bU hC hR hU; simp only [go_sem, ↓reduceIte, f1, ta, hall]; subst hC hR hU))
      refine circles_am vs hvs hg.vals tk _ _ ?_
      cases hc : circlesF vs
      · try dsimp only
        repeat first | ((with_reducible first | refine sS ?_ | refine sC ?_); intro bC bR bU hC hR hU; simp only [go_sem, ↓reduceIte, f1, ta, hall, hc]; subst hC hR hU) | (with_reducible refine rN ?_; subst hbq) | (with_reducible refine iR ?_; refine rG (by simp only [compL, gtOf, nthDst]; exact rfl) ?_) | (with_reducible refine iL ?_; refine rL (by rw [Tryz.results26]) fin2 ?_; simp only [go_sem, ↓reduceIte, aPack, Option.some.injEq, exists_eq_left', f1, ta, hall, hc]) | with_reducible first | refine nS ?_ | refine rS fun bq hbq => ?_ | refine rK ?_ | refine rR ?_
        exact ret_as (by rw [hc]; first | done | rfl) hq
      · try dsimp only
        repeat first | ((with_reducible first | refine sS ?_ | refine sC ?_); intro bC bR bU hC hR hU; simp only [go_sem, ↓reduceIte, f1, ta, hall, hc]; subst hC hR hU) | (with_reducible refine rN ?_; subst hbq) | (with_reducible refine iR ?_; refine rG (by simp only [compL, gtOf, nthDst]; exact rfl) ?_) | (with_reducible refine r1 ?_; clear hbq bq) | (with_reducible refine iL ?_; refine rL (by rw [Tryz.results26]) fin2 ?_; simp only [go_sem, ↓reduceIte, aPack, Option.some.injEq, exists_eq_left', f1, ta, hall, hc]) | with_reducible first | refine nS ?_ | refine rS fun bq hbq => ?_ | refine rR ?_
        exact ret_as (by rw [hc]; first | done | rfl) hq
    · have hall' : vs.all (validF vs) = false := by
        rw [Bool.eq_false_iff]
        intro h1
        rw [List.all_eq_true] at h1
        rw [List.any_eq_true] at hall
        obtain ⟨v, hv, h2⟩ := hall
        rw [h1 v hv] at h2; cases h2
      rw [hall'] at hq
      try dsimp only
      repeat first | ((with_reducible first | refine sS ?_ | refine sC ?_); intro bC bR bU hC hR hU; simp only [go_sem, ↓reduceIte, f1, ta, hall]; subst hC hR hU) | (with_reducible refine rN ?_; subst hbq) | (with_reducible refine iR ?_; refine rG (by simp only [compL, gtOf, nthDst]; exact rfl) ?_) | (with_reducible refine r1 ?_; clear hbq bq) | (with_reducible refine iL ?_; refine rL (by rw [Tryz.results26]) fin2 ?_; simp only [go_sem, ↓reduceIte, aPack, Option.some.injEq, exists_eq_left', f1, ta, hall]) | with_reducible first | refine nS ?_ | refine rS fun bq hbq => ?_ | refine rR ?_
      exact hq
/- Check of the reference. -/


theorem refBody_size : ∀ (n : Nat) (t : Term), (bodyOut (refBodyF n t)).1.size ≤ t.size
  | 0, t => Nat.le_refl _
  | n + 1, t => by
    rw [refBodyF]
    split
    · rename_i h
      obtain ⟨u, hu⟩ := lam1_one h
      rw [hu]
      have h1 := refBody_size n u
      have h2 := size_arg t 0 (t := u) (by rw [hu]; rfl)
      simp only [List.headD_cons]
      omega
    · obtain ⟨a, b, c, l⟩ := t
      simp only [bodyOut]
      rw [Term.size, Term.size, sizes]; omega
theorem refCheck_am (vs : List Va) (hvs : vs.length ≤ 1000000) (tk : Tok) (h : AHeap) (Q : AOut → AHeap → Prop) (hq : Q (.ret (.int .i64 (checkF vs))) h) : AmCalls Tryz.prog 37 [.agg [.list 8 (encVs vs) vs.length tk]] h Q := by
  unfold checkF at hq
  refine AmCalls.of_sem (fn := Tryz.f37) Tryz.func37 rfl (by kernel_rfl) (by rw [Tryz.ntmps37]; simp) (enters_of Tryz.func37 (by kernel_rfl) (by kernel_rfl)) ?_
  try dsimp only
  repeat first | ((with_reducible refine sS ?_); intro bC bR bU hC hR hU; simp only [go_sem, ↓reduceIte]; subst hC hR hU) | (with_reducible refine iR ?_; refine rG (by simp only [compL, gtOf, nthDst]; exact rfl) ?_) | with_reducible refine rS fun bq hbq => ?_
  intro a ha
  have fin : HLess (upd h a (some (.cells [.list 8 (encVs vs) vs.length tk] 24))) h := HLess.one ha
  have sa : (upd h a (some (AObj.cells [.list 8 (encVs vs) vs.length tk] 24))) a = some (.cells [.list 8 (encVs vs) vs.length tk] 24) := upd_same _ _ _
  cases c1 : decide ((vs.length : Int) > 2000)
  case true =>
    try dsimp only
    repeat first | ((with_reducible first | refine sS ?_ | refine sC ?_); intro bC bR bU hC hR hU; simp only [go_sem, ↓reduceIte, c1]; subst hC hR hU) | (with_reducible refine rN ?_; subst hbq) | (with_reducible refine iR ?_; refine rG (by simp only [compL, gtOf, nthDst]; exact rfl) ?_) | (with_reducible refine r1 ?_; clear hbq bq) | (with_reducible refine iL ?_; refine rL (by rw [Tryz.results37]) fin ?_; simp only [go_sem, ↓reduceIte, aPack, Option.some.injEq, exists_eq_left', c1]) | with_reducible first | refine nS ?_ | refine rS fun bq hbq => ?_ | refine rR ?_
    exact ret_as (by rw [if_pos (by simpa using c1)]) hq
  rw [if_neg (by simpa using c1)] at hq
  try dsimp only
  repeat first | ((with_reducible first | refine sS ?_ | refine sC ?_); intro bC bR bU hC hR hU; simp only [go_sem, ↓reduceIte, c1]; subst hC hR hU) | (with_reducible refine rN ?_; subst hbq) | (with_reducible refine iR ?_; refine rG (by simp only [compL, gtOf, nthDst]; exact rfl) ?_) | with_reducible first | refine nS ?_ | refine rS fun bq hbq => ?_ | refine rK ?_
  generalize upd h a (some (AObj.cells [.list 8 (encVs vs) vs.length tk] 24)) = H at *
  refine run_cutS (fun τ h' => τ 1 = .ptr a 0 ∧ h' = H ∧ longF vs 4000 = false) ?_ fun τ h' hI => ?_
  · repeat with_reducible refine run_seq fun bq hbq => ?_
    refine run_block fun cq hcq => ?_
    subst hcq
    refine run_loop (fun k τ h' => ∃ (i : Nat) (left : Int), k + i = vs.length ∧ longF (vs.drop i) left = longF vs 4000 ∧ 0 ≤ left ∧ left ≤ 4000 ∧ τ 1 = .ptr a 0 ∧ τ 3 = .int .i64 (4000 - left) ∧ τ 4 = .int .i64 i ∧ h' = H) vs.length ?_ ?_
    · exact ⟨0, 4000, rfl, rfl, by decide, by decide, rfl, rfl, rfl, rfl⟩
    · intro c hc k τ h' hI
      obtain ⟨i, left, hk, hix, hl0, hl1, f1, f3, f4, rfl⟩ := hI
      subst hc
      by_cases hi : i < vs.length
      · obtain ⟨v, hv⟩ : ∃ v, vs[i]? = some v := ⟨_, List.getElem?_eq_getElem hi⟩
        obtain ⟨r, hr⟩ := encVs_at vs i hv
        have hr3 : List.drop (i * 8 + 3) (encVs vs) = .bool v.is :: (List.drop 4 (cellsV v) ++ r) := by rw [← List.drop_drop, hr]; rfl
        have hr4 : List.drop (i * 8 + 4) (encVs vs) = .int .i64 v.t.kind :: .int .i64 v.t.n :: .str v.t.name :: .list 4 (encs v.t.args) v.t.args.length .none :: r := by rw [← List.drop_drop, hr]; rfl
        have hdrop : vs.drop i = v :: vs.drop (i + 1) := by
          rw [List.drop_eq_getElem_cons hi]
          rw [List.getElem?_eq_getElem hi] at hv; injection hv with hv; rw [hv]
        rw [hdrop, longF] at hix
        cases hvi : v.is
        · rw [hvi] at hix
          try dsimp only
          repeat first | ((with_reducible first | refine sS ?_ | refine sC ?_); intro bC bR bU hC hR hU; simp only [go_sem, ↓reduceIte, f1, f3, f4, sa, hi, hr3, hvi, wrap_in (show -9223372036854775808 ≤ (i : Int) + 1 by omega) (show (i : Int) + 1 ≤ 9223372036854775807 by omega)]; subst hC hR hU) | (with_reducible refine rN ?_; subst hbq) | (with_reducible refine iR ?_; refine rG (by simp only [compL, gtOf, nthDst]; exact rfl) ?_) | (with_reducible refine rB fun cq hcq => ?_; subst hcq) | with_reducible first | refine nS ?_ | refine rS fun bq hbq => ?_ | refine rK ?_ | refine rE ?_
          refine run_loopN (m := k - 1) (by omega) ⟨i + 1, left, by omega, by simpa using hix, hl0, hl1, f1, f3, rfl, rfl⟩
        · rw [hvi] at hix
          simp only [if_true] at hix
          try dsimp only
          repeat first | ((with_reducible first | refine sS ?_ | refine sC ?_); intro bC bR bU hC hR hU; simp only [go_sem, ↓reduceIte, f1, f3, f4, sa, hi, hr3, hr4, hvi]; subst hC hR hU) | (with_reducible refine rN ?_; subst hbq) | (with_reducible refine iR ?_; refine rG (by simp only [compL, gtOf, nthDst]; exact rfl) ?_) | (with_reducible refine rB fun cq hcq => ?_; subst hcq) | with_reducible first | refine nS ?_ | refine rS fun bq hbq => ?_ | refine rK ?_
          refine refParts_am v.t.size v.t 4000 _ _ (Nat.le_refl _) (by decide) (by decide) ?_
          have hb := (partsL_bound v.t.size).1 v.t 4000 (Nat.le_refl _)
          have hw := wrap_in (show -9223372036854775808 ≤ 4000 - left + partsF v.t 4000 by omega) (show 4000 - left + partsF v.t 4000 ≤ 9223372036854775807 by omega)
          cases hd : decide ((v.t.size : Int) > left)
          · rw [hd] at hix
            simp only [Bool.false_eq_true, if_false] at hix
            have hd' : ¬ (v.t.size : Int) > left := by simpa using hd
            have hps := parts_of_small v.t 4000 (by omega)
            rw [hps] at hw ⊢
            have hneg : decide (4000 - left + (v.t.size : Int) > 4000) = false := by simp; omega
            try dsimp only
            repeat first | ((with_reducible first | refine sS ?_ | refine sC ?_); intro bC bR bU hC hR hU; simp only [go_sem, ↓reduceIte, f1, f3, f4, sa, hi, hvi, hw, hneg, wrap_in (show -9223372036854775808 ≤ (i : Int) + 1 by omega) (show (i : Int) + 1 ≤ 9223372036854775807 by omega)]; subst hC hR hU) | (with_reducible refine rN ?_; subst hbq) | (with_reducible refine iR ?_; refine rG (by simp only [compL, gtOf, nthDst]; exact rfl) ?_) | with_reducible first | refine nS ?_ | refine rS fun bq hbq => ?_ | refine rK ?_ | refine rE ?_
            refine run_loopN (m := k - 1) (by omega) ⟨i + 1, left - v.t.size, by omega, hix, by omega, by omega, f1, ?_, rfl, rfl⟩
            show AV.int .i64 _ = AV.int .i64 _
            congr 1; omega
          · rw [hd] at hix
            simp only [if_true] at hix
            have hd' : (v.t.size : Int) > left := by simpa using hd
            have hneg : decide (4000 - left + partsF v.t 4000 > 4000) = true := by
              have h1 : partsF v.t 4000 > left := by
                by_cases h2 : (v.t.size : Int) > 4000
                · have := (parts_big v.t 4000).2 h2; omega
                · rw [parts_of_small v.t 4000 (by omega)]; exact hd'
              simp; omega
            try dsimp only
            repeat first | ((with_reducible first | refine sS ?_ | refine sC ?_); intro bC bR bU hC hR hU; simp only [go_sem, ↓reduceIte, f1, f3, f4, sa, hi, hvi, hw, hneg]; subst hC hR hU) | (with_reducible refine rN ?_; subst hbq) | (with_reducible refine iR ?_; refine rG (by simp only [compL, gtOf, nthDst]; exact rfl) ?_) | (with_reducible refine r1 ?_; clear hbq bq) | (with_reducible refine iL ?_; refine rL (by rw [Tryz.results37]) fin ?_; simp only [go_sem, ↓reduceIte, aPack, Option.some.injEq, exists_eq_left', f1, f3, f4, sa, hi, hvi, hw, hneg]) | with_reducible first | refine nS ?_ | refine rS fun bq hbq => ?_ | refine rR ?_ | refine r2 ?_ | refine r3 ?_ | refine r4 ?_
            exact ret_as (by rw [← hix, if_pos rfl]) hq
      · rw [List.drop_eq_nil_of_le (by omega), longF] at hix
        try dsimp only
        repeat first | ((with_reducible first | refine sS ?_ | refine sC ?_); intro bC bR bU hC hR hU; simp only [go_sem, ↓reduceIte, f1, f3, f4, sa, hi]; subst hC hR hU) | (with_reducible refine rN ?_; subst hbq) | (with_reducible refine iR ?_; refine rG (by simp only [compL, gtOf, nthDst]; exact rfl) ?_) | (with_reducible refine x1 ?_; clear hbq bq) | with_reducible first | refine nS ?_ | refine rS fun bq hbq => ?_ | refine rXx ?_ | refine x3 ?_ | refine x4 ?_
        refine run_endcut ?_
        exact ⟨f1, rfl, hix.symm⟩
  obtain ⟨f1, rfl, hlg⟩ := hI
  subst hbq
  generalize h' = H1 at *
  rw [hlg] at hq
  simp only [Bool.false_eq_true, if_false] at hq
  have hbad : ∀ v ∈ vs, validF vs v = false → Q (.ret (.int .i64 50)) h := fun v hv e => by
    have hall : vs.all (validF vs) = false := by
      rw [Bool.eq_false_iff]; intro h1
      rw [List.all_eq_true] at h1
      rw [h1 v hv] at e; cases e
    rw [hall] at hq
    exact hq
  try dsimp only
  repeat first | ((with_reducible refine sS ?_); intro bC bR bU hC hR hU; simp only [go_sem, ↓reduceIte, f1, sa]; subst hC hR hU) | (with_reducible refine rN ?_; subst hbq) | (with_reducible refine iR ?_; refine rG (by simp only [compL, gtOf, nthDst]; exact rfl) ?_) | with_reducible first | refine nS ?_ | refine rS fun bq hbq => ?_
  refine run_cutS (fun τ h'' => τ 1 = .ptr a 0 ∧ h'' = H1 ∧ ∀ v ∈ vs, typeOkF v = true) ?_ fun τ h' hI => ?_
  · repeat with_reducible refine run_seq fun bq hbq => ?_
    refine run_block fun cq hcq => ?_
    subst hcq
    refine run_loop (fun k τ h'' => ∃ (i : Nat), k + i = vs.length ∧ (∀ v ∈ vs.take i, typeOkF v = true) ∧ τ 1 = .ptr a 0 ∧ τ 5 = .int .i64 i ∧ h'' = H1) vs.length ?_ ?_
    · exact ⟨0, rfl, fun v hv => absurd hv (by simp), f1, rfl, rfl⟩
    · intro c hc k τ h'' hI
      clear f1
      obtain ⟨i, hk, hok, f1, f5, rfl⟩ := hI
      subst hc
      by_cases hi : i < vs.length
      · obtain ⟨v, hv⟩ : ∃ v, vs[i]? = some v := ⟨_, List.getElem?_eq_getElem hi⟩
        have hvm := List.mem_of_getElem? hv
        obtain ⟨r, hr⟩ := encVs_at vs i hv
        have hr1 : List.drop (i * 8 + 1) (encVs vs) = .str v.type.name :: .list 2 (encTs v.type.args) v.type.args.length .none :: (List.drop 3 (cellsV v) ++ r) := by rw [← List.drop_drop, hr]; rfl
        have hto : typeOkF v = false → Q (.ret (.int .i64 50)) h := fun e => hbad v hvm (by unfold validF; rw [e]; rfl)
        try dsimp only
        repeat first | ((with_reducible first | refine sS ?_ | refine sC ?_); intro bC bR bU hC hR hU; simp only [go_sem, ↓reduceIte, f1, f5, sa, hi, hr, hr1]; subst hC hR hU) | (with_reducible refine rN ?_; subst hbq) | (with_reducible refine iR ?_; refine rG (by simp only [compL, gtOf, nthDst]; exact rfl) ?_) | (with_reducible refine rB fun cq hcq => ?_; subst hcq) | with_reducible first | refine nS ?_ | refine rS fun bq hbq => ?_ | refine rK ?_
        refine refArgs_am v.type _ _ ?_
        rw [argsV_eq]
        cases ho : (argsF v.type).isSome
        · try dsimp only
          repeat first | ((with_reducible first | refine sS ?_ | refine sC ?_); intro bC bR bU hC hR hU; simp only [go_sem, ↓reduceIte, f1, f5, sa, hi, hr, hr1, ho]; subst hC hR hU) | (with_reducible refine rN ?_; subst hbq) | (with_reducible refine iR ?_; refine rG (by simp only [compL, gtOf, nthDst]; exact rfl) ?_) | (with_reducible refine r1 ?_; clear hbq bq) | (with_reducible refine iL ?_; refine rL (by rw [Tryz.results37]) fin ?_; simp only [go_sem, ↓reduceIte, aPack, Option.some.injEq, exists_eq_left', f1, f5, sa, hi, hr, hr1, ho]) | with_reducible first | refine nS ?_ | refine rS fun bq hbq => ?_ | refine rR ?_ | refine r2 ?_ | refine r3 ?_ | refine r4 ?_
          exact hto (by simp only [typeOkF, ho]; rfl)
        cases l0 : decide (v.level < 0)
        case true =>
          try dsimp only
          repeat first | ((with_reducible first | refine sS ?_ | refine sC ?_); intro bC bR bU hC hR hU; simp only [go_sem, ↓reduceIte, f1, f5, sa, hi, hr, hr1, ho, l0]; subst hC hR hU) | (with_reducible refine rN ?_; subst hbq) | (with_reducible refine iR ?_; refine rG (by simp only [compL, gtOf, nthDst]; exact rfl) ?_) | (with_reducible refine r1 ?_; clear hbq bq) | (with_reducible refine iL ?_; refine rL (by rw [Tryz.results37]) fin ?_; simp only [go_sem, ↓reduceIte, aPack, Option.some.injEq, exists_eq_left', f1, f5, sa, hi, hr, hr1, ho, l0]) | with_reducible first | refine nS ?_ | refine rS fun bq hbq => ?_ | refine rR ?_ | refine r2 ?_ | refine r3 ?_ | refine r4 ?_
          exact hto (by simp only [typeOkF, ho, l0]; rfl)
        cases l1 : decide (v.level > 60)
        case true =>
          try dsimp only
          repeat first | ((with_reducible first | refine sS ?_ | refine sC ?_); intro bC bR bU hC hR hU; simp only [go_sem, ↓reduceIte, f1, f5, sa, hi, hr, hr1, ho, l0, l1]; subst hC hR hU) | (with_reducible refine rN ?_; subst hbq) | (with_reducible refine iR ?_; refine rG (by simp only [compL, gtOf, nthDst]; exact rfl) ?_) | (with_reducible refine r1 ?_; clear hbq bq) | (with_reducible refine iL ?_; refine rL (by rw [Tryz.results37]) fin ?_; simp only [go_sem, ↓reduceIte, aPack, Option.some.injEq, exists_eq_left', f1, f5, sa, hi, hr, hr1, ho, l0, l1]) | with_reducible first | refine nS ?_ | refine rS fun bq hbq => ?_ | refine rR ?_ | refine r2 ?_ | refine r3 ?_ | refine r4 ?_
          exact hto (by simp only [typeOkF, ho, l0, l1]; rfl)
        try dsimp only
        repeat first | ((with_reducible first | refine sS ?_ | refine sC ?_); intro bC bR bU hC hR hU; simp only [go_sem, ↓reduceIte, f1, f5, sa, hi, hr, hr1, ho, l0, l1, wrap_in (show -9223372036854775808 ≤ (i : Int) + 1 by omega) (show (i : Int) + 1 ≤ 9223372036854775807 by omega)]; subst hC hR hU) | (with_reducible refine rN ?_; subst hbq) | (with_reducible refine iR ?_; refine rG (by simp only [compL, gtOf, nthDst]; exact rfl) ?_) | with_reducible first | refine nS ?_ | refine rS fun bq hbq => ?_ | refine rK ?_ | refine rE ?_
        refine run_loopN (m := k - 1) (by omega) ⟨i + 1, by omega, fun w hw => ?_, f1, rfl, rfl⟩
        rw [List.take_add_one, hv] at hw
        rcases List.mem_append.1 hw with hw | hw
        · exact hok w hw
        · simp only [Option.toList_some, List.mem_singleton] at hw
          subst hw
          simp only [typeOkF, ho, l0, l1]; rfl
      · rw [List.take_of_length_le (by omega)] at hok
        try dsimp only
        repeat first | ((with_reducible first | refine sS ?_ | refine sC ?_); intro bC bR bU hC hR hU; simp only [go_sem, ↓reduceIte, f1, f5, sa, hi]; subst hC hR hU) | (with_reducible refine rN ?_; subst hbq) | (with_reducible refine iR ?_; refine rG (by simp only [compL, gtOf, nthDst]; exact rfl) ?_) | (with_reducible refine x1 ?_; clear hbq bq) | with_reducible first | refine nS ?_ | refine rS fun bq hbq => ?_ | refine rXx ?_ | refine x3 ?_ | refine x4 ?_
        refine run_endcut ?_
        exact ⟨f1, rfl, hok⟩
  clear f1
  obtain ⟨f1, rfl, hty⟩ := hI
  subst hbq
  generalize h' = H2 at *
  try dsimp only
  repeat first | ((with_reducible refine sS ?_); intro bC bR bU hC hR hU; simp only [go_sem, ↓reduceIte, f1, sa]; subst hC hR hU) | (with_reducible refine rN ?_; subst hbq) | (with_reducible refine iR ?_; refine rG (by simp only [compL, gtOf, nthDst]; exact rfl) ?_) | with_reducible first | refine nS ?_ | refine rS fun bq hbq => ?_
  refine run_cutS (fun τ h2 => τ 1 = .ptr a 0 ∧ HLess h2 H2 ∧ ∀ v ∈ vs, validF vs v = true) ?_ fun τ h' hI => ?_
  · repeat with_reducible refine run_seq fun bq hbq => ?_
    refine run_block fun cq hcq => ?_
    subst hcq
    refine run_loop (fun k τ h2 => ∃ (i : Nat), k + i = vs.length ∧ (∀ v ∈ vs.take i, validF vs v = true) ∧ τ 1 = .ptr a 0 ∧ τ 8 = .int .i64 i ∧ HLess h2 H2) vs.length ?_ ?_
    · exact ⟨0, rfl, fun v hv => absurd hv (by simp), f1, rfl, HLess.refl _⟩
    · intro c hc k τ h2 hI
      clear f1
      obtain ⟨i, hk, hok, f1, f8, hl2⟩ := hI
      subst hc
      have sa2 := hl2 _ _ sa
      by_cases hi : i < vs.length
      · obtain ⟨v, hv⟩ : ∃ v, vs[i]? = some v := ⟨_, List.getElem?_eq_getElem hi⟩
        have hvm := List.mem_of_getElem? hv
        have hva : valAt vs (i : Int) = v := by rw [valAt, Int.toNat_natCast, List.getD_eq_getElem?_getD, hv]; rfl
        obtain ⟨r, hr⟩ := encVs_at vs i hv
        try dsimp only
        repeat first | ((with_reducible first | refine sS ?_ | refine sC ?_); intro bC bR bU hC hR hU; simp only [go_sem, ↓reduceIte, f1, f8, sa2, hi, hr]; subst hC hR hU) | (with_reducible refine rN ?_; subst hbq) | (with_reducible refine iR ?_; refine rG (by simp only [compL, gtOf, nthDst]; exact rfl) ?_) | (with_reducible refine rB fun cq hcq => ?_; subst hcq) | with_reducible first | refine nS ?_ | refine rS fun bq hbq => ?_ | refine rK ?_
        intro p hp
        have pa := ne_of_new hp sa2
        have hlp : HLess (upd h2 p (some (.cells (cellsV v) 62))) H2 := (HLess.one hp).trans hl2
        have sp : (upd h2 p (some (AObj.cells (cellsV v) 62))) p = some (.cells (cellsV v) 62) := upd_same _ _ _
        try dsimp only
        repeat first | ((with_reducible first | refine sS ?_ | refine sC ?_); intro bC bR bU hC hR hU; simp only [go_sem, ↓reduceIte]; subst hC hR hU) | (with_reducible refine rN ?_; subst hbq) | (with_reducible refine iR ?_; refine rG (by simp only [compL, gtOf, nthDst]; exact rfl) ?_) | with_reducible first | refine nS ?_ | refine rS fun bq hbq => ?_
        have sa3 := (HLess.one hp (o := some (.cells (cellsV v) 62))) _ _ sa2
        generalize upd h2 p (some (AObj.cells (cellsV v) 62)) = H3 at *
        have finp : HLess H3 h := hlp.trans fin
        have hto := hty v hvm
        have hvF : validF vs v = (if v.is then inF vs v.level (arityF v.type) (bodyF (arityF v.type) v.t) else isZeroF v.t) := by unfold validF; rw [hto, Bool.true_and]
        have hbadv : validF vs v = false → Q (.ret (.int .i64 50)) h := hbad v hvm
        have hstep : ∀ hx : AHeap, HLess hx H2 → validF vs v = true → ∀ τ2 : Env, τ2 1 = .ptr a 0 → τ2 8 = .int .i64 (i + 1 : Nat) → ∃ (j : Nat), k - 1 + j = vs.length ∧ (∀ w ∈ vs.take j, validF vs w = true) ∧ τ2 1 = .ptr a 0 ∧ τ2 8 = .int .i64 j ∧ HLess hx H2 := by
          intro hx hlx hv1 τ2 g1 g8
          refine ⟨i + 1, by omega, fun w hw => ?_, g1, g8, hlx⟩
          rw [List.take_add_one, hv] at hw
          rcases List.mem_append.1 hw with hw | hw
          · exact hok w hw
          · simp only [Option.toList_some, List.mem_singleton] at hw
            subst hw; exact hv1
        have wi := wrap_in (show -9223372036854775808 ≤ (i : Int) + 1 by omega) (show (i : Int) + 1 ≤ 9223372036854775807 by omega)
        cases hvi : v.is
        · simp only [Bool.not_false]
          rw [hvi] at hvF
          simp only [Bool.false_eq_true, if_false] at hvF
          rw [hvF] at hbadv hstep
          cases z0 : (v.t.kind == 0)
          · try dsimp only
            repeat first | ((with_reducible first | refine sS ?_ | refine sC ?_); intro bC bR bU hC hR hU; simp only [go_sem, ↓reduceIte, f1, f8, sp, hvi, z0]; subst hC hR hU) | (with_reducible refine rN ?_; subst hbq) | (with_reducible refine iR ?_; refine rG (by simp only [compL, gtOf, nthDst]; exact rfl) ?_) | (with_reducible refine r1 ?_; clear hbq bq) | (with_reducible refine iL ?_; refine rL (by rw [Tryz.results37]) finp ?_; simp only [go_sem, ↓reduceIte, aPack, Option.some.injEq, exists_eq_left', f1, f8, sp, hvi, z0]) | with_reducible first | refine nS ?_ | refine rS fun bq hbq => ?_ | refine rR ?_ | refine r2 ?_ | refine r3 ?_ | refine r4 ?_
            exact hbadv (by simp only [isZeroF, z0]; rfl)
          cases z1 : (v.t.n == 0)
          · try dsimp only
            repeat first | ((with_reducible first | refine sS ?_ | refine sC ?_); intro bC bR bU hC hR hU; simp only [go_sem, ↓reduceIte, f1, f8, sp, hvi, z0, z1]; subst hC hR hU) | (with_reducible refine rN ?_; subst hbq) | (with_reducible refine iR ?_; refine rG (by simp only [compL, gtOf, nthDst]; exact rfl) ?_) | (with_reducible refine r1 ?_; clear hbq bq) | (with_reducible refine iL ?_; refine rL (by rw [Tryz.results37]) finp ?_; simp only [go_sem, ↓reduceIte, aPack, Option.some.injEq, exists_eq_left', f1, f8, sp, hvi, z0, z1]) | with_reducible first | refine nS ?_ | refine rS fun bq hbq => ?_ | refine rR ?_ | refine r2 ?_ | refine r3 ?_ | refine r4 ?_
            exact hbadv (by simp only [isZeroF, z0, z1]; rfl)
          cases z2 : (v.t.name.toList == noNameS.toList)
          · try dsimp only
            repeat first | ((with_reducible first | refine sS ?_ | refine sC ?_); intro bC bR bU hC hR hU; simp only [go_sem, ↓reduceIte, f1, f8, sp, hvi, z0, z1, z2]; subst hC hR hU) | (with_reducible refine rN ?_; subst hbq) | (with_reducible refine iR ?_; refine rG (by simp only [compL, gtOf, nthDst]; exact rfl) ?_) | (with_reducible refine r1 ?_; clear hbq bq) | (with_reducible refine iL ?_; refine rL (by rw [Tryz.results37]) finp ?_; simp only [go_sem, ↓reduceIte, aPack, Option.some.injEq, exists_eq_left', f1, f8, sp, hvi, z0, z1, z2]) | with_reducible first | refine nS ?_ | refine rS fun bq hbq => ?_ | refine rR ?_ | refine r2 ?_ | refine r3 ?_ | refine r4 ?_
            exact hbadv (by unfold isZeroF; rw [z0, z1, show (v.t.name.toList == (⟨#[]⟩ : ByteArray).toList) = false from z2]; rfl)
          cases z3 : decide ((v.t.args.length : Int) > 0)
          · have z3' : ((v.t.args.length : Int) == 0) = true := by simp at z3 ⊢; omega
            try dsimp only
            repeat first | ((with_reducible first | refine sS ?_ | refine sC ?_); intro bC bR bU hC hR hU; simp only [go_sem, ↓reduceIte, f1, f8, sp, hvi, z0, z1, z2, z3, wi]; subst hC hR hU) | (with_reducible refine rN ?_; subst hbq) | (with_reducible refine iR ?_; refine rG (by simp only [compL, gtOf, nthDst]; exact rfl) ?_) | (with_reducible refine x1 ?_; clear hbq bq) | with_reducible first | refine nS ?_ | refine rS fun bq hbq => ?_ | refine rK ?_ | refine rXx ?_ | refine x4 ?_
            refine run_loopN (m := k - 1) (by omega) (hstep H3 hlp ?_ _ f1 rfl)
            unfold isZeroF; rw [z0, z1, show (v.t.name.toList == (⟨#[]⟩ : ByteArray).toList) = true from z2, z3']; rfl
          · have z3'' : (v.t.args.length : Int) > 0 := of_decide_eq_true z3
            have z3' : ((v.t.args.length : Int) == 0) = false := beq_eq_false_iff_ne.2 (by omega)
            try dsimp only
            repeat first | ((with_reducible first | refine sS ?_ | refine sC ?_); intro bC bR bU hC hR hU; simp only [go_sem, ↓reduceIte, f1, f8, sp, hvi, z0, z1, z2, z3]; subst hC hR hU) | (with_reducible refine rN ?_; subst hbq) | (with_reducible refine iR ?_; refine rG (by simp only [compL, gtOf, nthDst]; exact rfl) ?_) | (with_reducible refine r1 ?_; clear hbq bq) | (with_reducible refine iL ?_; refine rL (by rw [Tryz.results37]) finp ?_; simp only [go_sem, ↓reduceIte, aPack, Option.some.injEq, exists_eq_left', f1, f8, sp, hvi, z0, z1, z2, z3]) | with_reducible first | refine nS ?_ | refine rS fun bq hbq => ?_ | refine rR ?_ | refine r2 ?_ | refine r3 ?_ | refine r4 ?_
            exact hbadv (by unfold isZeroF; rw [z3', Bool.and_false])
        · simp only [Bool.not_true]
          have hs4 : v.t.size ≤ 4000 := by have := long_small vs 4000 hlg v hvm hvi; omega
          rw [hvi] at hvF
          simp only [if_true] at hvF
          rw [← in_same vs v hs4] at hvF
          unfold refInF at hvF
          rw [hvF] at hbadv hstep
          have hN := args_len v.type
          try dsimp only
          repeat first | ((with_reducible refine sS ?_); intro bC bR bU hC hR hU; simp only [go_sem, ↓reduceIte, f1, f8, sp, sa3, hvi]; subst hC hR hU) | (with_reducible refine rN ?_; subst hbq) | (with_reducible refine iR ?_; refine rG (by simp only [compL, gtOf, nthDst]; exact rfl) ?_) | with_reducible first | refine rS fun bq hbq => ?_ | refine rK ?_
          refine arity_am vs hvs tk i (by omega) (by omega) _ _ ?_
          rw [hva]
          generalize arityF v.type = N at *
          try dsimp only
          repeat first | ((with_reducible refine sS ?_); intro bC bR bU hC hR hU; simp only [go_sem, ↓reduceIte, f1, f8, sp, sa3, hvi]; subst hC hR hU) | (with_reducible refine rN ?_; subst hbq) | (with_reducible refine iR ?_; refine rG (by simp only [compL, gtOf, nthDst]; exact rfl) ?_) | with_reducible first | refine nS ?_ | refine rS fun bq hbq => ?_
          refine deep_am v.t.size v.t 108 _ _ (Nat.le_refl _) (by omega) (by omega) (by decide) ?_
          cases d1 : decide (deepF v.t 108 > 108)
          case true =>
            try dsimp only
            repeat first | ((with_reducible first | refine sS ?_ | refine sC ?_); intro bC bR bU hC hR hU; simp only [go_sem, ↓reduceIte, f1, f8, sp, sa3, d1]; subst hC hR hU) | (with_reducible refine rN ?_; subst hbq) | (with_reducible refine iR ?_; refine rG (by simp only [compL, gtOf, nthDst]; exact rfl) ?_) | (with_reducible refine r1 ?_; clear hbq bq) | (with_reducible refine iL ?_; refine rL (by rw [Tryz.results37]) finp ?_; simp only [go_sem, ↓reduceIte, aPack, Option.some.injEq, exists_eq_left', f1, f8, sp, sa3, d1]) | with_reducible first | refine nS ?_ | refine rS fun bq hbq => ?_ | refine rR ?_ | refine r2 ?_ | refine r3 ?_ | refine r4 ?_
            exact hbadv (by rw [d1]; rfl)
          try dsimp only
          repeat first | ((with_reducible first | refine sS ?_ | refine sC ?_); intro bC bR bU hC hR hU; simp only [go_sem, ↓reduceIte, f1, f8, sp, sa3, d1]; subst hC hR hU) | (with_reducible refine rN ?_; subst hbq) | (with_reducible refine iR ?_; refine rG (by simp only [compL, gtOf, nthDst]; exact rfl) ?_) | with_reducible first | refine nS ?_ | refine rS fun bq hbq => ?_ | refine rK ?_
          refine refBody_am v.t N _ _ (by omega) ?_
          have hbl := body_same N v.t
          have hbz := body_size N v.t
          have hbr := refBody_size N v.t
          generalize bodyOut (refBodyF N v.t) = B at *
          obtain ⟨b, ok⟩ := B
          simp only at hbadv hstep hbr ⊢
          try dsimp only
          repeat (((with_reducible refine sS ?_); intro bC bR bU hC hR hU; simp only [go_sem, ↓reduceIte, f1, f8, sp, sa3, d1]; subst hC hR hU))
          intro q hq2
          have qp := ne_of_new hq2 sp
          have qa := ne_of_new hq2 sa3
          have hlq : HLess (upd H3 q (some (.cells (cellsT b) 27))) H3 := HLess.one hq2
          have finq := hlq.trans finp
          cases ok
          case false =>
            try dsimp only
            repeat first | ((with_reducible first | refine sS ?_ | refine sC ?_); intro bC bR bU hC hR hU; simp only [go_sem, ↓reduceIte, f1, f8, sp, sa3]; subst hC hR hU) | (with_reducible refine rN ?_; subst hbq) | (with_reducible refine iR ?_; refine rG (by simp only [compL, gtOf, nthDst]; exact rfl) ?_) | (with_reducible refine r1 ?_; clear hbq bq) | (with_reducible refine iL ?_; refine rL (by rw [Tryz.results37]) finq ?_; simp only [go_sem, ↓reduceIte, aPack, Option.some.injEq, exists_eq_left', f1, f8, sp, sa3]) | with_reducible first | refine nS ?_ | refine rS fun bq hbq => ?_ | refine rR ?_ | refine r2 ?_ | refine r3 ?_ | refine r4 ?_
            exact hbadv (by rw [Bool.false_and, Bool.and_false])
          try dsimp only
          repeat first | ((with_reducible refine sS ?_); intro bC bR bU hC hR hU; simp only [go_sem, ↓reduceIte, f1, f8, sp, sa3, qp, qa]; subst hC hR hU) | (with_reducible refine rN ?_; subst hbq) | (with_reducible refine iR ?_; refine rG (by simp only [compL, gtOf, nthDst]; exact rfl) ?_) | with_reducible first | refine nS ?_ | refine rS fun bq hbq => ?_
          refine deep_am b.size b 100 _ _ (Nat.le_refl _) (by omega) (by omega) (by decide) ?_
          cases d2 : decide (deepF b 100 > 100)
          case true =>
            try dsimp only
            repeat first | ((with_reducible first | refine sS ?_ | refine sC ?_); intro bC bR bU hC hR hU; simp only [go_sem, ↓reduceIte, f1, f8, sp, sa3, qp, qa, d2]; subst hC hR hU) | (with_reducible refine rN ?_; subst hbq) | (with_reducible refine iR ?_; refine rG (by simp only [compL, gtOf, nthDst]; exact rfl) ?_) | (with_reducible refine r1 ?_; clear hbq bq) | (with_reducible refine iL ?_; refine rL (by rw [Tryz.results37]) finq ?_; simp only [go_sem, ↓reduceIte, aPack, Option.some.injEq, exists_eq_left', f1, f8, sp, sa3, qp, qa, d2]) | with_reducible first | refine nS ?_ | refine rS fun bq hbq => ?_ | refine rR ?_ | refine r2 ?_ | refine r3 ?_ | refine r4 ?_
            exact hbadv (by rw [d2, Bool.not_true, Bool.false_and, Bool.and_false, Bool.and_false])
          try dsimp only
          repeat (((with_reducible refine sS ?_); intro bC bR bU hC hR hU; simp only [go_sem, ↓reduceIte, f1, f8, sp, sa3, qp, qa, d2]; subst hC hR hU))
          refine lams_am v.t N _ _ (by omega) ?_
          cases d3 : lamsF N v.t
          · try dsimp only
            repeat first | ((with_reducible first | refine sS ?_ | refine sC ?_); intro bC bR bU hC hR hU; simp only [go_sem, ↓reduceIte, f1, f8, sp, sa3, qp, qa, d2, d3]; subst hC hR hU) | (with_reducible refine rN ?_; subst hbq) | (with_reducible refine iR ?_; refine rG (by simp only [compL, gtOf, nthDst]; exact rfl) ?_) | (with_reducible refine r1 ?_; clear hbq bq) | (with_reducible refine iL ?_; refine rL (by rw [Tryz.results37]) finq ?_; simp only [go_sem, ↓reduceIte, aPack, Option.some.injEq, exists_eq_left', f1, f8, sp, sa3, qp, qa, d2, d3]) | with_reducible first | refine nS ?_ | refine rS fun bq hbq => ?_ | refine rR ?_ | refine r2 ?_ | refine r3 ?_ | refine r4 ?_
            exact hbadv (by rw [d3, Bool.false_and, Bool.and_false, Bool.and_false, Bool.and_false])
          try dsimp only
          repeat (((with_reducible refine sS ?_); intro bC bR bU hC hR hU; simp only [go_sem, ↓reduceIte, f1, f8, sp, sa3, qp, qa, d2, d3]; subst hC hR hU))
          refine refFits_am vs hvs tk b.size b N _ _ (Nat.le_refl _) (by omega) (by omega) ?_
          cases d4 : fitsF vs b (N : Int)
          · try dsimp only
            repeat first | ((with_reducible first | refine sS ?_ | refine sC ?_); intro bC bR bU hC hR hU; simp only [go_sem, ↓reduceIte, f1, f8, sp, sa3, qp, qa, d2, d3, d4]; subst hC hR hU) | (with_reducible refine rN ?_; subst hbq) | (with_reducible refine iR ?_; refine rG (by simp only [compL, gtOf, nthDst]; exact rfl) ?_) | (with_reducible refine r1 ?_; clear hbq bq) | (with_reducible refine iL ?_; refine rL (by rw [Tryz.results37]) finq ?_; simp only [go_sem, ↓reduceIte, aPack, Option.some.injEq, exists_eq_left', f1, f8, sp, sa3, qp, qa, d2, d3, d4]) | with_reducible first | refine nS ?_ | refine rS fun bq hbq => ?_ | refine rR ?_ | refine r2 ?_ | refine r3 ?_ | refine r4 ?_
            exact hbadv (by rw [d4, Bool.false_and, Bool.and_false, Bool.and_false, Bool.and_false, Bool.and_false])
          try dsimp only
          repeat (((with_reducible refine sS ?_); intro bC bR bU hC hR hU; simp only [go_sem, ↓reduceIte, f1, f8, sp, sa3, qp, qa, d2, d3, d4]; subst hC hR hU))
          refine low_am vs tk v.level b.size b _ _ (Nat.le_refl _) (by omega) ((fits_vars vs b.size).1 b _ (Nat.le_refl _) d4) ?_
          cases d5 : seesF vs v.level b
          · try dsimp only
            repeat first | ((with_reducible first | refine sS ?_ | refine sC ?_); intro bC bR bU hC hR hU; simp only [go_sem, ↓reduceIte, f1, f8, sp, sa3, qp, qa, d2, d3, d4, d5]; subst hC hR hU) | (with_reducible refine rN ?_; subst hbq) | (with_reducible refine iR ?_; refine rG (by simp only [compL, gtOf, nthDst]; exact rfl) ?_) | (with_reducible refine r1 ?_; clear hbq bq) | (with_reducible refine iL ?_; refine rL (by rw [Tryz.results37]) finq ?_; simp only [go_sem, ↓reduceIte, aPack, Option.some.injEq, exists_eq_left', f1, f8, sp, sa3, qp, qa, d2, d3, d4, d5]) | with_reducible first | refine nS ?_ | refine rS fun bq hbq => ?_ | refine rR ?_ | refine r2 ?_ | refine r3 ?_ | refine r4 ?_
            exact hbadv (by rw [d5, Bool.and_false, Bool.and_false, Bool.and_false, Bool.and_false, Bool.and_false])
          try dsimp only
          repeat first | ((with_reducible first | refine sS ?_ | refine sC ?_); intro bC bR bU hC hR hU; simp only [go_sem, ↓reduceIte, f1, f8, sp, sa3, qp, qa, d2, d3, d4, d5, wi]; subst hC hR hU) | (with_reducible refine rN ?_; subst hbq) | (with_reducible refine iR ?_; refine rG (by simp only [compL, gtOf, nthDst]; exact rfl) ?_) | with_reducible first | refine nS ?_ | refine rK ?_ | refine rE ?_
          refine run_loopN (m := k - 1) (by omega) (hstep _ (hlq.trans hlp) ?_ _ f1 rfl)
          rw [d1, d2, d3, d4, d5]; rfl
      · rw [List.take_of_length_le (by omega)] at hok
        try dsimp only
        repeat first | ((with_reducible first | refine sS ?_ | refine sC ?_); intro bC bR bU hC hR hU; simp only [go_sem, ↓reduceIte, f1, f8, sa2, hi]; subst hC hR hU) | (with_reducible refine rN ?_; subst hbq) | (with_reducible refine iR ?_; refine rG (by simp only [compL, gtOf, nthDst]; exact rfl) ?_) | (with_reducible refine x1 ?_; clear hbq bq) | with_reducible first | refine nS ?_ | refine rS fun bq hbq => ?_ | refine rXx ?_ | refine x3 ?_ | refine x4 ?_
        refine run_endcut ?_
        exact ⟨f1, hl2, hok⟩
  · clear f1
    obtain ⟨f1, hl2, hok⟩ := hI
    subst hbq
    have sa2 := hl2 _ _ sa
    have hall : vs.all (validF vs) = true := by rw [List.all_eq_true]; exact hok
    have hg := good_of vs hlg hall
    rw [hall] at hq
    simp only [if_true] at hq
    have fin2 : HLess h' h := hl2.trans fin
    try dsimp only
    repeat first | ((with_reducible refine sS ?_); intro bC bR bU hC hR hU; simp only [go_sem, ↓reduceIte, f1, sa2]; subst hC hR hU) | (with_reducible refine iR ?_; refine rG (by simp only [compL, gtOf, nthDst]; exact rfl) ?_) | with_reducible refine rS fun bq hbq => ?_
    refine round_am vs hvs hg.plain hg.sizes tk _ _ ?_
    cases hc : circlesF vs
    · try dsimp only
      repeat first | ((with_reducible first | refine sS ?_ | refine sC ?_); intro bC bR bU hC hR hU; simp only [go_sem, ↓reduceIte, f1, sa2, hc]; subst hC hR hU) | (with_reducible refine rN ?_; subst hbq) | (with_reducible refine iR ?_; refine rG (by simp only [compL, gtOf, nthDst]; exact rfl) ?_) | (with_reducible refine iL ?_; refine rL (by rw [Tryz.results37]) fin2 ?_; simp only [go_sem, ↓reduceIte, aPack, Option.some.injEq, exists_eq_left', f1, sa2, hc]) | with_reducible first | refine nS ?_ | refine rS fun bq hbq => ?_ | refine rK ?_ | refine rR ?_
      exact ret_as (by rw [hc]; first | done | rfl) hq
    · try dsimp only
      repeat first | ((with_reducible first | refine sS ?_ | refine sC ?_); intro bC bR bU hC hR hU; simp only [go_sem, ↓reduceIte, f1, sa2, hc]; subst hC hR hU) | (with_reducible refine rN ?_; subst hbq) | (with_reducible refine iR ?_; refine rG (by simp only [compL, gtOf, nthDst]; exact rfl) ?_) | (with_reducible refine r1 ?_; clear hbq bq) | (with_reducible refine iL ?_; refine rL (by rw [Tryz.results37]) fin2 ?_; simp only [go_sem, ↓reduceIte, aPack, Option.some.injEq, exists_eq_left', f1, sa2, hc]) | with_reducible first | refine nS ?_ | refine rS fun bq hbq => ?_ | refine rR ?_
      exact ret_as (by rw [hc]; first | done | rfl) hq
/- fit, fitting, Fits of both sides. -/


theorem sizedS_small (t : Term) (h : (sizedF t == 0) = true) : t.size ≤ 4000 := by
  refine parts_small t fun hp => ?_
  unfold sizedF at h
  rw [if_pos hp] at h
  exact absurd h (by decide)
def fitErrS (vs : List Va) (t : Term) : Int := if sizedF t == 0 then (if fitsF vs t 0 then 0 else 6) else sizedF t
def fitErrsS (vs : List Va) : List Term → Int
  | [] => 0
  | t :: ts => if fitErrS vs t == 0 then fitErrsS vs ts else fitErrS vs t
theorem fittingS_am (vs : List Va) (hvs : vs.length ≤ 1000000) (tk : Tok) (l : List Term) (h : AHeap) (Q : AOut → AHeap → Prop) (hl : l.length ≤ 1000000000) (hq : Q (.ret (.int .i64 (if checkF vs == 0 then fitErrsS vs l else checkF vs))) h) : AmCalls Tryz.prog 57 [.agg [.list 8 (encVs vs) vs.length tk], .list 4 (encs l) l.length .none] h Q := by
  refine AmCalls.of_sem (fn := Tryz.f57) Tryz.func57 rfl (by kernel_rfl) (by rw [Tryz.ntmps57]; simp) (enters_of Tryz.func57 (by kernel_rfl) (by kernel_rfl)) ?_
  try dsimp only
  repeat first | ((with_reducible refine sS ?_); intro bC bR bU hC hR hU; simp only [go_sem, ↓reduceIte]; subst hC hR hU) | (with_reducible refine iR ?_; refine rG (by simp only [compL, gtOf, nthDst]; exact rfl) ?_) | with_reducible refine rS fun bq hbq => ?_
  intro a ha
  have fin : HLess (upd h a (some (.cells [.list 8 (encVs vs) vs.length tk] 24))) h := (HLess.refl h).new ha
  try dsimp only
  repeat first | ((with_reducible refine sS ?_); intro bC bR bU hC hR hU; simp only [go_sem, ↓reduceIte]; subst hC hR hU) | (with_reducible refine rN ?_; subst hbq) | (with_reducible refine iR ?_; refine rG (by simp only [compL, gtOf, nthDst]; exact rfl) ?_) | with_reducible first | refine nS ?_ | refine rS fun bq hbq => ?_
  refine check_am vs hvs tk _ _ ?_
  cases c0 : (checkF vs == 0)
  · rw [c0] at hq
    try dsimp only
    repeat first | ((with_reducible first | refine sS ?_ | refine sC ?_); intro bC bR bU hC hR hU; simp only [go_sem, ↓reduceIte, c0]; subst hC hR hU) | (with_reducible refine rN ?_; subst hbq) | (with_reducible refine iR ?_; refine rG (by simp only [compL, gtOf, nthDst]; exact rfl) ?_) | (with_reducible refine r1 ?_; clear hbq bq) | (with_reducible refine iL ?_; refine rL (by rw [Tryz.results57]) fin ?_; simp only [go_sem, ↓reduceIte, aPack, Option.some.injEq, exists_eq_left', c0]) | with_reducible first | refine nS ?_ | refine rS fun bq hbq => ?_ | refine rR ?_
    exact hq
  rw [c0] at hq
  simp only [if_true] at hq
  try dsimp only
  repeat first | ((with_reducible first | refine sS ?_ | refine sC ?_); intro bC bR bU hC hR hU; simp only [go_sem, ↓reduceIte, c0]; subst hC hR hU) | (with_reducible refine rN ?_; subst hbq) | (with_reducible refine iR ?_; refine rG (by simp only [compL, gtOf, nthDst]; exact rfl) ?_) | (with_reducible refine rB fun cq hcq => ?_; subst hcq) | with_reducible first | refine nS ?_ | refine rS fun bq hbq => ?_ | refine rK ?_
  refine run_loop (fun k τ h' => ∃ i : Nat, k + i = l.length ∧ τ 2 = .ptr a 0 ∧ τ 14 = .list 4 (encs l) l.length .none ∧ τ 15 = .int .i64 l.length ∧ τ 16 = .int .i64 i ∧ HLess h' h ∧ h' a = some (.cells [.list 8 (encVs vs) vs.length tk] 24) ∧ fitErrsS vs (l.drop i) = fitErrsS vs l) l.length ?_ ?_
  · exact ⟨0, rfl, rfl, rfl, rfl, rfl, fin, upd_same _ _ _, rfl⟩
  · intro c hc k τ h' hI
    obtain ⟨i, hk, f2, f14, f15, f16, hl', ma, hix⟩ := hI
    subst hc
    by_cases hi : i < l.length
    · obtain ⟨u, hu⟩ : ∃ u, l[i]? = some u := ⟨_, List.getElem?_eq_getElem hi⟩
      obtain ⟨r, hr⟩ := encs_at l i hu
      have hdrop : l.drop i = u :: l.drop (i + 1) := by
        rw [List.drop_eq_getElem_cons hi]
        rw [List.getElem?_eq_getElem hi] at hu; injection hu with hu; rw [hu]
      rw [hdrop, fitErrsS] at hix
      try dsimp only
      repeat first | ((with_reducible first | refine sS ?_ | refine sC ?_); intro bC bR bU hC hR hU; simp only [go_sem, ↓reduceIte, f2, f14, f15, f16, hi, hr]; subst hC hR hU) | (with_reducible refine rN ?_; subst hbq) | (with_reducible refine iR ?_; refine rG (by simp only [compL, gtOf, nthDst]; exact rfl) ?_) | (with_reducible refine rB fun cq hcq => ?_; subst hcq) | with_reducible first | refine nS ?_ | refine rS fun bq hbq => ?_ | refine rK ?_
      intro b hb
      have hba := ne_of_new hb ma
      have fin : HLess (upd h' b (some (.cells (cellsT u) 27))) h := hl'.new (hl'.none hb)
      try dsimp only
      repeat first | ((with_reducible refine sS ?_); intro bC bR bU hC hR hU; simp only [go_sem, ↓reduceIte, f2, f14, f15, f16, ma, hba]; subst hC hR hU) | (with_reducible refine rN ?_; subst hbq) | (with_reducible refine iR ?_; refine rG (by simp only [compL, gtOf, nthDst]; exact rfl) ?_) | with_reducible first | refine nS ?_ | refine rS fun bq hbq => ?_
      refine sized_am u _ _ ?_
      cases hs : (sizedF u == 0)
      · rw [show fitErrS vs u = sizedF u by simp only [fitErrS, hs]; rfl, hs] at hix
        try dsimp only
        repeat first | ((with_reducible first | refine sS ?_ | refine sC ?_); intro bC bR bU hC hR hU; simp only [go_sem, ↓reduceIte, f2, f14, f15, f16, ma, hba, hs]; subst hC hR hU) | (with_reducible refine rN ?_; subst hbq) | (with_reducible refine iR ?_; refine rG (by simp only [compL, gtOf, nthDst]; exact rfl) ?_) | (with_reducible refine r1 ?_; clear hbq bq) | (with_reducible refine iL ?_; refine rL (by rw [Tryz.results57]) fin ?_; simp only [go_sem, ↓reduceIte, aPack, Option.some.injEq, exists_eq_left', f2, f14, f15, f16, ma, hba, hs]) | with_reducible first | refine nS ?_ | refine rS fun bq hbq => ?_ | refine rR ?_ | refine r3 ?_ | refine r4 ?_
        exact ret_as (by rw [← hix]; rfl) hq
      · have hsz := sizedS_small u hs
        try dsimp only
        repeat first | ((with_reducible first | refine sS ?_ | refine sC ?_); intro bC bR bU hC hR hU; simp only [go_sem, ↓reduceIte, f2, f14, f15, f16, ma, hba, hs]; subst hC hR hU) | (with_reducible refine rN ?_; subst hbq) | (with_reducible refine iR ?_; refine rG (by simp only [compL, gtOf, nthDst]; exact rfl) ?_) | with_reducible first | refine nS ?_ | refine rS fun bq hbq => ?_ | refine rK ?_
        refine fits_am vs hvs tk u.size u 0 _ _ (Nat.le_refl _) (by decide) (by omega) ?_
        cases hf : fitsF vs u 0
        · rw [show fitErrS vs u = 6 by simp only [fitErrS, hs, hf]; rfl] at hix
          try dsimp only
          repeat first | ((with_reducible first | refine sS ?_ | refine sC ?_); intro bC bR bU hC hR hU; simp only [go_sem, ↓reduceIte, f2, f14, f15, f16, ma, hba, hs, hf]; subst hC hR hU) | (with_reducible refine rN ?_; subst hbq) | (with_reducible refine iR ?_; refine rG (by simp only [compL, gtOf, nthDst]; exact rfl) ?_) | (with_reducible refine r1 ?_; clear hbq bq) | (with_reducible refine iL ?_; refine rL (by rw [Tryz.results57]) fin ?_; simp only [go_sem, ↓reduceIte, aPack, Option.some.injEq, exists_eq_left', f2, f14, f15, f16, ma, hba, hs, hf]) | with_reducible first | refine nS ?_ | refine rS fun bq hbq => ?_ | refine rR ?_ | refine r3 ?_ | refine r4 ?_
          exact ret_as (by rw [← hix]; rfl) hq
        · rw [show fitErrS vs u = 0 by simp only [fitErrS, hs, hf]; rfl] at hix
          try dsimp only
          repeat first | ((with_reducible first | refine sS ?_ | refine sC ?_); intro bC bR bU hC hR hU; simp only [go_sem, ↓reduceIte, f2, f14, f15, f16, ma, hba, hs, hf, wrap_in (show -9223372036854775808 ≤ (i : Int) + 1 by omega) (show (i : Int) + 1 ≤ 9223372036854775807 by omega)]; subst hC hR hU) | (with_reducible refine rN ?_; subst hbq) | (with_reducible refine iR ?_; refine rG (by simp only [compL, gtOf, nthDst]; exact rfl) ?_) | with_reducible first | refine nS ?_ | refine rK ?_ | refine rE ?_
          refine run_loopN (m := k - 1) (by omega) ⟨i + 1, by omega, ?_⟩
          simp only [go_sem, ↓reduceIte, f2, f14, f15, f16, hba, ma]
          exact ⟨rfl, fin, hix⟩
    · rw [List.drop_eq_nil_of_le (by omega), fitErrsS] at hix
      try dsimp only
      repeat first | ((with_reducible first | refine sS ?_ | refine sC ?_); intro bC bR bU hC hR hU; simp only [go_sem, ↓reduceIte, f2, f14, f15, f16, hi]; subst hC hR hU) | (with_reducible refine rN ?_; subst hbq) | (with_reducible refine iR ?_; refine rG (by simp only [compL, gtOf, nthDst]; exact rfl) ?_) | (with_reducible refine x1 ?_; clear hbq bq) | (with_reducible refine iL ?_; refine rL (by rw [Tryz.results57]) hl' ?_; simp only [go_sem, ↓reduceIte, aPack, Option.some.injEq, exists_eq_left', f2, f14, f15, f16, hi]) | with_reducible first | refine nS ?_ | refine rS fun bq hbq => ?_ | refine rXx ?_ | refine rR ?_ | refine x3 ?_ | refine x4 ?_
      rw [hix]; exact hq
theorem build25_1 (t : Term) : aBuildSlice Tryz.prog 25 1 [(0, .agg (cellsT t))] = some (.list 4 (cellsT t) 1 .full) := build1 el_25 sz_27 ze_27 rfl rfl rfl (by decide)
theorem fitsS_am (vs : List Va) (hvs : vs.length ≤ 1000000) (tk : Tok) (t : Term) (h : AHeap) (Q : AOut → AHeap → Prop) (hq : Q (.ret (.int .i64 (if checkF vs == 0 then fitErrS vs t else checkF vs))) h) : AmCalls Tryz.prog 23 [.agg [.list 8 (encVs vs) vs.length tk], enc t] h Q := by
  refine AmCalls.of_sem (fn := Tryz.f23) Tryz.func23 rfl (by kernel_rfl) (by rw [Tryz.ntmps23]; simp) (enters_of Tryz.func23 (by kernel_rfl) (by kernel_rfl)) ?_
  try dsimp only
  repeat first | ((with_reducible refine sS ?_); intro bC bR bU hC hR hU; simp only [go_sem, ↓reduceIte]; subst hC hR hU) | (with_reducible refine iR ?_; refine rG (by simp only [compL, gtOf, nthDst]; exact rfl) ?_) | with_reducible refine rS fun bq hbq => ?_
  intro a ha
  try dsimp only
  repeat (((with_reducible refine sS ?_); intro bC bR bU hC hR hU; simp only [go_sem, ↓reduceIte]; subst hC hR hU))
  intro b hb
  have e := fresh_if hb
  have fin : HLess (upd (upd h a (some (.cells [.list 8 (encVs vs) vs.length tk] 24))) b (some (.cells (cellsT t) 27))) h := (HLess.refl h).new ha |>.new e.2
  try dsimp only
  repeat first | ((with_reducible refine sS ?_); intro bC bR bU hC hR hU; simp only [go_sem, ↓reduceIte, e.1, e.1.symm, build25_1]; subst hC hR hU) | (with_reducible refine rN ?_; subst hbq) | (with_reducible refine iR ?_; refine rG (by simp only [compL, gtOf, nthDst]; exact rfl) ?_) | with_reducible first | refine nS ?_ | refine rS fun bq hbq => ?_
  have e1 : encs [t] = cellsT t := by rw [encs_eq]; simp
  refine AmCalls.args (args' := [.agg [.list 8 (encVs vs) vs.length tk], .list 4 (encs [t]) ([t] : List Term).length .none]) (.cons (LeAV.refl _) (.cons (by rw [e1]; exact LeAV.list _ _ _ _) .nil)) (fittingS_am vs hvs tk [t] _ _ (by simp) ?_)
  try dsimp only
  repeat first | ((with_reducible refine sS ?_); intro bC bR bU hC hR hU; simp only [go_sem, ↓reduceIte, e.1, e.1.symm]; subst hC hR hU) | (with_reducible refine rN ?_; subst hbq) | (with_reducible refine iL ?_; refine rL (by rw [Tryz.results23]) fin ?_; simp only [go_sem, ↓reduceIte, aPack, Option.some.injEq, exists_eq_left', e.1, e.1.symm]) | with_reducible first | refine nS ?_ | refine rR ?_
  refine ret_as ?_ hq
  rw [fitErrsS, fitErrsS]
  cases h1 : (fitErrS vs t == 0)
  · rfl
  · have : fitErrS vs t = 0 := by simpa using h1
    rw [this]; rfl
theorem refFitS_am (vs : List Va) (hvs : vs.length ≤ 1000000) (tk : Tok) (t : Term) (h : AHeap) (Q : AOut → AHeap → Prop) (hq : Q (.ret (.int .i64 (fitErrS vs t))) h) : AmCalls Tryz.prog 62 [.agg [.list 8 (encVs vs) vs.length tk], enc t] h Q := by
  refine AmCalls.of_sem (fn := Tryz.f62) Tryz.func62 rfl (by kernel_rfl) (by rw [Tryz.ntmps62]; simp) (enters_of Tryz.func62 (by kernel_rfl) (by kernel_rfl)) ?_
  try dsimp only
  repeat first | ((with_reducible refine sS ?_); intro bC bR bU hC hR hU; simp only [go_sem, ↓reduceIte]; subst hC hR hU) | (with_reducible refine iR ?_; refine rG (by simp only [compL, gtOf, nthDst]; exact rfl) ?_) | with_reducible refine rS fun bq hbq => ?_
  intro a ha
  try dsimp only
  repeat (((with_reducible refine sS ?_); intro bC bR bU hC hR hU; simp only [go_sem, ↓reduceIte]; subst hC hR hU))
  intro b hb
  have e := fresh_if hb
  have fin : HLess (upd (upd h a (some (.cells [.list 8 (encVs vs) vs.length tk] 24))) b (some (.cells (cellsT t) 27))) h := (HLess.refl h).new ha |>.new e.2
  try dsimp only
  repeat first | ((with_reducible refine sS ?_); intro bC bR bU hC hR hU; simp only [go_sem, ↓reduceIte, e.1, e.1.symm]; subst hC hR hU) | (with_reducible refine rN ?_; subst hbq) | (with_reducible refine iR ?_; refine rG (by simp only [compL, gtOf, nthDst]; exact rfl) ?_) | with_reducible first | refine nS ?_ | refine rS fun bq hbq => ?_
  refine refSized_am t _ _ ?_
  rw [← sized_same]
  cases hs : (sizedF t == 0)
  · try dsimp only
    repeat first | ((with_reducible first | refine sS ?_ | refine sC ?_); intro bC bR bU hC hR hU; simp only [go_sem, ↓reduceIte, e.1, e.1.symm, hs]; subst hC hR hU) | (with_reducible refine rN ?_; subst hbq) | (with_reducible refine iR ?_; refine rG (by simp only [compL, gtOf, nthDst]; exact rfl) ?_) | (with_reducible refine r1 ?_; clear hbq bq) | (with_reducible refine iL ?_; refine rL (by rw [Tryz.results62]) fin ?_; simp only [go_sem, ↓reduceIte, aPack, Option.some.injEq, exists_eq_left', e.1, e.1.symm, hs]) | with_reducible first | refine nS ?_ | refine rS fun bq hbq => ?_ | refine rR ?_
    exact ret_as (by simp only [fitErrS, hs]; rfl) hq
  · have hsz := sizedS_small t hs
    try dsimp only
    repeat first | ((with_reducible first | refine sS ?_ | refine sC ?_); intro bC bR bU hC hR hU; simp only [go_sem, ↓reduceIte, e.1, e.1.symm, hs]; subst hC hR hU) | (with_reducible refine rN ?_; subst hbq) | (with_reducible refine iR ?_; refine rG (by simp only [compL, gtOf, nthDst]; exact rfl) ?_) | with_reducible first | refine nS ?_ | refine rS fun bq hbq => ?_ | refine rK ?_
    refine refFits_am vs hvs tk t.size t 0 _ _ (Nat.le_refl _) (by decide) (by omega) ?_
    cases hf : fitsF vs t 0
    · try dsimp only
      repeat first | ((with_reducible first | refine sS ?_ | refine sC ?_); intro bC bR bU hC hR hU; simp only [go_sem, ↓reduceIte, hf]; subst hC hR hU) | (with_reducible refine rN ?_; subst hbq) | (with_reducible refine iR ?_; refine rG (by simp only [compL, gtOf, nthDst]; exact rfl) ?_) | (with_reducible refine r1 ?_; clear hbq bq) | (with_reducible refine iL ?_; refine rL (by rw [Tryz.results62]) fin ?_; simp only [go_sem, ↓reduceIte, aPack, Option.some.injEq, exists_eq_left', hf]) | with_reducible first | refine nS ?_ | refine rS fun bq hbq => ?_ | refine rR ?_
      exact ret_as (by simp only [fitErrS, hs, hf]; rfl) hq
    · try dsimp only
      repeat first | ((with_reducible first | refine sS ?_ | refine sC ?_); intro bC bR bU hC hR hU; simp only [go_sem, ↓reduceIte, hf]; subst hC hR hU) | (with_reducible refine rN ?_; subst hbq) | (with_reducible refine iR ?_; refine rG (by simp only [compL, gtOf, nthDst]; exact rfl) ?_) | (with_reducible refine iL ?_; refine rL (by rw [Tryz.results62]) fin ?_; simp only [go_sem, ↓reduceIte, aPack, Option.some.injEq, exists_eq_left', hf]) | with_reducible first | refine nS ?_ | refine rS fun bq hbq => ?_ | refine rK ?_ | refine rR ?_
      exact ret_as (by simp only [fitErrS, hs, hf]; rfl) hq
theorem refFitsS_am (vs : List Va) (hvs : vs.length ≤ 1000000) (tk : Tok) (t : Term) (h : AHeap) (Q : AOut → AHeap → Prop) (hq : Q (.ret (.int .i64 (if checkF vs == 0 then fitErrS vs t else checkF vs))) h) : AmCalls Tryz.prog 38 [.agg [.list 8 (encVs vs) vs.length tk], enc t] h Q := by
  refine AmCalls.of_sem (fn := Tryz.f38) Tryz.func38 rfl (by kernel_rfl) (by rw [Tryz.ntmps38]; simp) (enters_of Tryz.func38 (by kernel_rfl) (by kernel_rfl)) ?_
  try dsimp only
  repeat first | ((with_reducible refine sS ?_); intro bC bR bU hC hR hU; simp only [go_sem, ↓reduceIte]; subst hC hR hU) | (with_reducible refine iR ?_; refine rG (by simp only [compL, gtOf, nthDst]; exact rfl) ?_) | with_reducible refine rS fun bq hbq => ?_
  intro a ha
  try dsimp only
  repeat (((with_reducible refine sS ?_); intro bC bR bU hC hR hU; simp only [go_sem, ↓reduceIte]; subst hC hR hU))
  intro b hb
  have e := fresh_if hb
  have fin : HLess (upd (upd h a (some (.cells [.list 8 (encVs vs) vs.length tk] 24))) b (some (.cells (cellsT t) 27))) h := (HLess.refl h).new ha |>.new e.2
  try dsimp only
  repeat first | ((with_reducible refine sS ?_); intro bC bR bU hC hR hU; simp only [go_sem, ↓reduceIte, e.1, e.1.symm]; subst hC hR hU) | (with_reducible refine rN ?_; subst hbq) | (with_reducible refine iR ?_; refine rG (by simp only [compL, gtOf, nthDst]; exact rfl) ?_) | with_reducible first | refine nS ?_ | refine rS fun bq hbq => ?_
  refine refCheck_am vs hvs tk _ _ ?_
  cases c0 : (checkF vs == 0)
  · rw [c0] at hq
    try dsimp only
    repeat first | ((with_reducible first | refine sS ?_ | refine sC ?_); intro bC bR bU hC hR hU; simp only [go_sem, ↓reduceIte, e.1, e.1.symm, c0]; subst hC hR hU) | (with_reducible refine rN ?_; subst hbq) | (with_reducible refine iR ?_; refine rG (by simp only [compL, gtOf, nthDst]; exact rfl) ?_) | (with_reducible refine r1 ?_; clear hbq bq) | (with_reducible refine iL ?_; refine rL (by rw [Tryz.results38]) fin ?_; simp only [go_sem, ↓reduceIte, aPack, Option.some.injEq, exists_eq_left', e.1, e.1.symm, c0]) | with_reducible first | refine nS ?_ | refine rS fun bq hbq => ?_ | refine rR ?_
    exact hq
  · rw [c0] at hq
    simp only [if_true] at hq
    try dsimp only
    repeat first | ((with_reducible first | refine sS ?_ | refine sC ?_); intro bC bR bU hC hR hU; simp only [go_sem, ↓reduceIte, e.1, e.1.symm, c0]; subst hC hR hU) | (with_reducible refine rN ?_; subst hbq) | (with_reducible refine iR ?_; refine rG (by simp only [compL, gtOf, nthDst]; exact rfl) ?_) | with_reducible first | refine nS ?_ | refine rS fun bq hbq => ?_ | refine rK ?_
    refine refFitS_am vs hvs tk t _ _ ?_
    try dsimp only
    repeat first | ((with_reducible refine sS ?_); intro bC bR bU hC hR hU; simp only [go_sem, ↓reduceIte, e.1, e.1.symm, c0]; subst hC hR hU) | (with_reducible refine rN ?_; subst hbq) | (with_reducible refine iL ?_; refine rL (by rw [Tryz.results38]) fin ?_; simp only [go_sem, ↓reduceIte, aPack, Option.some.injEq, exists_eq_left', e.1, e.1.symm, c0]) | with_reducible first | refine nS ?_ | refine rR ?_
    exact hq
/- The law's few, Fewer, sameStrings, SameType. -/


def fewSF (vs : List Va) (l : List Term) : Bool := !decide ((vs.length : Int) > 12) && (vs.all (fun v => fewF v.t) && l.all fewF)
theorem fewS_am (vs : List Va) (tk : Tok) (l : List Term) (h : AHeap) (Q : AOut → AHeap → Prop) (hl : l.length ≤ 1000000000) (hq : Q (.ret (.bool (fewSF vs l))) h) : AmCalls Tryz.prog 14 [.agg [.list 8 (encVs vs) vs.length tk], .list 4 (encs l) l.length .none] h Q := by
  unfold fewSF at hq
  refine AmCalls.of_sem (fn := Tryz.f14) Tryz.func14 rfl (by kernel_rfl) (by rw [Tryz.ntmps14]; simp) (enters_of Tryz.func14 (by kernel_rfl) (by kernel_rfl)) ?_
  try dsimp only
  repeat first | ((with_reducible refine sS ?_); intro bC bR bU hC hR hU; simp only [go_sem, ↓reduceIte]; subst hC hR hU) | (with_reducible refine iR ?_; refine rG (by simp only [compL, gtOf, nthDst]; exact rfl) ?_) | with_reducible refine rS fun bq hbq => ?_
  intro a ha
  have fin : HLess (upd h a (some (.cells [.list 8 (encVs vs) vs.length tk] 24))) h := HLess.one ha
  have sa : (upd h a (some (AObj.cells [.list 8 (encVs vs) vs.length tk] 24))) a = some (.cells [.list 8 (encVs vs) vs.length tk] 24) := upd_same _ _ _
  cases c1 : decide ((vs.length : Int) > 12)
  case true =>
    try dsimp only
    repeat first | ((with_reducible first | refine sS ?_ | refine sC ?_); intro bC bR bU hC hR hU; simp only [go_sem, ↓reduceIte, c1]; subst hC hR hU) | (with_reducible refine rN ?_; subst hbq) | (with_reducible refine iR ?_; refine rG (by simp only [compL, gtOf, nthDst]; exact rfl) ?_) | (with_reducible refine r1 ?_; clear hbq bq) | (with_reducible refine iL ?_; refine rL (by rw [Tryz.results14]) fin ?_; simp only [go_sem, ↓reduceIte, aPack, Option.some.injEq, exists_eq_left', c1]) | with_reducible first | refine nS ?_ | refine rS fun bq hbq => ?_ | refine rR ?_
    exact ret_as (by rw [c1]; rfl) hq
  have hv12 : (vs.length : Int) ≤ 12 := by simpa using c1
  rw [c1, Bool.not_false, Bool.true_and] at hq
  try dsimp only
  repeat first | ((with_reducible first | refine sS ?_ | refine sC ?_); intro bC bR bU hC hR hU; simp only [go_sem, ↓reduceIte, c1]; subst hC hR hU) | (with_reducible refine rN ?_; subst hbq) | (with_reducible refine iR ?_; refine rG (by simp only [compL, gtOf, nthDst]; exact rfl) ?_) | (with_reducible refine rB fun cq hcq => ?_; subst hcq) | with_reducible first | refine nS ?_ | refine rS fun bq hbq => ?_ | refine rK ?_
  generalize upd h a (some (AObj.cells [.list 8 (encVs vs) vs.length tk] 24)) = H at *
  refine run_loop (fun k τ h' => ∃ i : Nat, k + i = vs.length ∧ τ 1 = .list 4 (encs l) l.length .none ∧ τ 2 = .ptr a 0 ∧ τ 5 = .int .i64 i ∧ h' = H ∧ (vs.drop i).all (fun v => fewF v.t) = vs.all (fun v => fewF v.t)) vs.length ?_ ?_
  · exact ⟨0, rfl, rfl, rfl, rfl, rfl, rfl⟩
  · intro c hc k τ h' hI
    obtain ⟨i, hk, f1, f2, f5, rfl, hix⟩ := hI
    subst hc
    by_cases hi : i < vs.length
    · obtain ⟨v, hv⟩ : ∃ v, vs[i]? = some v := ⟨_, List.getElem?_eq_getElem hi⟩
      obtain ⟨r, hr⟩ := encVs_at vs i hv
      have hr4 : List.drop (i * 8 + 4) (encVs vs) = .int .i64 v.t.kind :: .int .i64 v.t.n :: .str v.t.name :: .list 4 (encs v.t.args) v.t.args.length .none :: r := by rw [← List.drop_drop, hr]; rfl
      have hdrop : vs.drop i = v :: vs.drop (i + 1) := by
        rw [List.drop_eq_getElem_cons hi]
        rw [List.getElem?_eq_getElem hi] at hv; injection hv with hv; rw [hv]
      rw [hdrop, List.all_cons] at hix
      try dsimp only
      repeat first | ((with_reducible first | refine sS ?_ | refine sC ?_); intro bC bR bU hC hR hU; simp only [go_sem, ↓reduceIte, f1, f2, f5, sa, hi, hr4]; subst hC hR hU) | (with_reducible refine rN ?_; subst hbq) | (with_reducible refine iR ?_; refine rG (by simp only [compL, gtOf, nthDst]; exact rfl) ?_) | (with_reducible refine rB fun cq hcq => ?_; subst hcq) | with_reducible first | refine nS ?_ | refine rS fun bq hbq => ?_ | refine rK ?_
      refine fewT_am v.t _ _ ?_
      cases hf : fewF v.t
      · rw [hf, Bool.false_and] at hix
        rw [← hix] at hq
        try dsimp only
        repeat first | ((with_reducible first | refine sS ?_ | refine sC ?_); intro bC bR bU hC hR hU; simp only [go_sem, ↓reduceIte, f1, f2, f5, sa, hf]; subst hC hR hU) | (with_reducible refine rN ?_; subst hbq) | (with_reducible refine iR ?_; refine rG (by simp only [compL, gtOf, nthDst]; exact rfl) ?_) | (with_reducible refine r1 ?_; clear hbq bq) | (with_reducible refine iL ?_; refine rL (by rw [Tryz.results14]) fin ?_; simp only [go_sem, ↓reduceIte, aPack, Option.some.injEq, exists_eq_left', f1, f2, f5, sa, hf]) | with_reducible first | refine nS ?_ | refine rS fun bq hbq => ?_ | refine rR ?_ | refine r3 ?_ | refine r4 ?_
        exact hq
      · rw [hf, Bool.true_and] at hix
        try dsimp only
        repeat first | ((with_reducible first | refine sS ?_ | refine sC ?_); intro bC bR bU hC hR hU; simp only [go_sem, ↓reduceIte, f1, f2, f5, sa, hf, wrap_in (show -9223372036854775808 ≤ (i : Int) + 1 by omega) (show (i : Int) + 1 ≤ 9223372036854775807 by omega)]; subst hC hR hU) | (with_reducible refine rN ?_; subst hbq) | (with_reducible refine iR ?_; refine rG (by simp only [compL, gtOf, nthDst]; exact rfl) ?_) | with_reducible first | refine nS ?_ | refine rK ?_ | refine rE ?_
        refine run_loopN (m := k - 1) (by omega) ⟨i + 1, by omega, f1, f2, rfl, rfl, hix⟩
    · rw [List.drop_eq_nil_of_le (by omega), List.all_nil] at hix
      rw [← hix, Bool.true_and] at hq
      try dsimp only
      repeat first | ((with_reducible first | refine sS ?_ | refine sC ?_); intro bC bR bU hC hR hU; simp only [go_sem, ↓reduceIte, f1, f2, f5, sa, hi]; subst hC hR hU) | (with_reducible refine rN ?_; subst hbq) | (with_reducible refine iR ?_; refine rG (by simp only [compL, gtOf, nthDst]; exact rfl) ?_) | (with_reducible refine rB fun cq hcq => ?_; subst hcq) | (with_reducible refine x1 ?_; clear hbq bq) | with_reducible first | refine nS ?_ | refine rS fun bq hbq => ?_ | refine rXx ?_ | refine x3 ?_ | refine x4 ?_
      refine run_loop (fun k τ h2 => ∃ i : Nat, k + i = l.length ∧ τ 1 = .list 4 (encs l) l.length .none ∧ τ 6 = .int .i64 i ∧ HLess h2 h ∧ (l.drop i).all fewF = l.all fewF) l.length ?_ ?_
      · exact ⟨0, rfl, f1, rfl, fin, rfl⟩
      intro c hc k τ h2 hI
      clear f1 f2 f5 hix
      obtain ⟨i, hk, f1, f6, hl', hix⟩ := hI
      subst hc
      by_cases hi : i < l.length
      · obtain ⟨u, hu⟩ : ∃ u, l[i]? = some u := ⟨_, List.getElem?_eq_getElem hi⟩
        obtain ⟨r, hr⟩ := encs_at l i hu
        have hdrop : l.drop i = u :: l.drop (i + 1) := by
          rw [List.drop_eq_getElem_cons hi]
          rw [List.getElem?_eq_getElem hi] at hu; injection hu with hu; rw [hu]
        rw [hdrop, List.all_cons] at hix
        try dsimp only
        repeat first | ((with_reducible first | refine sS ?_ | refine sC ?_); intro bC bR bU hC hR hU; simp only [go_sem, ↓reduceIte, f1, f6, hi, hr]; subst hC hR hU) | (with_reducible refine rN ?_; subst hbq) | (with_reducible refine iR ?_; refine rG (by simp only [compL, gtOf, nthDst]; exact rfl) ?_) | (with_reducible refine rB fun cq hcq => ?_; subst hcq) | with_reducible first | refine nS ?_ | refine rS fun bq hbq => ?_ | refine rK ?_
        refine fewT_am u _ _ ?_
        cases hf : fewF u
        · rw [hf, Bool.false_and] at hix
          rw [← hix] at hq
          try dsimp only
          repeat first | ((with_reducible first | refine sS ?_ | refine sC ?_); intro bC bR bU hC hR hU; simp only [go_sem, ↓reduceIte, f1, f6, hf]; subst hC hR hU) | (with_reducible refine rN ?_; subst hbq) | (with_reducible refine iR ?_; refine rG (by simp only [compL, gtOf, nthDst]; exact rfl) ?_) | (with_reducible refine r1 ?_; clear hbq bq) | (with_reducible refine iL ?_; refine rL (by rw [Tryz.results14]) hl' ?_; simp only [go_sem, ↓reduceIte, aPack, Option.some.injEq, exists_eq_left', f1, f6, hf]) | with_reducible first | refine nS ?_ | refine rS fun bq hbq => ?_ | refine rR ?_ | refine r3 ?_ | refine r4 ?_
          exact hq
        · rw [hf, Bool.true_and] at hix
          try dsimp only
          repeat first | ((with_reducible first | refine sS ?_ | refine sC ?_); intro bC bR bU hC hR hU; simp only [go_sem, ↓reduceIte, f1, f6, hf, wrap_in (show -9223372036854775808 ≤ (i : Int) + 1 by omega) (show (i : Int) + 1 ≤ 9223372036854775807 by omega)]; subst hC hR hU) | (with_reducible refine rN ?_; subst hbq) | (with_reducible refine iR ?_; refine rG (by simp only [compL, gtOf, nthDst]; exact rfl) ?_) | with_reducible first | refine nS ?_ | refine rK ?_ | refine rE ?_
          refine run_loopN (m := k - 1) (by omega) ⟨i + 1, by omega, f1, rfl, hl', hix⟩
      · rw [List.drop_eq_nil_of_le (by omega), List.all_nil] at hix
        rw [← hix] at hq
        try dsimp only
        repeat first | ((with_reducible first | refine sS ?_ | refine sC ?_); intro bC bR bU hC hR hU; simp only [go_sem, ↓reduceIte, f1, f6, hi]; subst hC hR hU) | (with_reducible refine rN ?_; subst hbq) | (with_reducible refine iR ?_; refine rG (by simp only [compL, gtOf, nthDst]; exact rfl) ?_) | (with_reducible refine x1 ?_; clear hbq bq) | (with_reducible refine iL ?_; refine rL (by rw [Tryz.results14]) hl' ?_; simp only [go_sem, ↓reduceIte, aPack, Option.some.injEq, exists_eq_left', f1, f6, hi]) | with_reducible first | refine nS ?_ | refine rS fun bq hbq => ?_ | refine rXx ?_ | refine rR ?_ | refine x3 ?_ | refine x4 ?_
        exact hq
/-- Equal lists of names. -/
theorem sameStrings_am (l : List ByteArray) (h : AHeap) (Q : AOut → AHeap → Prop) (hl : l.length ≤ 1000000000) (hq : Q (.ret (.bool true)) h) : AmCalls Tryz.prog 39 [.list 1 (encS l) l.length .none, .list 1 (encS l) l.length .none] h Q := by
  have hb : ((l.length : Int) == (l.length : Int)) = true := beq_self_eq_true _
  refine AmCalls.of_sem (fn := Tryz.f39) Tryz.func39 rfl (by kernel_rfl) (by rw [Tryz.ntmps39]; simp) (enters_of Tryz.func39 (by kernel_rfl) (by kernel_rfl)) ?_
  try dsimp only
  repeat first | ((with_reducible first | refine sS ?_ | refine sC ?_); intro bC bR bU hC hR hU; simp only [go_sem, ↓reduceIte, hb]; subst hC hR hU) | (with_reducible refine rN ?_; subst hbq) | (with_reducible refine iR ?_; refine rG (by simp only [compL, gtOf, nthDst]; exact rfl) ?_) | (with_reducible refine rB fun cq hcq => ?_; subst hcq) | with_reducible first | refine nS ?_ | refine rS fun bq hbq => ?_ | refine rK ?_
  refine run_loop (fun k τ h' => ∃ i : Nat, k + i = l.length ∧ τ 0 = .list 1 (encS l) l.length .none ∧ τ 1 = .list 1 (encS l) l.length .none ∧ τ 5 = .int .i64 i ∧ h' = h) l.length ?_ ?_
  · exact ⟨0, rfl, rfl, rfl, rfl, rfl⟩
  · intro c hc k τ h' hI
    obtain ⟨i, hk, f0, f1, f5, rfl⟩ := hI
    subst hc
    by_cases hi : i < l.length
    · obtain ⟨x, hx⟩ : ∃ x, l[i]? = some x := ⟨_, List.getElem?_eq_getElem hi⟩
      have d1 : (List.drop i (encS l)).head? = some (.str x) := by rw [List.head?_drop, List.getElem?_map, hx]; rfl
      have hs : (x.toList == x.toList) = true := beq_self_eq_true _
      try dsimp only
      repeat first | ((with_reducible first | refine sS ?_ | refine sC ?_); intro bC bR bU hC hR hU; simp only [go_sem, ↓reduceIte, f0, f1, f5, hi]; subst hC hR hU) | (with_reducible refine rN ?_; subst hbq) | (with_reducible refine iR ?_; refine rG (by simp only [compL, gtOf, nthDst]; exact rfl) ?_) | (with_reducible refine rB fun cq hcq => ?_; subst hcq) | with_reducible first | refine nS ?_ | refine rS fun bq hbq => ?_ | refine rK ?_
      repeat with_reducible refine run_seq fun bq hbq => ?_
      refine run_draw (.take 0 (.take 1 (.take 2 (.take 3 (.take 4 (.take 5 (.take 6 (.take 7 (.take 8 (.done)))))))))) (by kernel_rfl) (by simp only [compL, gtOf, nthDst]; exact rfl) ?_
      try dsimp only
      repeat first | ((first | (with_reducible first | refine sS ?_ | refine sC ?_) | (with_reducible refine iT ?_; refine sT rfl ?_)); intro bC bR bU hC hR hU; simp only [go_sem, ↓reduceIte, f0, f1, f5, hi, d1, hs, wrap_in (show -9223372036854775808 ≤ (i : Int) + 1 by omega) (show (i : Int) + 1 ≤ 9223372036854775807 by omega)]; subst hC hR hU) | (with_reducible refine rN ?_; subst hbq) | (with_reducible refine iR ?_; refine rG (by simp only [compL, gtOf, nthDst]; exact rfl) ?_) | with_reducible first | refine nS ?_ | refine nD ?_ | refine rK ?_ | refine rE ?_
      refine run_loopN (m := k - 1) (by omega) ⟨i + 1, by omega, f0, f1, rfl, rfl⟩
    · try dsimp only
      repeat first | ((with_reducible first | refine sS ?_ | refine sC ?_); intro bC bR bU hC hR hU; simp only [go_sem, ↓reduceIte, f0, f1, f5, hi]; subst hC hR hU) | (with_reducible refine rN ?_; subst hbq) | (with_reducible refine iR ?_; refine rG (by simp only [compL, gtOf, nthDst]; exact rfl) ?_) | (with_reducible refine x1 ?_; clear hbq bq) | (with_reducible refine iL ?_; refine rL (by rw [Tryz.results39]) (HLess.refl _) ?_; simp only [go_sem, ↓reduceIte, aPack, Option.some.injEq, exists_eq_left', f0, f1, f5, hi]) | with_reducible first | refine nS ?_ | refine rS fun bq hbq => ?_ | refine rXx ?_ | refine rR ?_ | refine x3 ?_ | refine x4 ?_
      exact hq
/- SameType, SameStore: of equal ones. -/


theorem length_sizeTs : ∀ l : List Ty, l.length ≤ sizeTs l
  | [] => Nat.zero_le _
  | t :: l => by
    have := length_sizeTs l
    have h1 : 0 < t.size := by obtain ⟨a, b⟩ := t; rw [Ty.size]; omega
    rw [sizeTs, List.length_cons]; omega
theorem sameType_am : ∀ (s : Nat) (t : Ty) (h : AHeap) (Q : AOut → AHeap → Prop), t.size ≤ s → t.size ≤ 1000000000 → Q (.ret (.bool true)) h → AmCalls Tryz.prog 65 [encTy t, encTy t] h Q := by
  intro s
  induction s with
  | zero => intro t h Q ht; obtain ⟨a, b⟩ := t; rw [Ty.size] at ht; omega
  | succ s ih =>
    intro t h Q ht hts hq
    have hlen : t.args.length < t.size := by
      obtain ⟨a, b⟩ := t
      have := length_sizeTs b
      rw [Ty.size]; simp only; omega
    have hn : (t.name.toList == t.name.toList) = true := beq_self_eq_true _
    have hl : ((t.args.length : Int) == (t.args.length : Int)) = true := beq_self_eq_true _
    refine AmCalls.of_sem (fn := Tryz.f65) Tryz.func65 rfl (by kernel_rfl) (by rw [Tryz.ntmps65]; simp) (enters_of Tryz.func65 (by kernel_rfl) (by kernel_rfl)) ?_
    try dsimp only
    repeat first | ((with_reducible refine sS ?_); intro bC bR bU hC hR hU; simp only [go_sem, ↓reduceIte]; subst hC hR hU) | (with_reducible refine iR ?_; refine rG (by simp only [compL, gtOf, nthDst]; exact rfl) ?_) | with_reducible refine rS fun bq hbq => ?_
    intro a ha
    try dsimp only
    repeat (((with_reducible refine sS ?_); intro bC bR bU hC hR hU; simp only [go_sem, ↓reduceIte]; subst hC hR hU))
    intro b hb
    have e := fresh_if hb
    have fin : HLess (upd (upd h a (some (.cells (cellsTy t) 60))) b (some (.cells (cellsTy t) 60))) h := (HLess.refl h).new ha |>.new e.2
    try dsimp only
    repeat first | ((with_reducible first | refine sS ?_ | refine sC ?_); intro bC bR bU hC hR hU; simp only [go_sem, ↓reduceIte, e.1, e.1.symm, hn, hl]; subst hC hR hU) | (with_reducible refine rN ?_; subst hbq) | (with_reducible refine iR ?_; refine rG (by simp only [compL, gtOf, nthDst]; exact rfl) ?_) | (with_reducible refine rB fun cq hcq => ?_; subst hcq) | with_reducible first | refine nS ?_ | refine rS fun bq hbq => ?_ | refine rK ?_
    have sa : (upd (upd h a (some (AObj.cells (cellsTy t) 60))) b (some (.cells (cellsTy t) 60))) a = some (.cells (cellsTy t) 60) := by rw [upd_other _ _ e.1.symm, upd_same]
    have sb : (upd (upd h a (some (AObj.cells (cellsTy t) 60))) b (some (.cells (cellsTy t) 60))) b = some (.cells (cellsTy t) 60) := upd_same _ _ _
    generalize upd (upd h a (some (AObj.cells (cellsTy t) 60))) b (some (AObj.cells (cellsTy t) 60)) = H at *
    refine run_loop (fun k τ h' => ∃ i : Nat, k + i = t.args.length ∧ τ 2 = .ptr a 0 ∧ τ 3 = .ptr b 0 ∧ τ 5 = .int .i64 i ∧ h' = H) t.args.length ?_ ?_
    · exact ⟨0, rfl, rfl, rfl, rfl, rfl⟩
    · intro c hc k τ h' hI
      obtain ⟨i, hk, f2, f3, f5, rfl⟩ := hI
      subst hc
      by_cases hi : i < t.args.length
      · obtain ⟨u, hu⟩ : ∃ u, t.args[i]? = some u := ⟨_, List.getElem?_eq_getElem hi⟩
        obtain ⟨r, hr⟩ := encTs_at t.args i hu
        have hsu := tsize_arg t i hu
        try dsimp only
        repeat first | ((with_reducible first | refine sS ?_ | refine sC ?_); intro bC bR bU hC hR hU; simp only [go_sem, ↓reduceIte, f2, f3, f5, sa, sb, hi, hr]; subst hC hR hU) | (with_reducible refine rN ?_; subst hbq) | (with_reducible refine iR ?_; refine rG (by simp only [compL, gtOf, nthDst]; exact rfl) ?_) | (with_reducible refine rB fun cq hcq => ?_; subst hcq) | with_reducible first | refine nS ?_ | refine rS fun bq hbq => ?_ | refine rK ?_
        repeat with_reducible refine run_seq fun bq hbq => ?_
        refine run_draw (.take 0 (.take 1 (.take 2 (.take 3 (.take 4 (.take 5 (.take 6 (.take 7 (.take 8 (.take 9 (.one 10 [6, 1] (.take 11 (.done))))))))))))) (by kernel_rfl) (by simp only [compL, gtOf, nthDst]; exact rfl) ?_
        try dsimp only
        repeat (((first | (with_reducible refine iT ?_; refine sT rfl ?_) | (with_reducible refine iO ?_; refine sO rfl ?_)); intro bC bR bU hC hR hU; simp only [go_sem, ↓reduceIte, f2, f3, f5, sa, sb, hi, hr]; subst hC hR hU))
        refine ih u _ _ (by omega) (by omega) ?_
        try dsimp only
        repeat first | ((first | (with_reducible first | refine sS ?_ | refine sA ?_ | refine sC ?_) | (with_reducible refine iT ?_; refine sT rfl ?_)); intro bC bR bU hC hR hU; simp only [go_sem, ↓reduceIte, f2, f3, f5, sa, sb, hi, hr, wrap_in (show -9223372036854775808 ≤ (i : Int) + 1 by omega) (show (i : Int) + 1 ≤ 9223372036854775807 by omega)]; subst hC hR hU) | (with_reducible refine rN ?_; subst hbq) | (with_reducible refine iR ?_; refine rG (by simp only [compL, gtOf, nthDst]; exact rfl) ?_) | with_reducible first | refine nS ?_ | refine nD ?_ | refine rK ?_ | refine rE ?_
        refine run_loopN (m := k - 1) (by omega) ⟨i + 1, by omega, f2, f3, rfl, rfl⟩
      · try dsimp only
        repeat first | ((with_reducible first | refine sS ?_ | refine sC ?_); intro bC bR bU hC hR hU; simp only [go_sem, ↓reduceIte, f2, f3, f5, sa, sb, hi]; subst hC hR hU) | (with_reducible refine rN ?_; subst hbq) | (with_reducible refine iR ?_; refine rG (by simp only [compL, gtOf, nthDst]; exact rfl) ?_) | (with_reducible refine x1 ?_; clear hbq bq) | (with_reducible refine iL ?_; refine rL (by rw [Tryz.results65]) fin ?_; simp only [go_sem, ↓reduceIte, aPack, Option.some.injEq, exists_eq_left', f2, f3, f5, sa, sb, hi]) | with_reducible first | refine nS ?_ | refine rS fun bq hbq => ?_ | refine rXx ?_ | refine rR ?_ | refine x3 ?_ | refine x4 ?_
        exact hq
mutual
theorem sameF_refl : ∀ t : Term, sameF t t = true
  | ⟨k, n, s, l⟩ => by
    rw [sameF, sameL_refl l]
    simp
theorem sameL_refl : ∀ l : List Term, sameL l l = true
  | [] => by rw [sameL]
  | t :: l => by rw [sameL, sameF_refl t, sameL_refl l]; rfl
end
theorem sameStore_am (vs : List Va) (hvs : vs.length ≤ 1000000) (hsz : ∀ v ∈ vs, v.type.size ≤ 1000000000 ∧ v.t.size ≤ 1000000000) (t1 t2 : Tok) (h : AHeap) (Q : AOut → AHeap → Prop) (hq : Q (.ret (.bool true)) h) : AmCalls Tryz.prog 17 [.agg [.list 8 (encVs vs) vs.length t1], .agg [.list 8 (encVs vs) vs.length t2]] h Q := by
  have hl : ((vs.length : Int) == (vs.length : Int)) = true := beq_self_eq_true _
  refine AmCalls.of_sem (fn := Tryz.f17) Tryz.func17 rfl (by kernel_rfl) (by rw [Tryz.ntmps17]; simp) (enters_of Tryz.func17 (by kernel_rfl) (by kernel_rfl)) ?_
  try dsimp only
  repeat first | ((with_reducible refine sS ?_); intro bC bR bU hC hR hU; simp only [go_sem, ↓reduceIte]; subst hC hR hU) | (with_reducible refine iR ?_; refine rG (by simp only [compL, gtOf, nthDst]; exact rfl) ?_) | with_reducible refine rS fun bq hbq => ?_
  intro a ha
  try dsimp only
  repeat (((with_reducible refine sS ?_); intro bC bR bU hC hR hU; simp only [go_sem, ↓reduceIte]; subst hC hR hU))
  intro b hb
  have e := fresh_if hb
  have fin : HLess (upd (upd h a (some (.cells [.list 8 (encVs vs) vs.length t1] 24))) b (some (.cells [.list 8 (encVs vs) vs.length t2] 24))) h := (HLess.refl h).new ha |>.new e.2
  try dsimp only
  repeat first | ((with_reducible first | refine sS ?_ | refine sC ?_); intro bC bR bU hC hR hU; simp only [go_sem, ↓reduceIte, e.1, e.1.symm, hl]; subst hC hR hU) | (with_reducible refine rN ?_; subst hbq) | (with_reducible refine iR ?_; refine rG (by simp only [compL, gtOf, nthDst]; exact rfl) ?_) | (with_reducible refine rB fun cq hcq => ?_; subst hcq) | with_reducible first | refine nS ?_ | refine rS fun bq hbq => ?_ | refine rK ?_
  have sa : (upd (upd h a (some (AObj.cells [.list 8 (encVs vs) vs.length t1] 24))) b (some (.cells [.list 8 (encVs vs) vs.length t2] 24))) a = some (.cells [.list 8 (encVs vs) vs.length t1] 24) := by rw [upd_other _ _ e.1.symm, upd_same]
  have sb : (upd (upd h a (some (AObj.cells [.list 8 (encVs vs) vs.length t1] 24))) b (some (.cells [.list 8 (encVs vs) vs.length t2] 24))) b = some (.cells [.list 8 (encVs vs) vs.length t2] 24) := upd_same _ _ _
  generalize upd (upd h a (some (AObj.cells [.list 8 (encVs vs) vs.length t1] 24))) b (some (AObj.cells [.list 8 (encVs vs) vs.length t2] 24)) = H at *
  refine run_loop (fun k τ h' => ∃ i : Nat, k + i = vs.length ∧ τ 2 = .ptr a 0 ∧ τ 3 = .ptr b 0 ∧ τ 5 = .int .i64 i ∧ HLess h' H) vs.length ?_ ?_
  · exact ⟨0, rfl, rfl, rfl, rfl, HLess.refl _⟩
  · intro c hc k τ h' hI
    obtain ⟨i, hk, f2, f3, f5, hl'⟩ := hI
    subst hc
    have ta := hl' _ _ sa
    have tb := hl' _ _ sb
    by_cases hi : i < vs.length
    · obtain ⟨v, hv⟩ : ∃ v, vs[i]? = some v := ⟨_, List.getElem?_eq_getElem hi⟩
      obtain ⟨r, hr⟩ := encVs_at vs i hv
      have hs := hsz v (List.mem_of_getElem? hv)
      have n1 : (v.level == v.level) = true := beq_self_eq_true _
      have n2 : (v.is == v.is) = true := beq_self_eq_true _
      try dsimp only
      repeat first | ((with_reducible first | refine sS ?_ | refine sC ?_); intro bC bR bU hC hR hU; simp only [go_sem, ↓reduceIte, f2, f3, f5, ta, tb, hi, hr]; subst hC hR hU) | (with_reducible refine rN ?_; subst hbq) | (with_reducible refine iR ?_; refine rG (by simp only [compL, gtOf, nthDst]; exact rfl) ?_) | (with_reducible refine rB fun cq hcq => ?_; subst hcq) | with_reducible first | refine nS ?_ | refine rS fun bq hbq => ?_ | refine rK ?_
      intro p hp
      have pa := ne_of_new hp ta
      have pb := ne_of_new hp tb
      try dsimp only
      repeat first | ((with_reducible refine sS ?_); intro bC bR bU hC hR hU; simp only [go_sem, ↓reduceIte, f2, f3, f5, ta, tb, pa, pb, hi, hr]; subst hC hR hU) | (with_reducible refine rN ?_; subst hbq) | (with_reducible refine iR ?_; refine rG (by simp only [compL, gtOf, nthDst]; exact rfl) ?_) | with_reducible first | refine nS ?_ | refine rS fun bq hbq => ?_
      intro q hq2
      have e2 := fresh_if hq2
      have finq : HLess (upd (upd h' p (some (.cells (cellsV v) 62))) q (some (.cells (cellsV v) 62))) h' := (HLess.refl h').new hp |>.new e2.2
      try dsimp only
      repeat first | ((with_reducible refine sS ?_); intro bC bR bU hC hR hU; simp only [go_sem, ↓reduceIte, f2, f3, f5, e2.1, e2.1.symm, n1, n2]; subst hC hR hU) | (with_reducible refine rN ?_; subst hbq) | (with_reducible refine iR ?_; refine rG (by simp only [compL, gtOf, nthDst]; exact rfl) ?_) | with_reducible first | refine nS ?_ | refine rS fun bq hbq => ?_
      refine sameType_am v.type.size v.type _ _ (Nat.le_refl _) hs.1 ?_
      try dsimp only
      repeat (((with_reducible refine sS ?_); intro bC bR bU hC hR hU; simp only [go_sem, ↓reduceIte, f2, f3, f5, e2.1, e2.1.symm]; subst hC hR hU))
      refine same_am v.t.size v.t v.t _ _ (Nat.le_refl _) hs.2 ?_
      rw [sameF_refl]
      try dsimp only
      repeat first | ((with_reducible first | refine sS ?_ | refine sC ?_); intro bC bR bU hC hR hU; simp only [go_sem, ↓reduceIte, f2, f3, f5, e2.1, e2.1.symm, wrap_in (show -9223372036854775808 ≤ (i : Int) + 1 by omega) (show (i : Int) + 1 ≤ 9223372036854775807 by omega)]; subst hC hR hU) | (with_reducible refine rN ?_; subst hbq) | (with_reducible refine iR ?_; refine rG (by simp only [compL, gtOf, nthDst]; exact rfl) ?_) | with_reducible first | refine nS ?_ | refine rK ?_ | refine rE ?_
      refine run_loopN (m := k - 1) (by omega) ⟨i + 1, by omega, f2, f3, rfl, ?_⟩
      exact finq.trans hl'
    · have fin2 : HLess h' h := hl'.trans fin
      try dsimp only
      repeat first | ((with_reducible first | refine sS ?_ | refine sC ?_); intro bC bR bU hC hR hU; simp only [go_sem, ↓reduceIte, f2, f3, f5, ta, tb, hi]; subst hC hR hU) | (with_reducible refine rN ?_; subst hbq) | (with_reducible refine iR ?_; refine rG (by simp only [compL, gtOf, nthDst]; exact rfl) ?_) | (with_reducible refine x1 ?_; clear hbq bq) | (with_reducible refine iL ?_; refine rL (by rw [Tryz.results17]) fin2 ?_; simp only [go_sem, ↓reduceIte, aPack, Option.some.injEq, exists_eq_left', f2, f3, f5, ta, tb, hi]) | with_reducible first | refine nS ?_ | refine rS fun bq hbq => ?_ | refine rXx ?_ | refine rR ?_ | refine x3 ?_ | refine x4 ?_
      exact hq
/- Fresh of the reference. -/


theorem LeAV.listL {sz n : Nat} {t : Tok} {xs ys : List AV} (hl : LeL xs ys) : LeAV (.list sz xs n t) (.list sz ys n t) := by
  intro G W v hr
  simp only [Rel] at hr ⊢
  obtain ⟨a, c, vs, hv, hc, hr, rest⟩ := hr
  exact ⟨a, c, vs, hv, hc, hl.rel G W vs hr, rest⟩
def freshErr (vs : List Va) (lv : Int) (ty : Ty) : Int := if checkF vs == 0 then (if !(argsF ty).isSome || (decide (lv < 0) || decide (lv > 60)) then 1 else if decide ((vs.length : Int) ≥ 2000) then 2 else 0) else checkF vs
def newVa (lv : Int) (ty : Ty) : Va := ⟨lv, ty, false, ⟨0, 0, noNameS, []⟩⟩
def freshVs (vs : List Va) (lv : Int) (ty : Ty) : List Va := if freshErr vs lv ty == 0 then vs ++ [newVa lv ty] else []
def freshN (vs : List Va) (lv : Int) (ty : Ty) : Int := if freshErr vs lv ty == 0 then vs.length else 0
abbrev freshAV (vs : List Va) (lv : Int) (ty : Ty) : AV := .tuple [.agg [.list 8 (encVs (freshVs vs lv ty)) (freshVs vs lv ty).length .none], .int .i64 (freshN vs lv ty), .int .i64 (freshErr vs lv ty)]
theorem build24_0 : aBuild Tryz.prog 24 [] = some (.agg [.list 0 [] 0 .nil]) := by
  simp only [aBuild, ze_24, pl_24, aFill]
  rfl
theorem build62N (lv : Int) (ty : Ty) : aBuild Tryz.prog 62 [(0, .int .i64 lv), (1, .agg [.str ty.name, .list 2 (encTs ty.args) ty.args.length .none])] = some (.agg [.int .i64 lv, .str ty.name, .list 2 (encTs ty.args) ty.args.length .none, .bool false, .int .i64 0, .int .i64 0, .str noNameS, .list 0 [] 0 .nil]) := by
  simp only [aBuild, ze_62, pl_62, aFill]
  rfl
theorem build22N (lv : Int) (ty : Ty) : aBuildSlice Tryz.prog 22 1 [(0, .agg [.int .i64 lv, .str ty.name, .list 2 (encTs ty.args) ty.args.length .none, .bool false, .int .i64 0, .int .i64 0, .str noNameS, .list 0 [] 0 .nil])] = some (.list 8 [.int .i64 lv, .str ty.name, .list 2 (encTs ty.args) ty.args.length .none, .bool false, .int .i64 0, .int .i64 0, .str noNameS, .list 0 [] 0 .nil] 1 .full) := build1 el_22 sz_62 ze_62 rfl rfl rfl (by decide)
theorem first_append (vs : List Va) (hvs : vs.length ≤ 1000000) (tk : Tok) (H : AHeap) (w : Nat) (hw : H w = Option.none) : ∃ h4 tok4, aAppend Tryz.prog 22 22 (.list 8 [] 0 .full) (.list 8 (encVs vs) vs.length tk) H w = some (.list 8 (encVs vs) vs.length tok4, h4) ∧ Grow 62 H h4 tok4 ∧ HLess h4 H := by
  by_cases h0 : vs = []
  · subst h0
    exact ⟨H, .full, append_idle el_22 el_22 sz_62 by_62 ze_62 ⟨rfl, by decide⟩ (.inl rfl) (.inl rfl) (by decide) w, .inl (.inl rfl), HLess.refl _⟩
  · have hn : vs.length ≠ 0 := fun e => h0 (List.eq_nil_of_length_eq_zero e)
    obtain ⟨h4, ea, hg, hl, _⟩ := append_grow2 el_22 el_22 sz_62 by_62 ze_62 ⟨rfl, by decide⟩ (HLess.refl H) hw (sz1 := 8) (n1 := 0) (c1 := []) (c2 := encVs vs) (n2 := vs.length) (t := .full) (t2 := tk) (.inl (.inl rfl)) (.inl rfl) (sz2 := 8) rfl hn (by omega)
    rw [List.nil_append, Nat.zero_add] at ea
    exact ⟨h4, _, ea, hg, hl⟩
theorem fresh_bad (vs : List Va) (lv : Int) (ty : Ty) {e : Int} (h : freshErr vs lv ty = e) (he : (e == 0) = false) : LeAV (.tuple [.agg [.list 0 [] 0 .nil], .int .i64 0, .int .i64 e]) (freshAV vs lv ty) := by
  have h1 : freshVs vs lv ty = [] := by unfold freshVs; rw [h, he]; rfl
  have h2 : freshN vs lv ty = 0 := by unfold freshN; rw [h, he]; rfl
  unfold freshAV
  rw [h1, h2, h]
  exact LeAV.tuple (.cons (LeAV.agg (.cons (LeAV.nil _ _ _) .nil)) (.cons (LeAV.refl _) (.cons (LeAV.refl _) .nil)))
theorem LeL.app {xs ys : List AV} (h : LeL xs ys) : ∀ l : List AV, LeL (l ++ xs) (l ++ ys)
  | [] => h
  | a :: l => .cons (LeAV.refl a) (LeL.app h l)
theorem le_new (vs : List Va) (lv : Int) (ty : Ty) (t : Tok) : LeAV (.list 8 (encVs vs ++ [.int .i64 lv, .str ty.name, .list 2 (encTs ty.args) ty.args.length .none, .bool false, .int .i64 0, .int .i64 0, .str noNameS, .list 0 [] 0 .nil]) (vs.length + 1) t) (.list 8 (encVs (vs ++ [newVa lv ty])) (vs ++ [newVa lv ty]).length .none) := by
  have h1 : encVs (vs ++ [newVa lv ty]) = encVs vs ++ cellsV (newVa lv ty) := by unfold encVs; rw [List.flatMap_append]; simp
  rw [h1, List.length_append]
  suffices hh : LeL _ _ from fun G W v hr => LeAV.listL (LeL.app hh (encVs vs)) G W v (LeAV.list _ _ _ _ G W v hr)
  refine .cons (LeAV.refl _) (.cons (LeAV.refl _) (.cons (LeAV.refl _) (.cons (LeAV.refl _) (.cons (LeAV.refl _) (.cons (LeAV.refl _) (.cons (LeAV.refl _) (.cons ?_ .nil)))))))
  show LeAV _ (.list 4 (encs []) 0 .none)
  rw [encs_nil]
  exact LeAV.nil _ _ _
theorem refFresh_am (vs : List Va) (hvs : vs.length ≤ 1000000) (tk : Tok) (lv : Int) (ty : Ty) (h : AHeap) (Q : AOut → AHeap → Prop) (hq : Q (.ret (freshAV vs lv ty)) h) : AmCalls Tryz.prog 36 [.agg [.list 8 (encVs vs) vs.length tk], .int .i64 lv, encTy ty] h Q := by
  have hq : ∀ v, LeAV v (freshAV vs lv ty) → ∃ v1 v', AOut.ret v = .ret v1 ∧ LeAV v1 v' ∧ Q (.ret v') h := fun v hv => ⟨v, _, rfl, hv, hq⟩
  refine AmCalls.weak ?_
  refine AmCalls.of_sem (fn := Tryz.f36) Tryz.func36 rfl (by kernel_rfl) (by rw [Tryz.ntmps36]; simp) (enters_of Tryz.func36 (by kernel_rfl) (by kernel_rfl)) ?_
  try dsimp only
  repeat first | ((with_reducible refine sS ?_); intro bC bR bU hC hR hU; simp only [go_sem, ↓reduceIte]; subst hC hR hU) | (with_reducible refine iR ?_; refine rG (by simp only [compL, gtOf, nthDst]; exact rfl) ?_) | with_reducible refine rS fun bq hbq => ?_
  intro a ha
  try dsimp only
  repeat (((with_reducible refine sS ?_); intro bC bR bU hC hR hU; simp only [go_sem, ↓reduceIte]; subst hC hR hU))
  intro b hb
  have e1 := fresh_if hb
  try dsimp only
  repeat (((with_reducible refine sS ?_); intro bC bR bU hC hR hU; simp only [go_sem, ↓reduceIte]; subst hC hR hU))
  intro r hr
  have e2 := fresh_if hr
  have e3 := fresh_if e2.2
  have fin : ∀ x, HLess (upd (upd (upd h a (some (.cells [.list 8 (encVs vs) vs.length tk] 24))) b (some (.cells (cellsTy ty) 60))) r (some x)) h := fun x => ((HLess.refl h).new ha |>.new e1.2 |>.new e3.2)
  try dsimp only
  repeat first | ((with_reducible refine sS ?_); intro bC bR bU hC hR hU; simp only [go_sem, ↓reduceIte, e1.1, e1.1.symm, e2.1, e2.1.symm, e3.1, e3.1.symm]; subst hC hR hU) | (with_reducible refine rN ?_; subst hbq) | (with_reducible refine iR ?_; refine rG (by simp only [compL, gtOf, nthDst]; exact rfl) ?_) | with_reducible first | refine nS ?_ | refine rS fun bq hbq => ?_
  refine refCheck_am vs hvs tk _ _ ?_
  cases c0 : (checkF vs == 0)
  · have hE : freshErr vs lv ty = checkF vs := by unfold freshErr; rw [c0]; rfl
    try dsimp only
    repeat first | ((with_reducible first | refine sS ?_ | refine sC ?_); intro bC bR bU hC hR hU; simp only [go_sem, ↓reduceIte, e1.1, e1.1.symm, e2.1, e2.1.symm, e3.1, e3.1.symm, c0, build24_0]; subst hC hR hU) | (with_reducible refine rN ?_; subst hbq) | (with_reducible refine iR ?_; refine rG (by simp only [compL, gtOf, nthDst]; exact rfl) ?_) | (with_reducible refine r1 ?_; clear hbq bq) | (with_reducible refine iL ?_; refine rL (by rw [Tryz.results36]) (fin _) ?_; simp only [go_sem, ↓reduceIte, aPack, Option.some.injEq, exists_eq_left', e1.1, e1.1.symm, e2.1, e2.1.symm, e3.1, e3.1.symm, c0, build24_0]) | with_reducible first | refine nS ?_ | refine rS fun bq hbq => ?_ | refine rR ?_
    exact hq _ (fresh_bad vs lv ty hE c0)
  try dsimp only
  repeat first | ((with_reducible first | refine sS ?_ | refine sC ?_); intro bC bR bU hC hR hU; simp only [go_sem, ↓reduceIte, e1.1, e1.1.symm, e2.1, e2.1.symm, e3.1, e3.1.symm, c0]; subst hC hR hU) | (with_reducible refine rN ?_; subst hbq) | (with_reducible refine iR ?_; refine rG (by simp only [compL, gtOf, nthDst]; exact rfl) ?_) | with_reducible first | refine nS ?_ | refine rS fun bq hbq => ?_ | refine rK ?_
  refine refArgs_am ty _ _ ?_
  rw [argsV_eq]
  cases ho : (argsF ty).isSome
  · have hE : freshErr vs lv ty = 1 := by unfold freshErr; rw [c0, ho]; rfl
    try dsimp only
    repeat first | ((with_reducible first | refine sS ?_ | refine sC ?_); intro bC bR bU hC hR hU; simp only [go_sem, ↓reduceIte, e1.1, e1.1.symm, e2.1, e2.1.symm, e3.1, e3.1.symm, ho, build24_0]; subst hC hR hU) | (with_reducible refine rN ?_; subst hbq) | (with_reducible refine iR ?_; refine rG (by simp only [compL, gtOf, nthDst]; exact rfl) ?_) | (with_reducible refine r1 ?_; clear hbq bq) | (with_reducible refine iL ?_; refine rL (by rw [Tryz.results36]) (fin _) ?_; simp only [go_sem, ↓reduceIte, aPack, Option.some.injEq, exists_eq_left', e1.1, e1.1.symm, e2.1, e2.1.symm, e3.1, e3.1.symm, ho, build24_0]) | with_reducible first | refine nS ?_ | refine rS fun bq hbq => ?_ | refine rR ?_
    exact hq _ (fresh_bad vs lv ty hE rfl)
  cases l0 : decide (lv < 0)
  case true =>
    have hE : freshErr vs lv ty = 1 := by unfold freshErr; rw [c0, ho, l0]; rfl
    try dsimp only
    repeat first | ((with_reducible first | refine sS ?_ | refine sC ?_); intro bC bR bU hC hR hU; simp only [go_sem, ↓reduceIte, e1.1, e1.1.symm, e2.1, e2.1.symm, e3.1, e3.1.symm, ho, l0, build24_0]; subst hC hR hU) | (with_reducible refine rN ?_; subst hbq) | (with_reducible refine iR ?_; refine rG (by simp only [compL, gtOf, nthDst]; exact rfl) ?_) | (with_reducible refine r1 ?_; clear hbq bq) | (with_reducible refine iL ?_; refine rL (by rw [Tryz.results36]) (fin _) ?_; simp only [go_sem, ↓reduceIte, aPack, Option.some.injEq, exists_eq_left', e1.1, e1.1.symm, e2.1, e2.1.symm, e3.1, e3.1.symm, ho, l0, build24_0]) | with_reducible first | refine nS ?_ | refine rS fun bq hbq => ?_ | refine rR ?_
    exact hq _ (fresh_bad vs lv ty hE rfl)
  cases l1 : decide (lv > 60)
  case true =>
    have hE : freshErr vs lv ty = 1 := by unfold freshErr; rw [c0, ho, l0, l1]; rfl
    try dsimp only
    repeat first | ((with_reducible first | refine sS ?_ | refine sC ?_); intro bC bR bU hC hR hU; simp only [go_sem, ↓reduceIte, e1.1, e1.1.symm, e2.1, e2.1.symm, e3.1, e3.1.symm, ho, l0, l1, build24_0]; subst hC hR hU) | (with_reducible refine rN ?_; subst hbq) | (with_reducible refine iR ?_; refine rG (by simp only [compL, gtOf, nthDst]; exact rfl) ?_) | (with_reducible refine r1 ?_; clear hbq bq) | (with_reducible refine iL ?_; refine rL (by rw [Tryz.results36]) (fin _) ?_; simp only [go_sem, ↓reduceIte, aPack, Option.some.injEq, exists_eq_left', e1.1, e1.1.symm, e2.1, e2.1.symm, e3.1, e3.1.symm, ho, l0, l1, build24_0]) | with_reducible first | refine nS ?_ | refine rS fun bq hbq => ?_ | refine rR ?_
    exact hq _ (fresh_bad vs lv ty hE rfl)
  cases l2 : decide ((vs.length : Int) ≥ 2000)
  case true =>
    have hE : freshErr vs lv ty = 2 := by unfold freshErr; rw [c0, ho, l0, l1, l2]; rfl
    try dsimp only
    repeat first | ((with_reducible first | refine sS ?_ | refine sC ?_); intro bC bR bU hC hR hU; simp only [go_sem, ↓reduceIte, e1.1, e1.1.symm, e2.1, e2.1.symm, e3.1, e3.1.symm, ho, l0, l1, l2, build24_0]; subst hC hR hU) | (with_reducible refine rN ?_; subst hbq) | (with_reducible refine iR ?_; refine rG (by simp only [compL, gtOf, nthDst]; exact rfl) ?_) | (with_reducible refine r1 ?_; clear hbq bq) | (with_reducible refine iL ?_; refine rL (by rw [Tryz.results36]) (fin _) ?_; simp only [go_sem, ↓reduceIte, aPack, Option.some.injEq, exists_eq_left', e1.1, e1.1.symm, e2.1, e2.1.symm, e3.1, e3.1.symm, ho, l0, l1, l2, build24_0]) | with_reducible first | refine nS ?_ | refine rS fun bq hbq => ?_ | refine rK ?_ | refine rR ?_
    exact hq _ (fresh_bad vs lv ty hE rfl)
  have hE : freshErr vs lv ty = 0 := by unfold freshErr; rw [c0, ho, l0, l1, l2]; rfl
  try dsimp only
  repeat first | ((with_reducible first | refine sS ?_ | refine sC ?_); intro bC bR bU hC hR hU; simp only [go_sem, ↓reduceIte, e1.1, e1.1.symm, e2.1, e2.1.symm, e3.1, e3.1.symm, ho, l0, l1, l2]; subst hC hR hU) | (with_reducible refine rN ?_; subst hbq) | (with_reducible refine iR ?_; refine rG (by simp only [compL, gtOf, nthDst]; exact rfl) ?_) | with_reducible first | refine nS ?_ | refine rS fun bq hbq => ?_ | refine rK ?_
  have sa : (upd (upd (upd h a (some (AObj.cells [.list 8 (encVs vs) vs.length tk] 24))) b (some (.cells (cellsTy ty) 60))) r (some (.cells [.list 0 [] 0 .nil] 24))) a = some (.cells [.list 8 (encVs vs) vs.length tk] 24) := by rw [upd_other _ _ e3.1.symm, upd_other _ _ e1.1.symm, upd_same]
  have sb : (upd (upd (upd h a (some (AObj.cells [.list 8 (encVs vs) vs.length tk] 24))) b (some (.cells (cellsTy ty) 60))) r (some (.cells [.list 0 [] 0 .nil] 24))) b = some (.cells (cellsTy ty) 60) := by rw [upd_other _ _ e2.1.symm, upd_same]
  have sr : (upd (upd (upd h a (some (AObj.cells [.list 8 (encVs vs) vs.length tk] 24))) b (some (.cells (cellsTy ty) 60))) r (some (.cells [.list 0 [] 0 .nil] 24))) r = some (.cells [.list 0 [] 0 .nil] 24) := upd_same _ _ _
  have finH := fin (.cells [.list 0 [] 0 .nil] 24)
  generalize (upd (upd (upd h a (some (AObj.cells [.list 8 (encVs vs) vs.length tk] 24))) b (some (AObj.cells (cellsTy ty) 60))) r (some (AObj.cells [.list 0 [] 0 .nil] 24))) = H at *
  repeat with_reducible refine run_seq fun bq hbq => ?_
  refine run_draw (.take 0 (.take 1 (.take 2 (.take 4 (.take 5 (.take 6 (.take 7 (.take 10 (.take 11 (.take 12 (.one 3 [11, 5] (.one 8 [11, 5] (.take 9 (.one 13 [11] (.take 14 (.take 15 (.done))))))))))))))))) (by kernel_rfl) (by simp only [compL, gtOf, nthDst]; exact rfl) ?_
  try dsimp only
  repeat (((first | (with_reducible refine iT ?_; refine sT rfl ?_) | (with_reducible refine iO ?_; refine sO rfl ?_)); intro bC bR bU hC hR hU; simp only [go_sem, ↓reduceIte, sa, sb, sr, build0_22, build62N, build22N]; subst hC hR hU))
  refine cAppend_list ?_
  simp only [go_sem, ↓reduceIte]
  intro w hw
  obtain ⟨h4, tok4, ea, hg, hl4⟩ := first_append vs hvs tk H w hw
  have a4 := hl4 _ _ sa
  have b4 := hl4 _ _ sb
  have r4 := hl4 _ _ sr
  simp only [ea, go_sem, ↓reduceIte]
  try dsimp only
  refine ⟨by rw [a4, b4]; exact ⟨rfl, rfl⟩, ?_⟩
  refine cAppend_list ?_
  simp only [go_sem, ↓reduceIte]
  intro w2 hw2
  obtain ⟨h5, ea2, hg5, hl5, keep5⟩ := append_grow el_22 el_22 sz_62 by_62 ze_62 ⟨rfl, by decide⟩ hl4 hw2 (sz1 := 8) (n1 := vs.length) (c1 := encVs vs) (c2 := [.int .i64 lv, .str ty.name, .list 2 (encTs ty.args) ty.args.length .none, .bool false, .int .i64 0, .int .i64 0, .str noNameS, .list 0 [] 0 .nil]) (n2 := 1) (t2 := .full) hg (.inr rfl) (sz2 := 8) rfl (by decide) (by omega)
  have a5 := keep5 _ _ _ a4
  have b5 := keep5 _ _ _ b4
  have r5 := keep5 _ _ _ r4
  have fin5 : HLess (upd h5 r (some (.cells [.list 8 (encVs vs ++ [.int .i64 lv, .str ty.name, .list 2 (encTs ty.args) ty.args.length .none, .bool false, .int .i64 0, .int .i64 0, .str noNameS, .list 0 [] 0 .nil]) (vs.length + 1) (.id w2)] 24))) h := hless_set (hl5.trans finH) e3.2 _
  simp only [ea2, go_sem, ↓reduceIte]
  try dsimp only
  refine ⟨by rw [a5, b5]; exact ⟨rfl, rfl⟩, ?_⟩
  simp only [go_sem, ↓reduceIte, build24_list, r5, e2.1, e2.1.symm, e3.1, e3.1.symm, a5, b5]
  have hV : freshVs vs lv ty = vs ++ [newVa lv ty] := by unfold freshVs; rw [hE]; rfl
  have hN : freshN vs lv ty = vs.length := by unfold freshN; rw [hE]; rfl
  try dsimp only
  repeat first | (with_reducible refine rN ?_; subst hbq) | (with_reducible refine iL ?_; refine rL (by rw [Tryz.results36]) fin5 ?_; simp only [go_sem, ↓reduceIte, aPack, Option.some.injEq, exists_eq_left', a5, b5, r5, e2.1, e2.1.symm, e3.1, e3.1.symm]) | with_reducible refine rR ?_
  refine hq _ ?_
  unfold freshAV
  rw [hV, hN, hE]
  exact LeAV.tuple (.cons (LeAV.agg (.cons (le_new vs lv ty _) .nil)) (.cons (LeAV.refl _) (.cons (LeAV.refl _) .nil)))
end Go.Proofs.YthkjmiejaoomcaaGreat.Am
