/- Part of the proof of a law of layer 5: own texts, joined. -/
import Derived.Test.YthkjmiejaoomcaaGreatMg
import Derived.Test.YthkjmiejaoomcaaGreatMb
import Derived.Test.YthkjmiejaoomcaaGreatMh
set_option linter.unusedVariables false
set_option linter.unusedSimpArgs false
set_option linter.unnecessarySimpa false
namespace Go.Proofs.YthkjmiejaoomcaaGreat.Am
open Go Go.RowKit Go.Proofs
set_option linter.unusedVariables false
set_option linter.unusedSimpArgs false
set_option maxRecDepth 100000
set_option maxHeartbeats 1000000
attribute [local go_sem] cSeq cDr cOne cStays nthCO panK aKind gWanted panC cPanic cOp needsName cStep aop aEval argEnv List.getD_cons_zero List.getD_cons_succ AV.known AV.cells if_true if_false cond_true cond_false aPut true_and and_true ofConst ofLeaf true_imp false_imp true_imp' false_imp' btt btf
  aFieldAt aAssert aLoad aPick aBin aInt aShift aStr unSl aLen aBuiltin Option.map_some Option.map_none upd_same eupd_at Nat.reduceBEq List.drop_zero List.drop_succ_cons List.drop_nil List.take_succ_cons List.take_zero List.head?_cons List.length_cons List.length_nil Nat.reduceAdd Nat.reduceLeDiff Nat.reduceEqDiff List.map_cons List.map_nil Nat.zero_add Nat.add_zero reduceCtorEq Bool.false_eq_true
  aResL aRes1 true_implies false_implies implies_true forall_const and_self Bool.not_true Bool.not_false Bool.cond_self upd_if aExtract aNil aIface aMax aMin aNot List.getElem?_cons_zero List.getElem?_cons_succ aIndexAt aStore aSplice AV.flat List.all_cons List.all_nil Bool.and_true Bool.true_and Bool.and_false Bool.false_and Int.natCast_nonneg Int.ofNat_lt Int.toNat_natCast cCall Nat.le_add_left List.append_nil List.contains_cons List.contains_nil Bool.or_true Bool.or_false Bool.true_or Bool.false_or Nat.reduceBEq List.cons_append List.nil_append
  sz_1 by_1 ag_1 tk_1 ze_1 sz_3 by_3 ag_3 tk_3 ze_3 sz_4 by_4 ag_4 tk_4 ze_4 sz_9 by_9 ag_9 tk_9 ze_9
  sz_20 by_20 ag_20 tk_20 ze_20 sz_22 by_22 ag_22 tk_22 el_22 ze_22 sz_24 by_24 ag_24 tk_24 ze_24 fi_24_0 pl_24 sz_25 by_25
  ag_25 tk_25 el_25 ze_25 sz_27 by_27 ag_27 tk_27 ze_27 fi_27_0 fi_27_1 fi_27_2 fi_27_3 pl_27 sz_30 by_30 ag_30 tk_30 ze_30 sz_34
  by_34 ag_34 tk_34 ze_34 fi_34_0 fi_34_1 fi_34_2 fi_34_3 pl_34 sz_40 by_40 ag_40 tk_40 el_40 ze_40 sz_42 by_42 ag_42 tk_42 ze_42
  fi_42_0 fi_42_1 fi_42_2 pl_42 sz_52 by_52 ag_52 tk_52 ze_52 fi_52_0 fi_52_1 fi_52_2 fi_52_3 pl_52 sz_60 by_60 ag_60 tk_60 ze_60 fi_60_0
  fi_60_1 pl_60 sz_62 by_62 ag_62 tk_62 ze_62 fi_62_0 fi_62_1 fi_62_2 fi_62_3 pl_62 sz_68 by_68 ag_68 tk_68 ze_68 fi_68_0 fi_68_1 pl_68
  sz_70 by_70 ag_70 tk_70 el_70 ze_70 sz_77 by_77 ag_77 tk_77 el_77 ze_77 sz_80 by_80 ag_80 tk_80 ze_80 sz_83 by_83 ag_83
  tk_83 ze_83 fi_83_0 fi_83_1 pl_83 sz_95 by_95 ag_95 tk_95 ze_95 sz_97 by_97 ag_97 tk_97 ze_97 sz_99 by_99 ag_99 tk_99 mp_99
  ze_99 sz_101 by_101 ag_101 tk_101 ze_101 fi_101_0 fi_101_1 fi_101_2 pl_101 sz_104 by_104 ag_104 tk_104 ze_104 sz_106 by_106 ag_106 tk_106 ze_106
  fi_106_0 fi_106_1 fi_106_2 pl_106 sz_108 by_108 ag_108 tk_108 ze_108 sz_109 by_109 ag_109 tk_109 ze_109 sz_110 by_110 ag_110 tk_110 el_110 ze_110
  sz_112 by_112 ag_112 tk_112 ze_112 fi_112_0 fi_112_1 fi_112_2 fi_112_3 pl_112 sz_115 by_115 ag_115 tk_115 ze_115 fi_115_0 fi_115_1 pl_115 sz_121 by_121
  ag_121 tk_121 ze_121 sz_125 by_125 ag_125 tk_125 ze_125 sz_126 by_126 ag_126 tk_126 mp_126 ze_126 sz_128 by_128 ag_128 tk_128 ze_128 fi_128_0
  fi_128_1 fi_128_2 fi_128_3 pl_128 sz_136 by_136 ag_136 tk_136 el_136 ze_136 sz_140 by_140 ag_140 tk_140 mp_140 ze_140 sz_142 by_142 ag_142 tk_142
  ze_142 fi_142_0 fi_142_1 pl_142 sz_144 by_144 ag_144 tk_144 ze_144 sz_145 by_145 ag_145 tk_145 el_145 ze_145 sz_147 by_147 ag_147 tk_147 ze_147
  fi_147_0 fi_147_1 fi_147_2 fi_147_3 pl_147 sz_150 by_150 ag_150 tk_150 ze_150 pl_150 sz_152 by_152 ag_152 tk_152 ze_152 fi_152_0 pl_152 sz_156 by_156
  ag_156 tk_156 ze_156 sz_158 by_158 ag_158 tk_158 ze_158 fi_158_0 fi_158_1 fi_158_2 pl_158 sz_160 by_160 ag_160 tk_160 mp_160 ze_160 sz_162 by_162
  ag_162 tk_162 ze_162 sz_164 by_164 ag_164 tk_164 ze_164 fi_164_0 fi_164_1 fi_164_2 pl_164 sz_167 by_167 ag_167 tk_167 ze_167 fi_167_0 fi_167_1 pl_167
  sz_173 by_173 ag_173 tk_173 el_173 ze_173 sz_189 by_189 ag_189 tk_189 ze_189 sz_198 by_198 ag_198 tk_198 ze_198
  cStays_nil bne decide_true decide_false Nat.mul_one upd_twice beq_self_eq_true Int.reduceBEq Int.reduceLT Int.reduceLE
/- The reference's Same. -/


mutual
def sameF : Term → Term → Bool
  | ⟨k, n, s, l⟩, u => k == u.kind && (n == u.n && (s.toList == u.name.toList && ((l.length : Int) == u.args.length && sameL l u.args)))
def sameL : List Term → List Term → Bool
  | [], _ => true
  | t :: ts, l => match l with
    | [] => true
    | u :: us => sameF t u && sameL ts us
end
theorem sameF_eq (t u : Term) : sameF t u = (t.kind == u.kind && (t.n == u.n && (t.name.toList == u.name.toList && ((t.args.length : Int) == u.args.length && sameL t.args u.args)))) := by
  obtain ⟨k, n, s, l⟩ := t
  rw [sameF]
theorem same_am : ∀ (s : Nat) (a b : Term) (h : AHeap) (Q : AOut → AHeap → Prop), a.size ≤ s → a.size ≤ 1000000000 → Q (.ret (.bool (sameF a b))) h → AmCalls Tryz.prog 43 [enc a, enc b] h Q := by
  intro s
  induction s with
  | zero => intro t m h Q ht; obtain ⟨a, b, c, l⟩ := t; rw [Term.size] at ht; omega
  | succ s ih =>
    intro a b h Q ht htb hq
    have hlen := length_args a
    rw [sameF_eq] at hq
    refine AmCalls.of_sem (fn := Tryz.f43) Tryz.func43 rfl (by kernel_rfl) (by rw [Tryz.ntmps43]; simp) (enters_of Tryz.func43 (by kernel_rfl) (by kernel_rfl)) ?_
    repeat with_reducible refine run_seq fun bq hbq => ?_
    refine run_region (by simp only [compL, gtOf, nthDst]; exact rfl) ?_
    try dsimp only
    repeat first | ((first | (with_reducible first | refine sS ?_ | refine sA ?_) | (with_reducible refine iT ?_; refine sT rfl ?_) | (with_reducible refine i0 ?_; refine s0 rfl ?_) | (with_reducible refine iO ?_; refine sO rfl ?_)); intro bC bR bU hC hR hU; simp only [go_sem, ↓reduceIte]; subst hC hR hU) | with_reducible first | refine nS ?_ | refine nD ?_
    intro p hp q hq'
    have hne := fresh_two hq'
    have fin : HLess (upd (upd h p (some (AObj.cells (cellsT a) 27))) q (some (AObj.cells (cellsT b) 27))) h := (HLess.one hq').trans (HLess.one hp)
    refine run_next ?_; subst hbq
    repeat with_reducible refine run_seq fun bq hbq => ?_
    refine run_region (by simp only [compL, gtOf, nthDst]; exact rfl) ?_
    cases hk : (a.kind == b.kind)
    · try dsimp only
      repeat first | ((first | (with_reducible first | refine sS ?_ | refine sA ?_) | (with_reducible refine iT ?_; refine sT rfl ?_) | (with_reducible refine i0 ?_; refine s0 rfl ?_) | (with_reducible refine iO ?_; refine sO rfl ?_)); intro bC bR bU hC hR hU; simp only [go_sem, ↓reduceIte, hne.1, hne.1.symm, hk]; subst hC hR hU) | with_reducible first | refine nS ?_ | refine nD ?_
      refine run_next ?_; subst hbq
      repeat with_reducible refine run_seq fun bq hbq => ?_
      refine run_cond (t := true) (by simp only [go_sem, ↓reduceIte]) ?_ ?_
      · intro _
        repeat with_reducible refine run_seq fun bq hbq => ?_
        refine run_region (by simp only [compL, gtOf, nthDst]; exact rfl) ?_
        try dsimp only
        repeat first | ((first | (with_reducible first | refine sS ?_ | refine sA ?_) | (with_reducible refine iT ?_; refine sT rfl ?_) | (with_reducible refine i0 ?_; refine s0 rfl ?_) | (with_reducible refine iO ?_; refine sO rfl ?_)); intro bC bR bU hC hR hU; simp only [go_sem, ↓reduceIte]; subst hC hR hU) | with_reducible first | refine nS ?_ | refine nD ?_
        refine run_next ?_; subst hbq
        refine run_ret_in ?_
        repeat first | (with_reducible refine seqK_ret ?_; clear hbq bq) | with_reducible refine cutK_ret ?_ | with_reducible refine loopK_ret ?_ | with_reducible refine blockK_ret ?_
        refine run_lastret (by rw [Tryz.results43]) fin ?_
        simp only [go_sem, ↓reduceIte, aPack, Option.some.injEq, exists_eq_left']
        exact ret_as (by simp [hk]) hq
      · intro hf; cases hf
    cases hn : (a.n == b.n)
    · try dsimp only
      repeat first | ((first | (with_reducible first | refine sS ?_ | refine sA ?_) | (with_reducible refine iT ?_; refine sT rfl ?_) | (with_reducible refine i0 ?_; refine s0 rfl ?_) | (with_reducible refine iO ?_; refine sO rfl ?_)); intro bC bR bU hC hR hU; simp only [go_sem, ↓reduceIte, hne.1, hne.1.symm, hk, hn]; subst hC hR hU) | with_reducible first | refine nS ?_ | refine nD ?_
      refine run_next ?_; subst hbq
      repeat with_reducible refine run_seq fun bq hbq => ?_
      refine run_cond (t := true) (by simp only [go_sem, ↓reduceIte]) ?_ ?_
      · intro _
        repeat with_reducible refine run_seq fun bq hbq => ?_
        refine run_region (by simp only [compL, gtOf, nthDst]; exact rfl) ?_
        try dsimp only
        repeat first | ((first | (with_reducible first | refine sS ?_ | refine sA ?_) | (with_reducible refine iT ?_; refine sT rfl ?_) | (with_reducible refine i0 ?_; refine s0 rfl ?_) | (with_reducible refine iO ?_; refine sO rfl ?_)); intro bC bR bU hC hR hU; simp only [go_sem, ↓reduceIte]; subst hC hR hU) | with_reducible first | refine nS ?_ | refine nD ?_
        refine run_next ?_; subst hbq
        refine run_ret_in ?_
        repeat first | (with_reducible refine seqK_ret ?_; clear hbq bq) | with_reducible refine cutK_ret ?_ | with_reducible refine loopK_ret ?_ | with_reducible refine blockK_ret ?_
        refine run_lastret (by rw [Tryz.results43]) fin ?_
        simp only [go_sem, ↓reduceIte, aPack, Option.some.injEq, exists_eq_left']
        exact ret_as (by simp [hn]) hq
      · intro hf; cases hf
    cases hs : (a.name.toList == b.name.toList)
    · try dsimp only
      repeat first | ((first | (with_reducible first | refine sS ?_ | refine sA ?_) | (with_reducible refine iT ?_; refine sT rfl ?_) | (with_reducible refine i0 ?_; refine s0 rfl ?_) | (with_reducible refine iO ?_; refine sO rfl ?_)); intro bC bR bU hC hR hU; simp only [go_sem, ↓reduceIte, hne.1, hne.1.symm, hk, hn, hs]; subst hC hR hU) | with_reducible first | refine nS ?_ | refine nD ?_
      refine run_next ?_; subst hbq
      repeat with_reducible refine run_seq fun bq hbq => ?_
      refine run_cond (t := true) (by simp only [go_sem, ↓reduceIte]) ?_ ?_
      · intro _
        repeat with_reducible refine run_seq fun bq hbq => ?_
        refine run_region (by simp only [compL, gtOf, nthDst]; exact rfl) ?_
        try dsimp only
        repeat first | ((first | (with_reducible first | refine sS ?_ | refine sA ?_) | (with_reducible refine iT ?_; refine sT rfl ?_) | (with_reducible refine i0 ?_; refine s0 rfl ?_) | (with_reducible refine iO ?_; refine sO rfl ?_)); intro bC bR bU hC hR hU; simp only [go_sem, ↓reduceIte]; subst hC hR hU) | with_reducible first | refine nS ?_ | refine nD ?_
        refine run_next ?_; subst hbq
        refine run_ret_in ?_
        repeat first | (with_reducible refine seqK_ret ?_; clear hbq bq) | with_reducible refine cutK_ret ?_ | with_reducible refine loopK_ret ?_ | with_reducible refine blockK_ret ?_
        refine run_lastret (by rw [Tryz.results43]) fin ?_
        simp only [go_sem, ↓reduceIte, aPack, Option.some.injEq, exists_eq_left']
        exact ret_as (by simp [hs]) hq
      · intro hf; cases hf
    cases hl : ((a.args.length : Int) == b.args.length)
    · try dsimp only
      repeat first | ((first | (with_reducible first | refine sS ?_ | refine sA ?_) | (with_reducible refine iT ?_; refine sT rfl ?_) | (with_reducible refine i0 ?_; refine s0 rfl ?_) | (with_reducible refine iO ?_; refine sO rfl ?_)); intro bC bR bU hC hR hU; simp only [go_sem, ↓reduceIte, hne.1, hne.1.symm, hk, hn, hs, hl]; subst hC hR hU) | with_reducible first | refine nS ?_ | refine nD ?_
      refine run_next ?_; subst hbq
      repeat with_reducible refine run_seq fun bq hbq => ?_
      refine run_cond (t := true) (by simp only [go_sem, ↓reduceIte]) ?_ ?_
      · intro _
        repeat with_reducible refine run_seq fun bq hbq => ?_
        refine run_region (by simp only [compL, gtOf, nthDst]; exact rfl) ?_
        try dsimp only
        repeat first | ((first | (with_reducible first | refine sS ?_ | refine sA ?_) | (with_reducible refine iT ?_; refine sT rfl ?_) | (with_reducible refine i0 ?_; refine s0 rfl ?_) | (with_reducible refine iO ?_; refine sO rfl ?_)); intro bC bR bU hC hR hU; simp only [go_sem, ↓reduceIte]; subst hC hR hU) | with_reducible first | refine nS ?_ | refine nD ?_
        refine run_next ?_; subst hbq
        refine run_ret_in ?_
        repeat first | (with_reducible refine seqK_ret ?_; clear hbq bq) | with_reducible refine cutK_ret ?_ | with_reducible refine loopK_ret ?_ | with_reducible refine blockK_ret ?_
        refine run_lastret (by rw [Tryz.results43]) fin ?_
        simp only [go_sem, ↓reduceIte, aPack, Option.some.injEq, exists_eq_left']
        exact ret_as (by simp [hl]) hq
      · intro hf; cases hf
    try dsimp only
    repeat first | ((first | (with_reducible first | refine sS ?_ | refine sA ?_) | (with_reducible refine iT ?_; refine sT rfl ?_) | (with_reducible refine i0 ?_; refine s0 rfl ?_) | (with_reducible refine iO ?_; refine sO rfl ?_)); intro bC bR bU hC hR hU; simp only [go_sem, ↓reduceIte, hne.1, hne.1.symm, hk, hn, hs, hl]; subst hC hR hU) | with_reducible first | refine nS ?_ | refine nD ?_
    refine run_next ?_; subst hbq
    repeat with_reducible refine run_seq fun bq hbq => ?_
    refine run_cond (t := false) (by simp only [go_sem, ↓reduceIte]) ?_ ?_
    · intro hf; cases hf
    intro _
    simp only [hk, hn, hs, hl, Bool.true_and] at hq
    have hl' : a.args.length = b.args.length := by simp only [beq_iff_eq] at hl; omega
    refine run_skip ?_
    refine run_next ?_; subst hbq
    repeat with_reducible refine run_seq fun bq hbq => ?_
    refine run_region (by simp only [compL, gtOf, nthDst]; exact rfl) ?_
    try dsimp only
    repeat first | ((first | (with_reducible first | refine sS ?_ | refine sA ?_) | (with_reducible refine iT ?_; refine sT rfl ?_) | (with_reducible refine i0 ?_; refine s0 rfl ?_) | (with_reducible refine iO ?_; refine sO rfl ?_)); intro bC bR bU hC hR hU; simp only [go_sem, ↓reduceIte]; subst hC hR hU) | with_reducible first | refine nS ?_ | refine nD ?_
    refine run_next ?_; subst hbq
    repeat with_reducible refine run_seq fun bq hbq => ?_
    refine run_block fun cq hcq => ?_
    subst hcq
    refine run_loop (fun k τ h' => ∃ i : Nat, k + i = a.args.length ∧ τ 2 = .ptr p 0 ∧ τ 3 = .ptr q 0 ∧ τ 5 = .int .i64 i ∧ h' = upd (upd h p (some (.cells (cellsT a) 27))) q (some (.cells (cellsT b) 27)) ∧ sameL (a.args.drop i) (b.args.drop i) = sameL a.args b.args) a.args.length ?_ ?_
    · exact ⟨0, rfl, rfl, rfl, rfl, rfl, rfl⟩
    · intro c hc k τ h' hI
      obtain ⟨i, hk2, e2, e3, e5, rfl, hix⟩ := hI
      subst hc
      repeat with_reducible refine run_seq fun bq hbq => ?_
      refine run_region (by simp only [compL, gtOf, nthDst]; exact rfl) ?_
      by_cases hi : i < a.args.length
      · have hd : decide (i < a.args.length) = true := by simpa using hi
        have hib : i < b.args.length := by omega
        obtain ⟨u, hu⟩ : ∃ u, a.args[i]? = some u := ⟨_, List.getElem?_eq_getElem hi⟩
        obtain ⟨v, hv⟩ : ∃ v, b.args[i]? = some v := ⟨_, List.getElem?_eq_getElem hib⟩
        obtain ⟨r, hr⟩ := encs_at a.args i hu
        obtain ⟨r2, hr2⟩ := encs_at b.args i hv
        have hsz := size_arg a i hu
        have hdrop : a.args.drop i = u :: a.args.drop (i + 1) := by
          rw [List.drop_eq_getElem_cons hi]
          rw [List.getElem?_eq_getElem hi] at hu; injection hu with hu; rw [hu]
        have hdrop2 : b.args.drop i = v :: b.args.drop (i + 1) := by
          rw [List.drop_eq_getElem_cons hib]
          rw [List.getElem?_eq_getElem hib] at hv; injection hv with hv; rw [hv]
        rw [hdrop, hdrop2, sameL] at hix
        try dsimp only
        repeat first | ((first | (with_reducible first | refine sS ?_ | refine sA ?_) | (with_reducible refine iT ?_; refine sT rfl ?_) | (with_reducible refine i0 ?_; refine s0 rfl ?_) | (with_reducible refine iO ?_; refine sO rfl ?_)); intro bC bR bU hC hR hU; simp only [go_sem, ↓reduceIte, e2, e3, e5, hd, hne.1, hne.1.symm]; subst hC hR hU) | with_reducible first | refine nS ?_ | refine nD ?_
        refine run_next ?_; subst hbq
        repeat with_reducible refine run_seq fun bq hbq => ?_
        refine run_cond (t := true) (by simp only [go_sem, ↓reduceIte]) ?_ ?_
        · intro _
          refine run_skip ?_
          refine run_next ?_; subst hbq
          repeat with_reducible refine run_seq fun bq hbq => ?_
          refine run_block fun cq hcq => ?_
          subst hcq
          repeat with_reducible refine run_seq fun bq hbq => ?_
          refine run_draw (.take 0 (.take 1 (.take 2 (.take 3 (.take 4 (.take 5 (.take 6 (.take 7 (.take 8 (.take 9 (.one 10 [6, 1] (.take 11 (.done))))))))))))) (by kernel_rfl) (by simp only [compL, gtOf, nthDst]; exact rfl) ?_
          try dsimp only
          repeat first | ((first | (with_reducible first | refine sS ?_ | refine sA ?_) | (with_reducible refine iT ?_; refine sT rfl ?_) | (with_reducible refine i0 ?_; refine s0 rfl ?_) | (with_reducible refine iO ?_; refine sO rfl ?_)); intro bC bR bU hC hR hU; simp only [go_sem, ↓reduceIte, e2, e3, e5, hi, hib, hr, hr2, hne.1, hne.1.symm]; subst hC hR hU) | with_reducible first | refine nS ?_ | refine nD ?_
          refine ih u v _ _ (by omega) (by omega) ?_
          try dsimp only
          repeat first | ((first | (with_reducible first | refine sS ?_ | refine sA ?_) | (with_reducible refine iT ?_; refine sT rfl ?_) | (with_reducible refine i0 ?_; refine s0 rfl ?_) | (with_reducible refine iO ?_; refine sO rfl ?_)); intro bC bR bU hC hR hU; simp only [go_sem, ↓reduceIte, e2, e3, e5, hne.1, hne.1.symm]; subst hC hR hU) | with_reducible first | refine nS ?_ | refine nD ?_
          refine run_next ?_; subst hbq
          cases hsv : sameF u v
          · rw [hsv, Bool.false_and] at hix
            try dsimp only
            repeat first | ((first | (with_reducible first | refine sS ?_ | refine sA ?_) | (with_reducible refine iT ?_; refine sT rfl ?_) | (with_reducible refine i0 ?_; refine s0 rfl ?_) | (with_reducible refine iO ?_; refine sO rfl ?_)); intro bC bR bU hC hR hU; simp only [go_sem, ↓reduceIte, hsv]; subst hC hR hU) | with_reducible first | refine nS ?_ | refine nD ?_
            repeat with_reducible refine run_seq fun bq hbq => ?_
            refine run_cond (t := true) (by simp only [go_sem, ↓reduceIte]) ?_ ?_
            · intro _
              repeat with_reducible refine run_seq fun bq hbq => ?_
              refine run_region (by simp only [compL, gtOf, nthDst]; exact rfl) ?_
              try dsimp only
              repeat first | ((first | (with_reducible first | refine sS ?_ | refine sA ?_) | (with_reducible refine iT ?_; refine sT rfl ?_) | (with_reducible refine i0 ?_; refine s0 rfl ?_) | (with_reducible refine iO ?_; refine sO rfl ?_)); intro bC bR bU hC hR hU; simp only [go_sem, ↓reduceIte]; subst hC hR hU) | with_reducible first | refine nS ?_ | refine nD ?_
              refine run_next ?_; subst hbq
              refine run_ret_in ?_
              repeat first | (with_reducible refine seqK_ret ?_; clear hbq bq) | with_reducible refine cutK_ret ?_ | with_reducible refine loopK_ret ?_ | with_reducible refine blockK_ret ?_
              refine run_lastret (by rw [Tryz.results43]) fin ?_
              simp only [go_sem, ↓reduceIte, aPack, Option.some.injEq, exists_eq_left']
              exact ret_as (by rw [hix]) hq
            · intro hf; cases hf
          · rw [hsv, Bool.true_and] at hix
            try dsimp only
            repeat first | ((first | (with_reducible first | refine sS ?_ | refine sA ?_) | (with_reducible refine iT ?_; refine sT rfl ?_) | (with_reducible refine i0 ?_; refine s0 rfl ?_) | (with_reducible refine iO ?_; refine sO rfl ?_)); intro bC bR bU hC hR hU; simp only [go_sem, ↓reduceIte, hsv]; subst hC hR hU) | with_reducible first | refine nS ?_ | refine nD ?_
            repeat with_reducible refine run_seq fun bq hbq => ?_
            refine run_cond (t := false) (by simp only [go_sem, ↓reduceIte]) ?_ ?_
            · intro hf; cases hf
            intro _
            refine run_skip ?_
            refine run_endblock ?_
            refine run_next ?_; subst hbq
            repeat with_reducible refine run_seq fun bq hbq => ?_
            refine run_region (by simp only [compL, gtOf, nthDst]; exact rfl) ?_
            try dsimp only
            repeat first | ((first | (with_reducible first | refine sS ?_ | refine sA ?_) | (with_reducible refine iT ?_; refine sT rfl ?_) | (with_reducible refine i0 ?_; refine s0 rfl ?_) | (with_reducible refine iO ?_; refine sO rfl ?_)); intro bC bR bU hC hR hU; simp only [go_sem, ↓reduceIte, e5, wrap_in (show -9223372036854775808 ≤ (i : Int) + 1 by omega) (show (i : Int) + 1 ≤ 9223372036854775807 by omega)]; subst hC hR hU) | with_reducible first | refine nS ?_ | refine nD ?_
            refine run_loopN (m := k - 1) (by omega) ⟨i + 1, by omega, ?_⟩
            simp only [go_sem, ↓reduceIte, e2, e3]
            exact ⟨rfl, hix⟩
        · intro hf; cases hf
      · have hd : decide (i < a.args.length) = false := by simpa using hi
        rw [List.drop_eq_nil_of_le (by omega), sameL] at hix
        try dsimp only
        repeat first | ((first | (with_reducible first | refine sS ?_ | refine sA ?_) | (with_reducible refine iT ?_; refine sT rfl ?_) | (with_reducible refine i0 ?_; refine s0 rfl ?_) | (with_reducible refine iO ?_; refine sO rfl ?_)); intro bC bR bU hC hR hU; simp only [go_sem, ↓reduceIte, e2, e3, e5, hd, hne.1, hne.1.symm]; subst hC hR hU) | with_reducible first | refine nS ?_ | refine nD ?_
        refine run_next ?_; subst hbq
        repeat with_reducible refine run_seq fun bq hbq => ?_
        refine run_cond (t := false) (by simp only [go_sem, ↓reduceIte]) ?_ ?_
        · intro hf; cases hf
        · intro _
          refine run_exit ?_
          repeat first | (with_reducible refine seqK_exit ?_; clear hbq bq) | with_reducible refine cutK_exit ?_ | with_reducible refine loopK_exit ?_ | with_reducible refine run_exit_eq ?_ | (with_reducible refine blockK_ne ?_ ?_; focus rfl)
          refine run_next ?_; subst hbq
          repeat with_reducible refine run_seq fun bq hbq => ?_
          refine run_region (by simp only [compL, gtOf, nthDst]; exact rfl) ?_
          try dsimp only
          repeat first | ((first | (with_reducible first | refine sS ?_ | refine sA ?_) | (with_reducible refine iT ?_; refine sT rfl ?_) | (with_reducible refine i0 ?_; refine s0 rfl ?_) | (with_reducible refine iO ?_; refine sO rfl ?_)); intro bC bR bU hC hR hU; simp only [go_sem, ↓reduceIte]; subst hC hR hU) | with_reducible first | refine nS ?_ | refine nD ?_
          refine run_next ?_; subst hbq
          refine run_ret (by rw [Tryz.results43]) fin ?_
          simp only [go_sem, ↓reduceIte, aPack, Option.some.injEq, exists_eq_left']
          exact ret_as (by rw [hix]) hq
/- Named; fit (the reference's). -/


def namedF (s : ByteArray) : Bool := decide ((s.size : Int) > 0) && decide ((s.size : Int) ≤ 40)
theorem named_am (s : ByteArray) (h : AHeap) (Q : AOut → AHeap → Prop) (hq : Q (.ret (.bool (namedF s))) h) : AmCalls Tryz.prog 128 [.str s] h Q := by
  refine AmCalls.of_sem (fn := Tryz.f128) Tryz.func128 rfl (by kernel_rfl) (by rw [Tryz.ntmps128]; simp) (enters_of Tryz.func128 (by kernel_rfl) (by kernel_rfl)) ?_
  cases h1 : decide ((s.size : Int) > 0) <;> cases h2 : decide ((s.size : Int) ≤ 40)
  all_goals
    try dsimp only
    repeat first | ((first | (with_reducible first | refine sS ?_ | refine sA ?_ | refine sC ?_) | (with_reducible refine iT ?_; refine sT rfl ?_) | (with_reducible refine i0 ?_; refine s0 rfl ?_) | (with_reducible refine iO ?_; refine sO rfl ?_)); intro bC bR bU hC hR hU; simp only [go_sem, ↓reduceIte, h1, h2]; subst hC hR hU) | (with_reducible refine rN ?_; subst hbq) | (with_reducible refine iR ?_; refine rG (by simp only [compL, gtOf, nthDst]; exact rfl) ?_) | (with_reducible refine rB fun cq hcq => ?_; subst hcq) | (with_reducible refine x1 ?_; clear hbq bq) | (with_reducible refine r1 ?_; clear hbq bq) | (with_reducible refine x5 ?_ ?_; focus rfl) | (with_reducible refine iL ?_; refine rL (by rw [Tryz.results128]) (HLess.refl _) ?_; simp only [go_sem, ↓reduceIte, aPack, Option.some.injEq, exists_eq_left', h1, h2]) | with_reducible first | refine nS ?_ | refine nD ?_ | refine rS fun bq hbq => ?_ | refine rK ?_ | refine rE ?_ | refine rXx ?_ | refine rR ?_ | refine x2 ?_ | refine x3 ?_ | refine x4 ?_ | refine r2 ?_ | refine r3 ?_ | refine r4 ?_
    exact ret_as (by simp only [namedF, h1, h2]; rfl) hq
/- Rounds of loops over functions, told without names; eachPart, heads. -/


def AmRound (P : Program) (l : Nat) (args : List AV) (h : AHeap) (Q : AOut → AHeap → Prop) : Prop := ∀ n, NRound P l args h n fun o h' _ => Q o h'
def roundK (l : Nat) (Q : AOut → AHeap → Prop) : AK
  | .normal, _, h => ∃ nt env ps asg bd d, h l = some (.loop .busy Option.none nt env ps asg bd d) ∧ Q (.ret (.bool true)) (upd h l (some (.loop .ready Option.none nt env ps asg bd d)))
  | .ret, _, h => ∃ nt env ps asg bd d, h l = some (.loop .busy Option.none nt env ps asg bd d) ∧ Q (.ret (.bool false)) (upd h l (some (.loop .done (some .ret) nt env ps asg bd d)))
  | .exit i, _, h => ∃ nt env ps asg bd d, h l = some (.loop .busy Option.none nt env ps asg bd d) ∧ Q (.ret (.bool false)) (upd h l (some (.loop .done (some (.exit i)) nt env ps asg bd d)))
  | .panic _, _, _ => False
def assignK (P : Program) (l : Nat) (bd : Code) (Q : AOut → AHeap → Prop) : AK
  | .normal, τ, h => ∃ nt env ps asg bd' d, h l = some (.loop .ready Option.none nt env ps asg bd' d) ∧ AmSem P bd (roundK l Q) τ (upd h l (some (.loop .busy Option.none nt env ps asg bd' d)))
  | _, _, _ => False
theorem AmRound.of_sem {P : Program} {h : AHeap} {l nt d : Nat} {env : Env} {ps : List Nat} {asg bd : Code} {args : List AV} {Q : AOut → AHeap → Prop} (hl : h l = some (.loop .ready Option.none nt env ps asg bd d)) (hlen : args.length = ps.length)
    (hc : AmSem P asg (assignK P l bd Q) (zipPut env ps args) h) : AmRound P l args h Q := by
  intro n
  refine NRound.of_sem hl hlen ((hc nt n [] (some l)).mono fun e s ⟨h1, h2, h3⟩ => ?_)
  obtain ⟨τ, h', n', ds, rd⟩ := s
  simp only at h1 h2 h3
  subst h1; subst h2
  cases e with
  | normal =>
    obtain ⟨nt', env', ps', asg', bd', d', hl', hb⟩ := h3
    refine ⟨nt', env', ps', asg', bd', d', hl', (hb nt n' [] (some l)).mono fun e s ⟨k1, k2, k3⟩ => ?_⟩
    obtain ⟨τ2, h2, n2, ds2, rd2⟩ := s
    simp only at k1 k2 k3
    subst k1; subst k2
    cases e with
    | normal => exact k3
    | ret => exact k3
    | exit i => exact k3
    | panic v => exact k3
  | ret => exact h3
  | exit i => exact h3
  | panic v => exact h3
/-- A region, told with names. -/
theorem run_regionN {P : Program} {h : AHeap} {id : Nat} {ops : Array Oper} {K : AK} {τ : Env} (hs : ∀ n ds rd, amSeq P ops ops.toList (liftK ds rd K) ⟨τ, h, n, ds, rd⟩) : AmSem P (.region id ops false) K τ h :=
  fun nt n ds rd => .region (hs n ds rd)

theorem aCall_yield {P : Program} {l : Nat} {args : List AV} {h : AHeap} {n : Nat} {Q : AOut → AHeap → Nat → Prop} (k : NRound P l args h n Q) : aCall P (.yield l) args h n Q := k
def cutH (ex : List Nat) (h : AHeap) : AHeap := fun j => if ex.contains j then Option.none else h j
theorem cutH_less (ex : List Nat) (h : AHeap) : HLess h (cutH ex h) := by
  intro j o hj
  unfold cutH at hj
  split at hj
  · cases hj
  · exact hj
theorem cutH_ex {ex : List Nat} {h : AHeap} {j : Nat} (hj : j ∈ ex) : cutH ex h j = Option.none := by
  unfold cutH; rw [if_pos (by simpa using hj)]
theorem cutH_at {ex : List Nat} {h : AHeap} {j : Nat} (hj : j ∉ ex) : cutH ex h j = h j := by
  unfold cutH; rw [if_neg (by simpa using hj)]
theorem cutH_over {ex : List Nat} {h h0 : AHeap} (hl : HLess h h0) (hn : ∀ j ∈ ex, h0 j = Option.none) : HLess (cutH ex h) h0 := by
  intro j o hj
  have : j ∉ ex := fun hm => by rw [hn j hm] at hj; cases hj
  rw [cutH_at this]; exact hl j o hj

section
variable {σ : Type} (step : σ → Term → Bool × σ)
mutual
def eachF : Term → σ → Bool × σ
  | ⟨k, n, nm, l⟩, s => if (step s ⟨k, n, nm, l⟩).1 then eachL l (step s ⟨k, n, nm, l⟩).2 else step s ⟨k, n, nm, l⟩
def eachL : List Term → σ → Bool × σ
  | [], s => (true, s)
  | t :: ts, s => if (eachF t s).1 then eachL ts (eachF t s).2 else eachF t s
end
theorem eachF_eq (t : Term) (s : σ) : eachF step t s = if (step s t).1 then eachL step t.args (step s t).2 else step s t := by
  obtain ⟨k, n, nm, l⟩ := t
  rw [eachF]
end
/-- What is asked of the rounds of loop l: its own objects are ex; Own tells what they hold, End what they hold when it has been left. -/
structure Rounds {σ : Type} (l : Nat) (ex : List Nat) (Own : σ → AHeap → Prop) (End : AHeap → Prop) (step : σ → Term → Bool × σ) (ok : Term → Prop) : Prop where
  mono : ∀ s h h', Own s h → HLess h' h → Own s h'
  there : ∀ s h j, Own s h → j ∈ ex → h j ≠ Option.none
  args : ∀ (t : Term) (i : Nat) (u : Term), ok t → t.args[i]? = some u → ok u
  round : ∀ h0, (∀ j ∈ ex, h0 j = Option.none) → ∀ s u h' Q, ok u → Own s h' → HLess h' h0 → ((step s u).1 = true → ∀ h2, Own (step s u).2 h2 → HLess h2 h0 → Q (.ret (.bool true)) h2) → ((step s u).1 = false → ∀ h2, End h2 → HLess h2 h0 → Q (.ret (.bool false)) h2) → AmRound Tryz.prog l [enc u] h' Q
theorem eachPart_am {σ : Type} {l : Nat} {ex : List Nat} {Own : σ → AHeap → Prop} {End : AHeap → Prop} {step : σ → Term → Bool × σ} {ok : Term → Prop} (R : Rounds l ex Own End step ok) : ∀ (sz : Nat) (h0 : AHeap), (∀ j ∈ ex, h0 j = Option.none) → ∀ (t : Term) (s : σ) (h : AHeap) (Q : AOut → AHeap → Prop), t.size ≤ sz → t.size ≤ 1000000000 → ok t → Own s h → HLess h h0 →
    ((eachF step t s).1 = true → ∀ h2, Own (eachF step t s).2 h2 → HLess h2 h0 → Q (.ret (.bool true)) h2) → ((eachF step t s).1 = false → ∀ h2, End h2 → HLess h2 h0 → Q (.ret (.bool false)) h2) → AmCalls Tryz.prog 134 [enc t, .yield l] h Q := by
  intro sz
  induction sz with
  | zero => intro h0 _ t s h Q ht; obtain ⟨a, b, c, l⟩ := t; rw [Term.size] at ht; omega
  | succ sz ih =>
    intro h0 hex t s h Q ht htb hok hO hl hq hn
    have hlen := length_args t
    rw [eachF_eq] at hq hn
    refine AmCalls.of_sem (fn := Tryz.f134) Tryz.func134 rfl (by kernel_rfl) (by rw [Tryz.ntmps134]; simp) (enters_of Tryz.func134 (by kernel_rfl) (by kernel_rfl)) ?_
    try dsimp only
    repeat first | ((first | (with_reducible first | refine sS ?_ | refine sA ?_ | refine sC ?_) | (with_reducible refine iT ?_; refine sT rfl ?_) | (with_reducible refine i0 ?_; refine s0 rfl ?_) | (with_reducible refine iO ?_; refine sO rfl ?_)); intro bC bR bU hC hR hU; simp only [go_sem, ↓reduceIte]; subst hC hR hU) | (with_reducible refine rN ?_; subst hbq) | (with_reducible refine iR ?_; refine rG (by simp only [compL, gtOf, nthDst]; exact rfl) ?_) | (with_reducible refine rB fun cq hcq => ?_; subst hcq) | (with_reducible refine x1 ?_; clear hbq bq) | (with_reducible refine r1 ?_; clear hbq bq) | (with_reducible refine x5 ?_ ?_; focus rfl) | (with_reducible refine iL ?_; refine rL (by rw [Tryz.results134]) (HLess.refl _) ?_; simp only [go_sem, ↓reduceIte, aPack, Option.some.injEq, exists_eq_left']) | with_reducible first | refine nS ?_ | refine nD ?_ | refine rS fun bq hbq => ?_ | refine rK ?_ | refine rE ?_ | refine rXx ?_ | refine rR ?_ | refine x2 ?_ | refine x3 ?_ | refine x4 ?_ | refine r2 ?_ | refine r3 ?_ | refine r4 ?_
    intro p hp
    have hpex : p ∉ ex := fun hm => R.there s h p hO hm hp
    try dsimp only
    repeat first | ((first | (with_reducible first | refine sS ?_ | refine sA ?_) | (with_reducible refine iT ?_; refine sT rfl ?_) | (with_reducible refine i0 ?_; refine s0 rfl ?_) | (with_reducible refine iO ?_; refine sO rfl ?_)); intro bC bR bU hC hR hU; simp only [go_sem, ↓reduceIte]; subst hC hR hU) | with_reducible first | refine nS ?_ | refine nD ?_
    refine run_next ?_; subst hbq
    repeat with_reducible refine run_seq fun bq hbq => ?_
    refine run_regionN fun n ds rd => ?_
    simp only [amSeq, aWanted, amOp, aStep, aop, aEval, aPut, go_sem, ↓reduceIte]
    intro _ _
    have hrd : AmRound Tryz.prog l [enc t] (upd h p (some (.cells (cellsT t) 27))) fun o h' => HLess h' (cutH ex (upd h p (some (.cells (cellsT t) 27)))) ∧ ((o = .ret (.bool true) ∧ (step s t).1 = true ∧ Own (step s t).2 h') ∨ (o = .ret (.bool false) ∧ (step s t).1 = false ∧ End h')) :=
      R.round (cutH ex (upd h p (some (.cells (cellsT t) 27)))) (fun j hj => cutH_ex hj) s t _ _ hok (R.mono _ _ _ hO (HLess.one hp)) (cutH_less _ _) (fun h1 h2 ho hl2 => ⟨hl2, .inl ⟨rfl, h1, ho⟩⟩) (fun h1 h2 ho hl2 => ⟨hl2, .inr ⟨rfl, h1, ho⟩⟩)
    have hover : HLess (cutH ex (upd h p (some (.cells (cellsT t) 27)))) h0 := cutH_over (((HLess.refl h).new hp).trans hl) hex
    have cp : cutH ex (upd h p (some (.cells (cellsT t) 27))) p = some (.cells (cellsT t) 27) := by rw [cutH_at hpex, upd_same]
    refine aCall_yield ((hrd n).mono fun o h' n' ⟨hl', ho⟩ => ?_)
    rcases ho with ⟨rfl, h1, hO'⟩ | ⟨rfl, h1, hE⟩
    · rw [if_pos h1] at hq hn
      simp only [go_sem, ↓reduceIte]
      intro _
      refine ⟨rfl, rfl, ?_⟩
      simp only [envAt]
      have mp := hl' _ _ cp
      try dsimp only
      repeat first | ((first | (with_reducible first | refine sS ?_ | refine sA ?_ | refine sC ?_) | (with_reducible refine iT ?_; refine sT rfl ?_) | (with_reducible refine i0 ?_; refine s0 rfl ?_) | (with_reducible refine iO ?_; refine sO rfl ?_)); intro bC bR bU hC hR hU; simp only [go_sem, ↓reduceIte, mp]; subst hC hR hU) | (with_reducible refine rN ?_; subst hbq) | (with_reducible refine iR ?_; refine rG (by simp only [compL, gtOf, nthDst]; exact rfl) ?_) | (with_reducible refine rB fun cq hcq => ?_; subst hcq) | (with_reducible refine x1 ?_; clear hbq bq) | (with_reducible refine r1 ?_; clear hbq bq) | (with_reducible refine x5 ?_ ?_; focus rfl) | (with_reducible refine iL ?_; refine rL (by rw [Tryz.results134]) (HLess.refl _) ?_; simp only [go_sem, ↓reduceIte, aPack, Option.some.injEq, exists_eq_left', mp]) | with_reducible first | refine nS ?_ | refine nD ?_ | refine rS fun bq hbq => ?_ | refine rK ?_ | refine rE ?_ | refine rXx ?_ | refine rR ?_ | refine x2 ?_ | refine x3 ?_ | refine x4 ?_ | refine r2 ?_ | refine r3 ?_ | refine r4 ?_
      refine run_loop (fun k τ h' => ∃ (i : Nat) (s' : σ), k + i = t.args.length ∧ eachL step (t.args.drop i) s' = eachL step t.args (step s t).2 ∧ τ 1 = .yield l ∧ τ 12 = .list 4 (encs t.args) t.args.length .none ∧ τ 13 = .int .i64 t.args.length ∧ τ 14 = .int .i64 i ∧ Own s' h' ∧ HLess h' h0) t.args.length ?_ ?_
      · refine ⟨0, (step s t).2, rfl, rfl, ?_⟩
        simp only [go_sem, ↓reduceIte]
        exact ⟨rfl, hO', hl'.trans hover⟩
      · intro c hc k τ h' hI
        obtain ⟨i, s', hk, hix, f1, f12, f13, f14, hO2, hl2⟩ := hI
        subst hc
        by_cases hi : i < t.args.length
        · obtain ⟨u, hu⟩ : ∃ u, t.args[i]? = some u := ⟨_, List.getElem?_eq_getElem hi⟩
          obtain ⟨r, hr⟩ := encs_at t.args i hu
          have hsz := size_arg t i hu
          have hdrop : t.args.drop i = u :: t.args.drop (i + 1) := by
            rw [List.drop_eq_getElem_cons hi]
            rw [List.getElem?_eq_getElem hi] at hu; injection hu with hu; rw [hu]
          rw [hdrop, eachL] at hix
          try dsimp only
          repeat first | ((first | (with_reducible first | refine sS ?_ | refine sA ?_ | refine sC ?_) | (with_reducible refine iT ?_; refine sT rfl ?_) | (with_reducible refine i0 ?_; refine s0 rfl ?_) | (with_reducible refine iO ?_; refine sO rfl ?_)); intro bC bR bU hC hR hU; simp only [go_sem, ↓reduceIte, f1, f12, f13, f14, hi, hr]; subst hC hR hU) | (with_reducible refine rN ?_; subst hbq) | (with_reducible refine iR ?_; refine rG (by simp only [compL, gtOf, nthDst]; exact rfl) ?_) | (with_reducible refine rB fun cq hcq => ?_; subst hcq) | (with_reducible refine x1 ?_; clear hbq bq) | (with_reducible refine r1 ?_; clear hbq bq) | (with_reducible refine x5 ?_ ?_; focus rfl) | (with_reducible refine iL ?_; refine rL (by rw [Tryz.results134]) (HLess.refl _) ?_; simp only [go_sem, ↓reduceIte, aPack, Option.some.injEq, exists_eq_left', f1, f12, f13, f14, hi, hr]) | with_reducible first | refine nS ?_ | refine nD ?_ | refine rS fun bq hbq => ?_ | refine rK ?_ | refine rE ?_ | refine rXx ?_ | refine rR ?_ | refine x2 ?_ | refine x3 ?_ | refine x4 ?_ | refine r2 ?_ | refine r3 ?_ | refine r4 ?_
          intro w hw
          try dsimp only
          repeat first | ((first | (with_reducible first | refine sS ?_ | refine sA ?_ | refine sC ?_) | (with_reducible refine iT ?_; refine sT rfl ?_) | (with_reducible refine i0 ?_; refine s0 rfl ?_) | (with_reducible refine iO ?_; refine sO rfl ?_)); intro bC bR bU hC hR hU; simp only [go_sem, ↓reduceIte, f1, f12, f13, f14]; subst hC hR hU) | (with_reducible refine rN ?_; subst hbq) | (with_reducible refine iR ?_; refine rG (by simp only [compL, gtOf, nthDst]; exact rfl) ?_) | (with_reducible refine rB fun cq hcq => ?_; subst hcq) | (with_reducible refine x1 ?_; clear hbq bq) | (with_reducible refine r1 ?_; clear hbq bq) | (with_reducible refine x5 ?_ ?_; focus rfl) | (with_reducible refine iL ?_; refine rL (by rw [Tryz.results134]) (HLess.refl _) ?_; simp only [go_sem, ↓reduceIte, aPack, Option.some.injEq, exists_eq_left', f1, f12, f13, f14]) | with_reducible first | refine nS ?_ | refine nD ?_ | refine rS fun bq hbq => ?_ | refine rK ?_ | refine rE ?_ | refine rXx ?_ | refine rR ?_ | refine x2 ?_ | refine x3 ?_ | refine x4 ?_ | refine r2 ?_ | refine r3 ?_ | refine r4 ?_
          have hlw : HLess (upd h' w (some (.cells (cellsT u) 27))) h' := HLess.one hw
          refine ih h0 hex u s' _ _ (by omega) (by omega) (R.args t i u hok hu) (R.mono _ _ _ hO2 hlw) (hlw.trans hl2) (fun h3 h4 hO4 hl4 => ?_) (fun h3 h4 hE4 hl4 => ?_)
          · rw [if_pos h3] at hix
            try dsimp only
            repeat first | ((first | (with_reducible first | refine sS ?_ | refine sA ?_ | refine sC ?_) | (with_reducible refine iT ?_; refine sT rfl ?_) | (with_reducible refine i0 ?_; refine s0 rfl ?_) | (with_reducible refine iO ?_; refine sO rfl ?_)); intro bC bR bU hC hR hU; simp only [go_sem, ↓reduceIte, f1, f12, f13, f14, wrap_in (show -9223372036854775808 ≤ (i : Int) + 1 by omega) (show (i : Int) + 1 ≤ 9223372036854775807 by omega)]; subst hC hR hU) | (with_reducible refine rN ?_; subst hbq) | (with_reducible refine iR ?_; refine rG (by simp only [compL, gtOf, nthDst]; exact rfl) ?_) | (with_reducible refine rB fun cq hcq => ?_; subst hcq) | (with_reducible refine x1 ?_; clear hbq bq) | (with_reducible refine r1 ?_; clear hbq bq) | (with_reducible refine x5 ?_ ?_; focus rfl) | (with_reducible refine iL ?_; refine rL (by rw [Tryz.results134]) (HLess.refl _) ?_; simp only [go_sem, ↓reduceIte, aPack, Option.some.injEq, exists_eq_left', f1, f12, f13, f14, wrap_in (show -9223372036854775808 ≤ (i : Int) + 1 by omega) (show (i : Int) + 1 ≤ 9223372036854775807 by omega)]) | with_reducible first | refine nS ?_ | refine nD ?_ | refine rS fun bq hbq => ?_ | refine rK ?_ | refine rE ?_ | refine rXx ?_ | refine rR ?_ | refine x2 ?_ | refine x3 ?_ | refine x4 ?_ | refine r2 ?_ | refine r3 ?_ | refine r4 ?_
            refine run_loopN (m := k - 1) (by omega) ⟨i + 1, _, by omega, hix, ?_⟩
            simp only [go_sem, ↓reduceIte, f1, f12, f13, f14]
            exact ⟨rfl, hO4, hl4⟩
          · rw [if_neg (by rw [h3]; decide)] at hix
            try dsimp only
            repeat first | ((first | (with_reducible first | refine sS ?_ | refine sA ?_ | refine sC ?_) | (with_reducible refine iT ?_; refine sT rfl ?_) | (with_reducible refine i0 ?_; refine s0 rfl ?_) | (with_reducible refine iO ?_; refine sO rfl ?_)); intro bC bR bU hC hR hU; simp only [go_sem, ↓reduceIte, f1, f12, f13, f14]; subst hC hR hU) | (with_reducible refine rN ?_; subst hbq) | (with_reducible refine iR ?_; refine rG (by simp only [compL, gtOf, nthDst]; exact rfl) ?_) | (with_reducible refine rB fun cq hcq => ?_; subst hcq) | (with_reducible refine x1 ?_; clear hbq bq) | (with_reducible refine r1 ?_; clear hbq bq) | (with_reducible refine x5 ?_ ?_; focus rfl) | (with_reducible refine iL ?_; refine rL (by rw [Tryz.results134]) (HLess.refl _) ?_; simp only [go_sem, ↓reduceIte, aPack, Option.some.injEq, exists_eq_left', f1, f12, f13, f14]) | with_reducible first | refine nS ?_ | refine nD ?_ | refine rS fun bq hbq => ?_ | refine rK ?_ | refine rE ?_ | refine rXx ?_ | refine rR ?_ | refine x2 ?_ | refine x3 ?_ | refine x4 ?_ | refine r2 ?_ | refine r3 ?_ | refine r4 ?_
            exact hn (by rw [← hix]; exact h3) _ hE4 hl4
        · rw [List.drop_eq_nil_of_le (by omega), eachL] at hix
          try dsimp only
          repeat first | ((first | (with_reducible first | refine sS ?_ | refine sA ?_ | refine sC ?_) | (with_reducible refine iT ?_; refine sT rfl ?_) | (with_reducible refine i0 ?_; refine s0 rfl ?_) | (with_reducible refine iO ?_; refine sO rfl ?_)); intro bC bR bU hC hR hU; simp only [go_sem, ↓reduceIte, f1, f12, f13, f14, hi]; subst hC hR hU) | (with_reducible refine rN ?_; subst hbq) | (with_reducible refine iR ?_; refine rG (by simp only [compL, gtOf, nthDst]; exact rfl) ?_) | (with_reducible refine rB fun cq hcq => ?_; subst hcq) | (with_reducible refine x1 ?_; clear hbq bq) | (with_reducible refine r1 ?_; clear hbq bq) | (with_reducible refine x5 ?_ ?_; focus rfl) | (with_reducible refine iL ?_; refine rL (by rw [Tryz.results134]) (HLess.refl _) ?_; simp only [go_sem, ↓reduceIte, aPack, Option.some.injEq, exists_eq_left', f1, f12, f13, f14, hi]) | with_reducible first | refine nS ?_ | refine nD ?_ | refine rS fun bq hbq => ?_ | refine rK ?_ | refine rE ?_ | refine rXx ?_ | refine rR ?_ | refine x2 ?_ | refine x3 ?_ | refine x4 ?_ | refine r2 ?_ | refine r3 ?_ | refine r4 ?_
          rw [← hix] at hq
          exact hq rfl _ hO2 hl2
    · rw [if_neg (by rw [h1]; decide)] at hn
      simp only [go_sem, ↓reduceIte]
      intro _
      refine ⟨rfl, rfl, ?_⟩
      simp only [envAt]
      try dsimp only
      repeat first | ((first | (with_reducible first | refine sS ?_ | refine sA ?_ | refine sC ?_) | (with_reducible refine iT ?_; refine sT rfl ?_) | (with_reducible refine i0 ?_; refine s0 rfl ?_) | (with_reducible refine iO ?_; refine sO rfl ?_)); intro bC bR bU hC hR hU; simp only [go_sem, ↓reduceIte]; subst hC hR hU) | (with_reducible refine rN ?_; subst hbq) | (with_reducible refine iR ?_; refine rG (by simp only [compL, gtOf, nthDst]; exact rfl) ?_) | (with_reducible refine rB fun cq hcq => ?_; subst hcq) | (with_reducible refine x1 ?_; clear hbq bq) | (with_reducible refine r1 ?_; clear hbq bq) | (with_reducible refine x5 ?_ ?_; focus rfl) | (with_reducible refine iL ?_; refine rL (by rw [Tryz.results134]) (HLess.refl _) ?_; simp only [go_sem, ↓reduceIte, aPack, Option.some.injEq, exists_eq_left']) | with_reducible first | refine nS ?_ | refine nD ?_ | refine rS fun bq hbq => ?_ | refine rK ?_ | refine rE ?_ | refine rXx ?_ | refine rR ?_ | refine x2 ?_ | refine x3 ?_ | refine x4 ?_ | refine r2 ?_ | refine r3 ?_ | refine r4 ?_
      exact hn h1 _ hE (hl'.trans hover)
theorem heads_am (t : Term) (h : AHeap) (Q : AOut → AHeap → Prop) (hq : ∀ p, h p = Option.none → Q (.ret (.func (.func 133) [] [.ptr p 0])) (upd h p (some (.cells (cellsT t) 27)))) : AmCalls Tryz.prog 93 [enc t] h Q := by
  refine AmCalls.of_sem (fn := Tryz.f93) Tryz.func93 rfl (by kernel_rfl) (by rw [Tryz.ntmps93]; simp) (enters_of Tryz.func93 (by kernel_rfl) (by kernel_rfl)) ?_
  try dsimp only
  repeat first | ((first | (with_reducible first | refine sS ?_ | refine sA ?_ | refine sC ?_) | (with_reducible refine iT ?_; refine sT rfl ?_) | (with_reducible refine i0 ?_; refine s0 rfl ?_) | (with_reducible refine iO ?_; refine sO rfl ?_)); intro bC bR bU hC hR hU; simp only [go_sem, ↓reduceIte]; subst hC hR hU) | (with_reducible refine rN ?_; subst hbq) | (with_reducible refine iR ?_; refine rG (by simp only [compL, gtOf, nthDst]; exact rfl) ?_) | (with_reducible refine rB fun cq hcq => ?_; subst hcq) | (with_reducible refine x1 ?_; clear hbq bq) | (with_reducible refine r1 ?_; clear hbq bq) | (with_reducible refine x5 ?_ ?_; focus rfl) | (with_reducible refine iL ?_; refine rL (by rw [Tryz.results93]) (HLess.refl _) ?_; simp only [go_sem, ↓reduceIte, aPack, Option.some.injEq, exists_eq_left']) | with_reducible first | refine nS ?_ | refine nD ?_ | refine rS fun bq hbq => ?_ | refine rK ?_ | refine rE ?_ | refine rXx ?_ | refine rR ?_ | refine x2 ?_ | refine x3 ?_ | refine x4 ?_ | refine r2 ?_ | refine r3 ?_ | refine r4 ?_
  intro p hp
  try dsimp only
  repeat first | ((first | (with_reducible first | refine sS ?_ | refine sA ?_ | refine sC ?_) | (with_reducible refine iT ?_; refine sT rfl ?_) | (with_reducible refine i0 ?_; refine s0 rfl ?_) | (with_reducible refine iO ?_; refine sO rfl ?_)); intro bC bR bU hC hR hU; simp only [go_sem, ↓reduceIte]; subst hC hR hU) | (with_reducible refine rN ?_; subst hbq) | (with_reducible refine iR ?_; refine rG (by simp only [compL, gtOf, nthDst]; exact rfl) ?_) | (with_reducible refine rB fun cq hcq => ?_; subst hcq) | (with_reducible refine x1 ?_; clear hbq bq) | (with_reducible refine r1 ?_; clear hbq bq) | (with_reducible refine x5 ?_ ?_; focus rfl) | (with_reducible refine iL ?_; refine rL (by rw [Tryz.results93]) (HLess.refl _) ?_; simp only [go_sem, ↓reduceIte, aPack, Option.some.injEq, exists_eq_left']) | with_reducible first | refine nS ?_ | refine nD ?_ | refine rS fun bq hbq => ?_ | refine rK ?_ | refine rE ?_ | refine rXx ?_ | refine rR ?_ | refine x2 ?_ | refine x3 ?_ | refine x4 ?_ | refine r2 ?_ | refine r3 ?_ | refine r4 ?_
  exact hq p hp
theorem heads133_am {σ : Type} {l : Nat} {ex : List Nat} {Own : σ → AHeap → Prop} {End : AHeap → Prop} {step : σ → Term → Bool × σ} {ok : Term → Prop} (R : Rounds l ex Own End step ok) (h0 : AHeap) (hex : ∀ j ∈ ex, h0 j = Option.none) (t : Term) (s : σ) (p : Nat) (h : AHeap) (Q : AOut → AHeap → Prop) (htb : t.size ≤ 1000000000) (hok : ok t) (hp : h p = some (.cells (cellsT t) 27)) (hO : Own s h) (hl : HLess h h0)
    (hq : (eachF step t s).1 = true → ∀ h2, Own (eachF step t s).2 h2 → HLess h2 h0 → Q (.ret (.tuple [])) h2) (hn : (eachF step t s).1 = false → ∀ h2, End h2 → HLess h2 h0 → Q (.ret (.tuple [])) h2) : AmCalls Tryz.prog 133 [.yield l, .ptr p 0] h Q := by
  refine AmCalls.of_sem (fn := Tryz.f133) Tryz.func133 rfl (by kernel_rfl) (by rw [Tryz.ntmps133]; simp) (enters_of Tryz.func133 (by kernel_rfl) (by kernel_rfl)) ?_
  try dsimp only
  repeat first | ((first | (with_reducible first | refine sS ?_ | refine sA ?_ | refine sC ?_) | (with_reducible refine iT ?_; refine sT rfl ?_) | (with_reducible refine i0 ?_; refine s0 rfl ?_) | (with_reducible refine iO ?_; refine sO rfl ?_)); intro bC bR bU hC hR hU; simp only [go_sem, ↓reduceIte, hp]; subst hC hR hU) | (with_reducible refine rN ?_; subst hbq) | (with_reducible refine iR ?_; refine rG (by simp only [compL, gtOf, nthDst]; exact rfl) ?_) | (with_reducible refine rB fun cq hcq => ?_; subst hcq) | (with_reducible refine x1 ?_; clear hbq bq) | (with_reducible refine r1 ?_; clear hbq bq) | (with_reducible refine x5 ?_ ?_; focus rfl) | (with_reducible refine iL ?_; refine rL (by rw [Tryz.results133]) (HLess.refl _) ?_; simp only [go_sem, ↓reduceIte, aPack, Option.some.injEq, exists_eq_left', hp]) | with_reducible first | refine nS ?_ | refine nD ?_ | refine rS fun bq hbq => ?_ | refine rK ?_ | refine rE ?_ | refine rXx ?_ | refine rR ?_ | refine x2 ?_ | refine x3 ?_ | refine x4 ?_ | refine r2 ?_ | refine r3 ?_ | refine r4 ?_
  refine eachPart_am R t.size h0 hex t s _ _ (Nat.le_refl _) htb hok hO hl (fun h1 h2 hO2 hl2 => ?_) (fun h1 h2 hE hl2 => ?_)
  · try dsimp only
    repeat first | ((first | (with_reducible first | refine sS ?_ | refine sA ?_ | refine sC ?_) | (with_reducible refine iT ?_; refine sT rfl ?_) | (with_reducible refine i0 ?_; refine s0 rfl ?_) | (with_reducible refine iO ?_; refine sO rfl ?_)); intro bC bR bU hC hR hU; simp only [go_sem, ↓reduceIte]; subst hC hR hU) | (with_reducible refine rN ?_; subst hbq) | (with_reducible refine iR ?_; refine rG (by simp only [compL, gtOf, nthDst]; exact rfl) ?_) | (with_reducible refine rB fun cq hcq => ?_; subst hcq) | (with_reducible refine x1 ?_; clear hbq bq) | (with_reducible refine r1 ?_; clear hbq bq) | (with_reducible refine x5 ?_ ?_; focus rfl) | (with_reducible refine iL ?_; refine rL (by rw [Tryz.results133]) (HLess.refl _) ?_; simp only [go_sem, ↓reduceIte, aPack, Option.some.injEq, exists_eq_left']) | with_reducible first | refine nS ?_ | refine nD ?_ | refine rS fun bq hbq => ?_ | refine rK ?_ | refine rE ?_ | refine rXx ?_ | refine rR ?_ | refine x2 ?_ | refine x3 ?_ | refine x4 ?_ | refine r2 ?_ | refine r3 ?_ | refine r4 ?_
    exact ⟨[], by rw [Tryz.results133]; rfl, _, _, WeakV.of (LeAV.refl _) (HLess.refl _), hq h1 h2 hO2 hl2⟩
  · try dsimp only
    repeat first | ((first | (with_reducible first | refine sS ?_ | refine sA ?_ | refine sC ?_) | (with_reducible refine iT ?_; refine sT rfl ?_) | (with_reducible refine i0 ?_; refine s0 rfl ?_) | (with_reducible refine iO ?_; refine sO rfl ?_)); intro bC bR bU hC hR hU; simp only [go_sem, ↓reduceIte]; subst hC hR hU) | (with_reducible refine rN ?_; subst hbq) | (with_reducible refine iR ?_; refine rG (by simp only [compL, gtOf, nthDst]; exact rfl) ?_) | (with_reducible refine rB fun cq hcq => ?_; subst hcq) | (with_reducible refine x1 ?_; clear hbq bq) | (with_reducible refine r1 ?_; clear hbq bq) | (with_reducible refine x5 ?_ ?_; focus rfl) | (with_reducible refine iL ?_; refine rL (by rw [Tryz.results133]) (HLess.refl _) ?_; simp only [go_sem, ↓reduceIte, aPack, Option.some.injEq, exists_eq_left']) | with_reducible first | refine nS ?_ | refine nD ?_ | refine rS fun bq hbq => ?_ | refine rK ?_ | refine rE ?_ | refine rXx ?_ | refine rR ?_ | refine x2 ?_ | refine x3 ?_ | refine x4 ?_ | refine r2 ?_ | refine r3 ?_ | refine r4 ?_
    exact ⟨[], by rw [Tryz.results133]; rfl, _, _, WeakV.of (LeAV.refl _) (HLess.refl _), hn h1 h2 hE hl2⟩
/- fits (the program's), over a store without variables. -/


abbrev noName : ByteArray := ⟨#[]⟩
def headTest (k n len d : Int) : Bool := if k == 1 then n == 0 else if k == 2 then !decide (n < 0) && !decide (n ≥ d) else if k == 3 then !decide (n < 0) && !decide (n ≥ 60) else if k == 5 then n == 0 && len == 1 else false
def headFits (k n : Int) (s : ByteArray) (len d : Int) : Bool := !((k == 1) == (s.toList == noName.toList)) && (!decide ((s.size : Int) > 40) && (!decide (len > 8) && headTest k n len d))
mutual
def fits0F : Term → Int → Bool
  | ⟨k, n, s, l⟩, d => headFits k n s l.length d && fits0L l (inner k d)
def fits0L : List Term → Int → Bool
  | [], _ => true
  | t :: ts, d => fits0F t d && fits0L ts d
end
theorem fits0L_any (d : Int) : ∀ l : List Term, (!l.any fun u => !fits0F u d) = fits0L l d
  | [] => rfl
  | t :: l => by rw [fits0L, ← fits0L_any d l, List.any_cons]; cases fits0F t d <;> rfl
theorem fits126 (z : Nat) (tk : Tok) (d : Int) (u : Term) (ih : ∀ (h : AHeap) (Q : AOut → AHeap → Prop), Q (.ret (.bool (fits0F u d))) h → AmCalls Tryz.prog 79 [.agg [.list z [] 0 tk], enc u, .int .i64 d] h Q) (h : AHeap) (p r : Nat) (hp : h p = some (.cells [.list z [] 0 tk] 24)) (hr : h r = some (.cells [.int .i64 d] 3)) (Q : AOut → AHeap → Prop)
    (hq : Q (.ret (.bool (!fits0F u d))) h) : AmCalls Tryz.prog 126 [enc u, .ptr p 0, .ptr r 0] h Q := by
  refine AmCalls.of_sem (fn := Tryz.f126) Tryz.func126 rfl (by kernel_rfl) (by rw [Tryz.ntmps126]; simp) (enters_of Tryz.func126 (by kernel_rfl) (by kernel_rfl)) ?_
  try dsimp only
  repeat first | ((first | (with_reducible first | refine sS ?_ | refine sA ?_ | refine sC ?_) | (with_reducible refine iT ?_; refine sT rfl ?_) | (with_reducible refine i0 ?_; refine s0 rfl ?_) | (with_reducible refine iO ?_; refine sO rfl ?_)); intro bC bR bU hC hR hU; simp only [go_sem, ↓reduceIte]; subst hC hR hU) | (with_reducible refine rN ?_; subst hbq) | (with_reducible refine iR ?_; refine rG (by simp only [compL, gtOf, nthDst]; exact rfl) ?_) | (with_reducible refine rB fun cq hcq => ?_; subst hcq) | (with_reducible refine x1 ?_; clear hbq bq) | (with_reducible refine r1 ?_; clear hbq bq) | (with_reducible refine x5 ?_ ?_; focus rfl) | (with_reducible refine iL ?_; refine rL (by rw [Tryz.results126]) (HLess.refl _) ?_; simp only [go_sem, ↓reduceIte, aPack, Option.some.injEq, exists_eq_left']) | with_reducible first | refine nS ?_ | refine nD ?_ | refine rS fun bq hbq => ?_ | refine rK ?_ | refine rE ?_ | refine rXx ?_ | refine rR ?_ | refine x2 ?_ | refine x3 ?_ | refine x4 ?_ | refine r2 ?_ | refine r3 ?_ | refine r4 ?_
  intro q hq'
  have h1 := ne_of_new hq' hp
  have h2 := ne_of_new hq' hr
  try dsimp only
  repeat first | ((first | (with_reducible first | refine sS ?_ | refine sA ?_ | refine sC ?_) | (with_reducible refine iT ?_; refine sT rfl ?_) | (with_reducible refine i0 ?_; refine s0 rfl ?_) | (with_reducible refine iO ?_; refine sO rfl ?_)); intro bC bR bU hC hR hU; simp only [go_sem, ↓reduceIte, h1, h2, hp, hr]; subst hC hR hU) | (with_reducible refine rN ?_; subst hbq) | (with_reducible refine iR ?_; refine rG (by simp only [compL, gtOf, nthDst]; exact rfl) ?_) | (with_reducible refine rB fun cq hcq => ?_; subst hcq) | (with_reducible refine x1 ?_; clear hbq bq) | (with_reducible refine r1 ?_; clear hbq bq) | (with_reducible refine x5 ?_ ?_; focus rfl) | (with_reducible refine iL ?_; refine rL (by rw [Tryz.results126]) (HLess.one hq') ?_; simp only [go_sem, ↓reduceIte, aPack, Option.some.injEq, exists_eq_left', h1, h2, hp, hr]) | with_reducible first | refine nS ?_ | refine nD ?_ | refine rS fun bq hbq => ?_ | refine rK ?_ | refine rE ?_ | refine rXx ?_ | refine rR ?_ | refine x2 ?_ | refine x3 ?_ | refine x4 ?_ | refine r2 ?_ | refine r3 ?_ | refine r4 ?_
  refine ih _ _ ?_
  try dsimp only
  repeat first | ((first | (with_reducible first | refine sS ?_ | refine sA ?_ | refine sC ?_) | (with_reducible refine iT ?_; refine sT rfl ?_) | (with_reducible refine i0 ?_; refine s0 rfl ?_) | (with_reducible refine iO ?_; refine sO rfl ?_)); intro bC bR bU hC hR hU; simp only [go_sem, ↓reduceIte, h1, h2, hp, hr]; subst hC hR hU) | (with_reducible refine rN ?_; subst hbq) | (with_reducible refine iR ?_; refine rG (by simp only [compL, gtOf, nthDst]; exact rfl) ?_) | (with_reducible refine rB fun cq hcq => ?_; subst hcq) | (with_reducible refine x1 ?_; clear hbq bq) | (with_reducible refine r1 ?_; clear hbq bq) | (with_reducible refine x5 ?_ ?_; focus rfl) | (with_reducible refine iL ?_; refine rL (by rw [Tryz.results126]) (HLess.one hq') ?_; simp only [go_sem, ↓reduceIte, aPack, Option.some.injEq, exists_eq_left', h1, h2, hp, hr]) | with_reducible first | refine nS ?_ | refine nD ?_ | refine rS fun bq hbq => ?_ | refine rK ?_ | refine rE ?_ | refine rXx ?_ | refine rR ?_ | refine x2 ?_ | refine x3 ?_ | refine x4 ?_ | refine r2 ?_ | refine r3 ?_ | refine r4 ?_
  exact hq
theorem fits0_am (z : Nat) (tk : Tok) : ∀ (s : Nat) (t : Term) (d : Int) (h : AHeap) (Q : AOut → AHeap → Prop), t.size ≤ s → 0 ≤ d → d + t.size ≤ 1000000000 → Q (.ret (.bool (fits0F t d))) h → AmCalls Tryz.prog 79 [.agg [.list z [] 0 tk], enc t, .int .i64 d] h Q := by
  intro s
  induction s with
  | zero => intro t d h Q ht; obtain ⟨a, b, c, l⟩ := t; rw [Term.size] at ht; omega
  | succ s ih =>
    intro t d h Q ht hd0 hd1 hq
    have hF : fits0F t d = (headFits t.kind t.n t.name t.args.length d && fits0L t.args (inner t.kind d)) := by obtain ⟨a, b, c, l⟩ := t; rw [fits0F]
    rw [hF] at hq
    have hlen := length_args t
    refine AmCalls.of_sem (fn := Tryz.f79) Tryz.func79 rfl (by kernel_rfl) (by rw [Tryz.ntmps79]; simp) (enters_of Tryz.func79 (by kernel_rfl) (by kernel_rfl)) ?_
    try dsimp only
    repeat first | ((first | (with_reducible first | refine sS ?_ | refine sA ?_ | refine sC ?_) | (with_reducible refine iT ?_; refine sT rfl ?_) | (with_reducible refine i0 ?_; refine s0 rfl ?_) | (with_reducible refine iO ?_; refine sO rfl ?_)); intro bC bR bU hC hR hU; simp only [go_sem, ↓reduceIte]; subst hC hR hU) | (with_reducible refine rN ?_; subst hbq) | (with_reducible refine iR ?_; refine rG (by simp only [compL, gtOf, nthDst]; exact rfl) ?_) | (with_reducible refine rB fun cq hcq => ?_; subst hcq) | (with_reducible refine x1 ?_; clear hbq bq) | (with_reducible refine r1 ?_; clear hbq bq) | (with_reducible refine x5 ?_ ?_; focus rfl) | (with_reducible refine iL ?_; refine rL (by rw [Tryz.results79]) (HLess.refl _) ?_; simp only [go_sem, ↓reduceIte, aPack, Option.some.injEq, exists_eq_left']) | with_reducible first | refine nS ?_ | refine nD ?_ | refine rS fun bq hbq => ?_ | refine rK ?_ | refine rE ?_ | refine rXx ?_ | refine rR ?_ | refine x2 ?_ | refine x3 ?_ | refine x4 ?_ | refine r2 ?_ | refine r3 ?_ | refine r4 ?_
    intro a ha
    try dsimp only
    repeat first | ((first | (with_reducible first | refine sS ?_ | refine sA ?_ | refine sC ?_) | (with_reducible refine iT ?_; refine sT rfl ?_) | (with_reducible refine i0 ?_; refine s0 rfl ?_) | (with_reducible refine iO ?_; refine sO rfl ?_)); intro bC bR bU hC hR hU; simp only [go_sem, ↓reduceIte]; subst hC hR hU) | (with_reducible refine rN ?_; subst hbq) | (with_reducible refine iR ?_; refine rG (by simp only [compL, gtOf, nthDst]; exact rfl) ?_) | (with_reducible refine rB fun cq hcq => ?_; subst hcq) | (with_reducible refine x1 ?_; clear hbq bq) | (with_reducible refine r1 ?_; clear hbq bq) | (with_reducible refine x5 ?_ ?_; focus rfl) | (with_reducible refine iL ?_; refine rL (by rw [Tryz.results79]) (HLess.refl _) ?_; simp only [go_sem, ↓reduceIte, aPack, Option.some.injEq, exists_eq_left']) | with_reducible first | refine nS ?_ | refine nD ?_ | refine rS fun bq hbq => ?_ | refine rK ?_ | refine rE ?_ | refine rXx ?_ | refine rR ?_ | refine x2 ?_ | refine x3 ?_ | refine x4 ?_ | refine r2 ?_ | refine r3 ?_ | refine r4 ?_
    intro b hb
    try dsimp only
    repeat first | ((first | (with_reducible first | refine sS ?_ | refine sA ?_ | refine sC ?_) | (with_reducible refine iT ?_; refine sT rfl ?_) | (with_reducible refine i0 ?_; refine s0 rfl ?_) | (with_reducible refine iO ?_; refine sO rfl ?_)); intro bC bR bU hC hR hU; simp only [go_sem, ↓reduceIte]; subst hC hR hU) | (with_reducible refine rN ?_; subst hbq) | (with_reducible refine iR ?_; refine rG (by simp only [compL, gtOf, nthDst]; exact rfl) ?_) | (with_reducible refine rB fun cq hcq => ?_; subst hcq) | (with_reducible refine x1 ?_; clear hbq bq) | (with_reducible refine r1 ?_; clear hbq bq) | (with_reducible refine x5 ?_ ?_; focus rfl) | (with_reducible refine iL ?_; refine rL (by rw [Tryz.results79]) (HLess.refl _) ?_; simp only [go_sem, ↓reduceIte, aPack, Option.some.injEq, exists_eq_left']) | with_reducible first | refine nS ?_ | refine nD ?_ | refine rS fun bq hbq => ?_ | refine rK ?_ | refine rE ?_ | refine rXx ?_ | refine rR ?_ | refine x2 ?_ | refine x3 ?_ | refine x4 ?_ | refine r2 ?_ | refine r3 ?_ | refine r4 ?_
    intro c hc
    have e1 := fresh_if hb
    have e2 := fresh_if hc
    have e3 := fresh_if e2.2
    have fin : HLess (upd (upd (upd h a (some (.cells [.list z [] 0 tk] 24))) b (some (.cells (cellsT t) 27))) c (some (.cells [.int .i64 d] 3))) h := ((HLess.refl h).new ha |>.new e1.2 |>.new e3.2)
    cases c1 : ((t.kind == 1) == (t.name.toList == noName.toList))
    case true =>
      try dsimp only
      repeat first | ((first | (with_reducible first | refine sS ?_ | refine sA ?_ | refine sC ?_) | (with_reducible refine iT ?_; refine sT rfl ?_) | (with_reducible refine i0 ?_; refine s0 rfl ?_) | (with_reducible refine iO ?_; refine sO rfl ?_)); intro bC bR bU hC hR hU; simp only [go_sem, ↓reduceIte, e1.1, e1.1.symm, e2.1, e2.1.symm, e3.1, e3.1.symm, c1]; subst hC hR hU) | (with_reducible refine rN ?_; subst hbq) | (with_reducible refine iR ?_; refine rG (by simp only [compL, gtOf, nthDst]; exact rfl) ?_) | (with_reducible refine rB fun cq hcq => ?_; subst hcq) | (with_reducible refine x1 ?_; clear hbq bq) | (with_reducible refine r1 ?_; clear hbq bq) | (with_reducible refine x5 ?_ ?_; focus rfl) | (with_reducible refine iL ?_; refine rL (by rw [Tryz.results79]) fin ?_; simp only [go_sem, ↓reduceIte, aPack, Option.some.injEq, exists_eq_left', e1.1, e1.1.symm, e2.1, e2.1.symm, e3.1, e3.1.symm, c1]) | with_reducible first | refine nS ?_ | refine nD ?_ | refine rS fun bq hbq => ?_ | refine rK ?_ | refine rE ?_ | refine rXx ?_ | refine rR ?_ | refine x2 ?_ | refine x3 ?_ | refine x4 ?_ | refine r2 ?_ | refine r3 ?_ | refine r4 ?_
      exact ret_as (by simp only [headFits, c1]; rfl) hq
    cases c2 : decide ((t.name.size : Int) > 40)
    case true =>
      try dsimp only
      repeat first | ((first | (with_reducible first | refine sS ?_ | refine sA ?_ | refine sC ?_) | (with_reducible refine iT ?_; refine sT rfl ?_) | (with_reducible refine i0 ?_; refine s0 rfl ?_) | (with_reducible refine iO ?_; refine sO rfl ?_)); intro bC bR bU hC hR hU; simp only [go_sem, ↓reduceIte, e1.1, e1.1.symm, e2.1, e2.1.symm, e3.1, e3.1.symm, c1, c2]; subst hC hR hU) | (with_reducible refine rN ?_; subst hbq) | (with_reducible refine iR ?_; refine rG (by simp only [compL, gtOf, nthDst]; exact rfl) ?_) | (with_reducible refine rB fun cq hcq => ?_; subst hcq) | (with_reducible refine x1 ?_; clear hbq bq) | (with_reducible refine r1 ?_; clear hbq bq) | (with_reducible refine x5 ?_ ?_; focus rfl) | (with_reducible refine iL ?_; refine rL (by rw [Tryz.results79]) fin ?_; simp only [go_sem, ↓reduceIte, aPack, Option.some.injEq, exists_eq_left', e1.1, e1.1.symm, e2.1, e2.1.symm, e3.1, e3.1.symm, c1, c2]) | with_reducible first | refine nS ?_ | refine nD ?_ | refine rS fun bq hbq => ?_ | refine rK ?_ | refine rE ?_ | refine rXx ?_ | refine rR ?_ | refine x2 ?_ | refine x3 ?_ | refine x4 ?_ | refine r2 ?_ | refine r3 ?_ | refine r4 ?_
      exact ret_as (by simp only [headFits, c1, c2]; rfl) hq
    cases c3 : decide ((t.args.length : Int) > 8)
    case true =>
      try dsimp only
      repeat first | ((first | (with_reducible first | refine sS ?_ | refine sA ?_ | refine sC ?_) | (with_reducible refine iT ?_; refine sT rfl ?_) | (with_reducible refine i0 ?_; refine s0 rfl ?_) | (with_reducible refine iO ?_; refine sO rfl ?_)); intro bC bR bU hC hR hU; simp only [go_sem, ↓reduceIte, e1.1, e1.1.symm, e2.1, e2.1.symm, e3.1, e3.1.symm, c1, c2, c3]; subst hC hR hU) | (with_reducible refine rN ?_; subst hbq) | (with_reducible refine iR ?_; refine rG (by simp only [compL, gtOf, nthDst]; exact rfl) ?_) | (with_reducible refine rB fun cq hcq => ?_; subst hcq) | (with_reducible refine x1 ?_; clear hbq bq) | (with_reducible refine r1 ?_; clear hbq bq) | (with_reducible refine x5 ?_ ?_; focus rfl) | (with_reducible refine iL ?_; refine rL (by rw [Tryz.results79]) fin ?_; simp only [go_sem, ↓reduceIte, aPack, Option.some.injEq, exists_eq_left', e1.1, e1.1.symm, e2.1, e2.1.symm, e3.1, e3.1.symm, c1, c2, c3]) | with_reducible first | refine nS ?_ | refine nD ?_ | refine rS fun bq hbq => ?_ | refine rK ?_ | refine rE ?_ | refine rXx ?_ | refine rR ?_ | refine x2 ?_ | refine x3 ?_ | refine x4 ?_ | refine r2 ?_ | refine r3 ?_ | refine r4 ?_
      exact ret_as (by simp only [headFits, c1, c2, c3]; rfl) hq
    have hH : headFits t.kind t.n t.name t.args.length d = headTest t.kind t.n t.args.length d := by simp only [headFits, c1, c2, c3, Bool.not_false, Bool.true_and]
    rw [hH] at hq
    try dsimp only
    repeat first | ((first | (with_reducible first | refine sS ?_ | refine sA ?_ | refine sC ?_) | (with_reducible refine iT ?_; refine sT rfl ?_) | (with_reducible refine i0 ?_; refine s0 rfl ?_) | (with_reducible refine iO ?_; refine sO rfl ?_)); intro bC bR bU hC hR hU; simp only [go_sem, ↓reduceIte, e1.1, e1.1.symm, e2.1, e2.1.symm, e3.1, e3.1.symm, c1, c2, c3]; subst hC hR hU) | (with_reducible refine rN ?_; subst hbq) | (with_reducible refine iR ?_; refine rG (by simp only [compL, gtOf, nthDst]; exact rfl) ?_) | (with_reducible refine x1 ?_; clear hbq bq) | (with_reducible refine r1 ?_; clear hbq bq) | (with_reducible refine x5 ?_ ?_; focus rfl) | (with_reducible refine iL ?_; refine rL (by rw [Tryz.results79]) fin ?_; simp only [go_sem, ↓reduceIte, aPack, Option.some.injEq, exists_eq_left', e1.1, e1.1.symm, e2.1, e2.1.symm, e3.1, e3.1.symm, c1, c2, c3]) | with_reducible first | refine nS ?_ | refine nD ?_ | refine rS fun bq hbq => ?_ | refine rK ?_ | refine rE ?_ | refine rXx ?_ | refine rR ?_ | refine x2 ?_ | refine x3 ?_ | refine x4 ?_ | refine r2 ?_ | refine r3 ?_ | refine r4 ?_
    refine run_cutS (fun τ h' => τ 3 = .ptr a 0 ∧ τ 4 = .ptr b 0 ∧ τ 5 = .ptr c 0 ∧ h' = upd (upd (upd h a (some (.cells [.list z [] 0 tk] 24))) b (some (.cells (cellsT t) 27))) c (some (.cells [.int .i64 d] 3)) ∧ headTest t.kind t.n t.args.length d = true ∧ inner t.kind d = d) ?_ fun τ h' hI => ?_
    · cases k1 : (t.kind == 1)
      case true =>
        have k5 : (t.kind == 5) = false := by simp only [beq_iff_eq] at k1; rw [k1]; rfl
        have hi : inner t.kind d = d := by simp only [inner, k5]; rfl
        cases n0 : (t.n == 0)
        · try dsimp only
          repeat first | ((first | (with_reducible first | refine sS ?_ | refine sA ?_ | refine sC ?_) | (with_reducible refine iT ?_; refine sT rfl ?_) | (with_reducible refine i0 ?_; refine s0 rfl ?_) | (with_reducible refine iO ?_; refine sO rfl ?_)); intro bC bR bU hC hR hU; simp only [go_sem, ↓reduceIte, e1.1, e1.1.symm, e2.1, e2.1.symm, e3.1, e3.1.symm, c1, c2, c3, k1, n0]; subst hC hR hU) | (with_reducible refine rN ?_; subst hbq) | (with_reducible refine iR ?_; refine rG (by simp only [compL, gtOf, nthDst]; exact rfl) ?_) | (with_reducible refine rB fun cq hcq => ?_; subst hcq) | (with_reducible refine x1 ?_; clear hbq bq) | (with_reducible refine r1 ?_; clear hbq bq) | (with_reducible refine x5 ?_ ?_; focus rfl) | (with_reducible refine iL ?_; refine rL (by rw [Tryz.results79]) fin ?_; simp only [go_sem, ↓reduceIte, aPack, Option.some.injEq, exists_eq_left', e1.1, e1.1.symm, e2.1, e2.1.symm, e3.1, e3.1.symm, c1, c2, c3, k1, n0]) | with_reducible first | refine nS ?_ | refine nD ?_ | refine rS fun bq hbq => ?_ | refine rK ?_ | refine rE ?_ | refine rXx ?_ | refine rR ?_ | refine x2 ?_ | refine x3 ?_ | refine x4 ?_ | refine r2 ?_ | refine r3 ?_ | refine r4 ?_
          exact ret_as (by simp only [headTest, k1, n0]; rfl) hq
        · try dsimp only
          repeat first | ((first | (with_reducible first | refine sS ?_ | refine sA ?_ | refine sC ?_) | (with_reducible refine iT ?_; refine sT rfl ?_) | (with_reducible refine i0 ?_; refine s0 rfl ?_) | (with_reducible refine iO ?_; refine sO rfl ?_)); intro bC bR bU hC hR hU; simp only [go_sem, ↓reduceIte, e1.1, e1.1.symm, e2.1, e2.1.symm, e3.1, e3.1.symm, c1, c2, c3, k1, n0]; subst hC hR hU) | (with_reducible refine rN ?_; subst hbq) | (with_reducible refine iR ?_; refine rG (by simp only [compL, gtOf, nthDst]; exact rfl) ?_) | (with_reducible refine rB fun cq hcq => ?_; subst hcq) | (with_reducible refine x1 ?_; clear hbq bq) | (with_reducible refine r1 ?_; clear hbq bq) | (with_reducible refine x5 ?_ ?_; focus rfl) | (with_reducible refine iL ?_; refine rL (by rw [Tryz.results79]) fin ?_; simp only [go_sem, ↓reduceIte, aPack, Option.some.injEq, exists_eq_left', e1.1, e1.1.symm, e2.1, e2.1.symm, e3.1, e3.1.symm, c1, c2, c3, k1, n0]) | with_reducible first | refine nS ?_ | refine nD ?_ | refine rS fun bq hbq => ?_ | refine rK ?_ | refine rE ?_ | refine rXx ?_ | refine rR ?_ | refine x2 ?_ | refine x3 ?_ | refine x4 ?_ | refine r2 ?_ | refine r3 ?_ | refine r4 ?_
          refine run_endcut ?_
          simp only [go_sem, ↓reduceIte, headTest, k1, n0, hi]
      cases k2 : (t.kind == 2)
      case true =>
        have k5 : (t.kind == 5) = false := by simp only [beq_iff_eq] at k2; rw [k2]; rfl
        have hi : inner t.kind d = d := by simp only [inner, k5]; rfl
        cases n0 : decide (t.n < 0)
        case true =>
          try dsimp only
          repeat first | ((first | (with_reducible first | refine sS ?_ | refine sA ?_ | refine sC ?_) | (with_reducible refine iT ?_; refine sT rfl ?_) | (with_reducible refine i0 ?_; refine s0 rfl ?_) | (with_reducible refine iO ?_; refine sO rfl ?_)); intro bC bR bU hC hR hU; simp only [go_sem, ↓reduceIte, e1.1, e1.1.symm, e2.1, e2.1.symm, e3.1, e3.1.symm, c1, c2, c3, k1, k2, n0]; subst hC hR hU) | (with_reducible refine rN ?_; subst hbq) | (with_reducible refine iR ?_; refine rG (by simp only [compL, gtOf, nthDst]; exact rfl) ?_) | (with_reducible refine rB fun cq hcq => ?_; subst hcq) | (with_reducible refine x1 ?_; clear hbq bq) | (with_reducible refine r1 ?_; clear hbq bq) | (with_reducible refine x5 ?_ ?_; focus rfl) | (with_reducible refine iL ?_; refine rL (by rw [Tryz.results79]) fin ?_; simp only [go_sem, ↓reduceIte, aPack, Option.some.injEq, exists_eq_left', e1.1, e1.1.symm, e2.1, e2.1.symm, e3.1, e3.1.symm, c1, c2, c3, k1, k2, n0]) | with_reducible first | refine nS ?_ | refine nD ?_ | refine rS fun bq hbq => ?_ | refine rK ?_ | refine rE ?_ | refine rXx ?_ | refine rR ?_ | refine x2 ?_ | refine x3 ?_ | refine x4 ?_ | refine r2 ?_ | refine r3 ?_ | refine r4 ?_
          exact ret_as (by simp only [headTest, k1, k2, n0]; rfl) hq
        cases n1 : decide (t.n ≥ d)
        case true =>
          try dsimp only
          repeat first | ((first | (with_reducible first | refine sS ?_ | refine sA ?_ | refine sC ?_) | (with_reducible refine iT ?_; refine sT rfl ?_) | (with_reducible refine i0 ?_; refine s0 rfl ?_) | (with_reducible refine iO ?_; refine sO rfl ?_)); intro bC bR bU hC hR hU; simp only [go_sem, ↓reduceIte, e1.1, e1.1.symm, e2.1, e2.1.symm, e3.1, e3.1.symm, c1, c2, c3, k1, k2, n0, n1]; subst hC hR hU) | (with_reducible refine rN ?_; subst hbq) | (with_reducible refine iR ?_; refine rG (by simp only [compL, gtOf, nthDst]; exact rfl) ?_) | (with_reducible refine rB fun cq hcq => ?_; subst hcq) | (with_reducible refine x1 ?_; clear hbq bq) | (with_reducible refine r1 ?_; clear hbq bq) | (with_reducible refine x5 ?_ ?_; focus rfl) | (with_reducible refine iL ?_; refine rL (by rw [Tryz.results79]) fin ?_; simp only [go_sem, ↓reduceIte, aPack, Option.some.injEq, exists_eq_left', e1.1, e1.1.symm, e2.1, e2.1.symm, e3.1, e3.1.symm, c1, c2, c3, k1, k2, n0, n1]) | with_reducible first | refine nS ?_ | refine nD ?_ | refine rS fun bq hbq => ?_ | refine rK ?_ | refine rE ?_ | refine rXx ?_ | refine rR ?_ | refine x2 ?_ | refine x3 ?_ | refine x4 ?_ | refine r2 ?_ | refine r3 ?_ | refine r4 ?_
          exact ret_as (by simp only [headTest, k1, k2, n0, n1]; rfl) hq
        try dsimp only
        repeat first | ((first | (with_reducible first | refine sS ?_ | refine sA ?_ | refine sC ?_) | (with_reducible refine iT ?_; refine sT rfl ?_) | (with_reducible refine i0 ?_; refine s0 rfl ?_) | (with_reducible refine iO ?_; refine sO rfl ?_)); intro bC bR bU hC hR hU; simp only [go_sem, ↓reduceIte, e1.1, e1.1.symm, e2.1, e2.1.symm, e3.1, e3.1.symm, c1, c2, c3, k1, k2, n0, n1]; subst hC hR hU) | (with_reducible refine rN ?_; subst hbq) | (with_reducible refine iR ?_; refine rG (by simp only [compL, gtOf, nthDst]; exact rfl) ?_) | (with_reducible refine rB fun cq hcq => ?_; subst hcq) | (with_reducible refine x1 ?_; clear hbq bq) | (with_reducible refine r1 ?_; clear hbq bq) | (with_reducible refine x5 ?_ ?_; focus rfl) | (with_reducible refine iL ?_; refine rL (by rw [Tryz.results79]) fin ?_; simp only [go_sem, ↓reduceIte, aPack, Option.some.injEq, exists_eq_left', e1.1, e1.1.symm, e2.1, e2.1.symm, e3.1, e3.1.symm, c1, c2, c3, k1, k2, n0, n1]) | with_reducible first | refine nS ?_ | refine nD ?_ | refine rS fun bq hbq => ?_ | refine rK ?_ | refine rE ?_ | refine rXx ?_ | refine rR ?_ | refine x2 ?_ | refine x3 ?_ | refine x4 ?_ | refine r2 ?_ | refine r3 ?_ | refine r4 ?_
        refine run_endcut ?_
        simp only [go_sem, ↓reduceIte, headTest, k1, k2, n0, n1, hi]
      cases k3 : (t.kind == 3)
      case true =>
        have k5 : (t.kind == 5) = false := by simp only [beq_iff_eq] at k3; rw [k3]; rfl
        have hi : inner t.kind d = d := by simp only [inner, k5]; rfl
        cases n0 : decide (t.n < 0)
        case true =>
          try dsimp only
          repeat first | ((first | (with_reducible first | refine sS ?_ | refine sA ?_ | refine sC ?_) | (with_reducible refine iT ?_; refine sT rfl ?_) | (with_reducible refine i0 ?_; refine s0 rfl ?_) | (with_reducible refine iO ?_; refine sO rfl ?_)); intro bC bR bU hC hR hU; simp only [go_sem, ↓reduceIte, e1.1, e1.1.symm, e2.1, e2.1.symm, e3.1, e3.1.symm, c1, c2, c3, k1, k2, k3, n0]; subst hC hR hU) | (with_reducible refine rN ?_; subst hbq) | (with_reducible refine iR ?_; refine rG (by simp only [compL, gtOf, nthDst]; exact rfl) ?_) | (with_reducible refine rB fun cq hcq => ?_; subst hcq) | (with_reducible refine x1 ?_; clear hbq bq) | (with_reducible refine r1 ?_; clear hbq bq) | (with_reducible refine x5 ?_ ?_; focus rfl) | (with_reducible refine iL ?_; refine rL (by rw [Tryz.results79]) fin ?_; simp only [go_sem, ↓reduceIte, aPack, Option.some.injEq, exists_eq_left', e1.1, e1.1.symm, e2.1, e2.1.symm, e3.1, e3.1.symm, c1, c2, c3, k1, k2, k3, n0]) | with_reducible first | refine nS ?_ | refine nD ?_ | refine rS fun bq hbq => ?_ | refine rK ?_ | refine rE ?_ | refine rXx ?_ | refine rR ?_ | refine x2 ?_ | refine x3 ?_ | refine x4 ?_ | refine r2 ?_ | refine r3 ?_ | refine r4 ?_
          exact ret_as (by simp only [headTest, k1, k2, k3, n0]; rfl) hq
        cases n1 : decide (t.n ≥ 60)
        case true =>
          try dsimp only
          repeat first | ((first | (with_reducible first | refine sS ?_ | refine sA ?_ | refine sC ?_) | (with_reducible refine iT ?_; refine sT rfl ?_) | (with_reducible refine i0 ?_; refine s0 rfl ?_) | (with_reducible refine iO ?_; refine sO rfl ?_)); intro bC bR bU hC hR hU; simp only [go_sem, ↓reduceIte, e1.1, e1.1.symm, e2.1, e2.1.symm, e3.1, e3.1.symm, c1, c2, c3, k1, k2, k3, n0, n1]; subst hC hR hU) | (with_reducible refine rN ?_; subst hbq) | (with_reducible refine iR ?_; refine rG (by simp only [compL, gtOf, nthDst]; exact rfl) ?_) | (with_reducible refine rB fun cq hcq => ?_; subst hcq) | (with_reducible refine x1 ?_; clear hbq bq) | (with_reducible refine r1 ?_; clear hbq bq) | (with_reducible refine x5 ?_ ?_; focus rfl) | (with_reducible refine iL ?_; refine rL (by rw [Tryz.results79]) fin ?_; simp only [go_sem, ↓reduceIte, aPack, Option.some.injEq, exists_eq_left', e1.1, e1.1.symm, e2.1, e2.1.symm, e3.1, e3.1.symm, c1, c2, c3, k1, k2, k3, n0, n1]) | with_reducible first | refine nS ?_ | refine nD ?_ | refine rS fun bq hbq => ?_ | refine rK ?_ | refine rE ?_ | refine rXx ?_ | refine rR ?_ | refine x2 ?_ | refine x3 ?_ | refine x4 ?_ | refine r2 ?_ | refine r3 ?_ | refine r4 ?_
          exact ret_as (by simp only [headTest, k1, k2, k3, n0, n1]; rfl) hq
        try dsimp only
        repeat first | ((first | (with_reducible first | refine sS ?_ | refine sA ?_ | refine sC ?_) | (with_reducible refine iT ?_; refine sT rfl ?_) | (with_reducible refine i0 ?_; refine s0 rfl ?_) | (with_reducible refine iO ?_; refine sO rfl ?_)); intro bC bR bU hC hR hU; simp only [go_sem, ↓reduceIte, e1.1, e1.1.symm, e2.1, e2.1.symm, e3.1, e3.1.symm, c1, c2, c3, k1, k2, k3, n0, n1]; subst hC hR hU) | (with_reducible refine rN ?_; subst hbq) | (with_reducible refine iR ?_; refine rG (by simp only [compL, gtOf, nthDst]; exact rfl) ?_) | (with_reducible refine rB fun cq hcq => ?_; subst hcq) | (with_reducible refine x1 ?_; clear hbq bq) | (with_reducible refine r1 ?_; clear hbq bq) | (with_reducible refine x5 ?_ ?_; focus rfl) | (with_reducible refine iL ?_; refine rL (by rw [Tryz.results79]) fin ?_; simp only [go_sem, ↓reduceIte, aPack, Option.some.injEq, exists_eq_left', e1.1, e1.1.symm, e2.1, e2.1.symm, e3.1, e3.1.symm, c1, c2, c3, k1, k2, k3, n0, n1]) | with_reducible first | refine nS ?_ | refine nD ?_ | refine rS fun bq hbq => ?_ | refine rK ?_ | refine rE ?_ | refine rXx ?_ | refine rR ?_ | refine x2 ?_ | refine x3 ?_ | refine x4 ?_ | refine r2 ?_ | refine r3 ?_ | refine r4 ?_
        refine run_endcut ?_
        simp only [go_sem, ↓reduceIte, headTest, k1, k2, k3, n0, n1, hi]
      cases k5 : (t.kind == 5)
      case true =>
        have hi : inner t.kind d = d + 1 := by simp only [inner, k5]; rfl
        try dsimp only
        repeat first | ((first | (with_reducible first | refine sS ?_ | refine sA ?_ | refine sC ?_) | (with_reducible refine iT ?_; refine sT rfl ?_) | (with_reducible refine i0 ?_; refine s0 rfl ?_) | (with_reducible refine iO ?_; refine sO rfl ?_)); intro bC bR bU hC hR hU; simp only [go_sem, ↓reduceIte, e1.1, e1.1.symm, e2.1, e2.1.symm, e3.1, e3.1.symm, c1, c2, c3, k1, k2, k3, k5]; subst hC hR hU) | (with_reducible refine rN ?_; subst hbq) | (with_reducible refine iR ?_; refine rG (by simp only [compL, gtOf, nthDst]; exact rfl) ?_) | (with_reducible refine rB fun cq hcq => ?_; subst hcq) | (with_reducible refine x1 ?_; clear hbq bq) | (with_reducible refine r1 ?_; clear hbq bq) | (with_reducible refine x5 ?_ ?_; focus rfl) | (with_reducible refine iL ?_; refine rL (by rw [Tryz.results79]) fin ?_; simp only [go_sem, ↓reduceIte, aPack, Option.some.injEq, exists_eq_left', e1.1, e1.1.symm, e2.1, e2.1.symm, e3.1, e3.1.symm, c1, c2, c3, k1, k2, k3, k5]) | with_reducible first | refine nS ?_ | refine nD ?_ | refine rS fun bq hbq => ?_ | refine rK ?_ | refine rE ?_ | refine rXx ?_ | refine rR ?_ | refine x2 ?_ | refine x3 ?_ | refine x4 ?_ | refine r2 ?_ | refine r3 ?_ | refine r4 ?_
        repeat with_reducible refine run_seq fun bq hbq => ?_
        refine run_draw (.take 0 (.take 1 (.take 2 (.take 3 (.take 4 (.take 5 (.take 6 (.take 7 (.take 8 (.take 9 (.take 10 (.take 11 (.take 12 (.take 13 (.take 14 (.take 15 (.take 16 (.one 17 [15, 12, 5, 1] (.take 18 (.take 19 (.done))))))))))))))))))))) (by kernel_rfl) (by simp only [compL, gtOf, nthDst]; exact rfl) ?_
        cases n0 : (t.n == 0)
        · try dsimp only
          repeat first | ((first | (with_reducible first | refine sS ?_ | refine sA ?_ | refine sC ?_) | (with_reducible refine iT ?_; refine sT rfl ?_) | (with_reducible refine i0 ?_; refine s0 rfl ?_) | (with_reducible refine iO ?_; refine sO rfl ?_)); intro bC bR bU hC hR hU; simp only [go_sem, ↓reduceIte, e1.1, e1.1.symm, e2.1, e2.1.symm, e3.1, e3.1.symm, c1, c2, c3, n0]; subst hC hR hU) | (with_reducible refine rN ?_; subst hbq) | (with_reducible refine iR ?_; refine rG (by simp only [compL, gtOf, nthDst]; exact rfl) ?_) | (with_reducible refine rB fun cq hcq => ?_; subst hcq) | (with_reducible refine x1 ?_; clear hbq bq) | (with_reducible refine r1 ?_; clear hbq bq) | (with_reducible refine x5 ?_ ?_; focus rfl) | (with_reducible refine iL ?_; refine rL (by rw [Tryz.results79]) fin ?_; simp only [go_sem, ↓reduceIte, aPack, Option.some.injEq, exists_eq_left', e1.1, e1.1.symm, e2.1, e2.1.symm, e3.1, e3.1.symm, c1, c2, c3, n0]) | with_reducible first | refine nS ?_ | refine nD ?_ | refine rS fun bq hbq => ?_ | refine rK ?_ | refine rE ?_ | refine rXx ?_ | refine rR ?_ | refine x2 ?_ | refine x3 ?_ | refine x4 ?_ | refine r2 ?_ | refine r3 ?_ | refine r4 ?_
          exact ret_as (by simp only [headTest, k1, k2, k3, k5, n0]; rfl) hq
        cases l1 : ((t.args.length : Int) == 1)
        · try dsimp only
          repeat first | ((first | (with_reducible first | refine sS ?_ | refine sA ?_ | refine sC ?_) | (with_reducible refine iT ?_; refine sT rfl ?_) | (with_reducible refine i0 ?_; refine s0 rfl ?_) | (with_reducible refine iO ?_; refine sO rfl ?_)); intro bC bR bU hC hR hU; simp only [go_sem, ↓reduceIte, e1.1, e1.1.symm, e2.1, e2.1.symm, e3.1, e3.1.symm, c1, c2, c3, n0, l1]; subst hC hR hU) | (with_reducible refine rN ?_; subst hbq) | (with_reducible refine iR ?_; refine rG (by simp only [compL, gtOf, nthDst]; exact rfl) ?_) | (with_reducible refine rB fun cq hcq => ?_; subst hcq) | (with_reducible refine x1 ?_; clear hbq bq) | (with_reducible refine r1 ?_; clear hbq bq) | (with_reducible refine x5 ?_ ?_; focus rfl) | (with_reducible refine iL ?_; refine rL (by rw [Tryz.results79]) fin ?_; simp only [go_sem, ↓reduceIte, aPack, Option.some.injEq, exists_eq_left', e1.1, e1.1.symm, e2.1, e2.1.symm, e3.1, e3.1.symm, c1, c2, c3, n0, l1]) | with_reducible first | refine nS ?_ | refine nD ?_ | refine rS fun bq hbq => ?_ | refine rK ?_ | refine rE ?_ | refine rXx ?_ | refine rR ?_ | refine x2 ?_ | refine x3 ?_ | refine x4 ?_ | refine r2 ?_ | refine r3 ?_ | refine r4 ?_
          exact ret_as (by simp only [headTest, k1, k2, k3, k5, n0, l1]; rfl) hq
        obtain ⟨u, hu⟩ : ∃ u, t.args = [u] := List.length_eq_one_iff.1 (by simp only [beq_iff_eq] at l1; omega)
        have hus := size_arg t 0 (t := u) (by rw [hu]; rfl)
        have hT : headTest t.kind t.n t.args.length d = true := by simp only [headTest, k1, k2, k3, k5, n0, l1]; rfl
        rw [hT, hi, hu, fits0L, fits0L, Bool.and_true, Bool.true_and] at hq
        try dsimp only
        repeat first | ((first | (with_reducible first | refine sS ?_ | refine sA ?_ | refine sC ?_) | (with_reducible refine iT ?_; refine sT rfl ?_) | (with_reducible refine i0 ?_; refine s0 rfl ?_) | (with_reducible refine iO ?_; refine sO rfl ?_)); intro bC bR bU hC hR hU; simp only [go_sem, ↓reduceIte, e1.1, e1.1.symm, e2.1, e2.1.symm, e3.1, e3.1.symm, n0, hu, show (((1 : Nat) : Int) == 1) = true from rfl, Int.le_refl, Int.toNat_zero, Nat.zero_mul, show ((0 : Int) < ((1 : Nat) : Int)) = True from eq_true (by decide), encs_cons, encs_nil, wrap_in (show -9223372036854775808 ≤ d + 1 by omega) (show d + 1 ≤ 9223372036854775807 by omega)]; subst hC hR hU) | (with_reducible refine rN ?_; subst hbq) | (with_reducible refine iR ?_; refine rG (by simp only [compL, gtOf, nthDst]; exact rfl) ?_) | (with_reducible refine rB fun cq hcq => ?_; subst hcq) | (with_reducible refine x1 ?_; clear hbq bq) | (with_reducible refine r1 ?_; clear hbq bq) | (with_reducible refine x5 ?_ ?_; focus rfl) | (with_reducible refine iL ?_; refine rL (by rw [Tryz.results79]) fin ?_; simp only [go_sem, ↓reduceIte, aPack, Option.some.injEq, exists_eq_left', e1.1, e1.1.symm, e2.1, e2.1.symm, e3.1, e3.1.symm, n0, hu, show (((1 : Nat) : Int) == 1) = true from rfl, Int.le_refl, Int.toNat_zero, Nat.zero_mul, show ((0 : Int) < ((1 : Nat) : Int)) = True from eq_true (by decide), encs_cons, encs_nil, wrap_in (show -9223372036854775808 ≤ d + 1 by omega) (show d + 1 ≤ 9223372036854775807 by omega)]) | with_reducible first | refine nS ?_ | refine nD ?_ | refine rS fun bq hbq => ?_ | refine rK ?_ | refine rE ?_ | refine rXx ?_ | refine rR ?_ | refine x2 ?_ | refine x3 ?_ | refine x4 ?_ | refine r2 ?_ | refine r3 ?_ | refine r4 ?_
        refine ih u (d + 1) _ _ (by omega) (by omega) (by omega) ?_
        try dsimp only
        repeat first | ((first | (with_reducible first | refine sS ?_ | refine sA ?_ | refine sC ?_) | (with_reducible refine iT ?_; refine sT rfl ?_) | (with_reducible refine i0 ?_; refine s0 rfl ?_) | (with_reducible refine iO ?_; refine sO rfl ?_)); intro bC bR bU hC hR hU; simp only [go_sem, ↓reduceIte, e1.1, e1.1.symm, e2.1, e2.1.symm, e3.1, e3.1.symm, n0, hu, show (((1 : Nat) : Int) == 1) = true from rfl, Int.le_refl, Int.toNat_zero, Nat.zero_mul, show ((0 : Int) < ((1 : Nat) : Int)) = True from eq_true (by decide), encs_cons, encs_nil, wrap_in (show -9223372036854775808 ≤ d + 1 by omega) (show d + 1 ≤ 9223372036854775807 by omega)]; subst hC hR hU) | (with_reducible refine rN ?_; subst hbq) | (with_reducible refine iR ?_; refine rG (by simp only [compL, gtOf, nthDst]; exact rfl) ?_) | (with_reducible refine rB fun cq hcq => ?_; subst hcq) | (with_reducible refine x1 ?_; clear hbq bq) | (with_reducible refine r1 ?_; clear hbq bq) | (with_reducible refine x5 ?_ ?_; focus rfl) | (with_reducible refine iL ?_; refine rL (by rw [Tryz.results79]) fin ?_; simp only [go_sem, ↓reduceIte, aPack, Option.some.injEq, exists_eq_left', e1.1, e1.1.symm, e2.1, e2.1.symm, e3.1, e3.1.symm, n0, hu, show (((1 : Nat) : Int) == 1) = true from rfl, Int.le_refl, Int.toNat_zero, Nat.zero_mul, show ((0 : Int) < ((1 : Nat) : Int)) = True from eq_true (by decide), encs_cons, encs_nil, wrap_in (show -9223372036854775808 ≤ d + 1 by omega) (show d + 1 ≤ 9223372036854775807 by omega)]) | with_reducible first | refine nS ?_ | refine nD ?_ | refine rS fun bq hbq => ?_ | refine rK ?_ | refine rE ?_ | refine rXx ?_ | refine rR ?_ | refine x2 ?_ | refine x3 ?_ | refine x4 ?_ | refine r2 ?_ | refine r3 ?_ | refine r4 ?_
        exact hq
      have hT : headTest t.kind t.n t.args.length d = false := by simp only [headTest, k1, k2, k3, k5]; rfl
      cases k4 : (t.kind == 4)
      · try dsimp only
        repeat first | ((first | (with_reducible first | refine sS ?_ | refine sA ?_ | refine sC ?_) | (with_reducible refine iT ?_; refine sT rfl ?_) | (with_reducible refine i0 ?_; refine s0 rfl ?_) | (with_reducible refine iO ?_; refine sO rfl ?_)); intro bC bR bU hC hR hU; simp only [go_sem, ↓reduceIte, e1.1, e1.1.symm, e2.1, e2.1.symm, e3.1, e3.1.symm, k1, k2, k3, k5, k4]; subst hC hR hU) | (with_reducible refine rN ?_; subst hbq) | (with_reducible refine iR ?_; refine rG (by simp only [compL, gtOf, nthDst]; exact rfl) ?_) | (with_reducible refine rB fun cq hcq => ?_; subst hcq) | (with_reducible refine x1 ?_; clear hbq bq) | (with_reducible refine r1 ?_; clear hbq bq) | (with_reducible refine x5 ?_ ?_; focus rfl) | (with_reducible refine iL ?_; refine rL (by rw [Tryz.results79]) fin ?_; simp only [go_sem, ↓reduceIte, aPack, Option.some.injEq, exists_eq_left', e1.1, e1.1.symm, e2.1, e2.1.symm, e3.1, e3.1.symm, k1, k2, k3, k5, k4]) | with_reducible first | refine nS ?_ | refine nD ?_ | refine rS fun bq hbq => ?_ | refine rK ?_ | refine rE ?_ | refine rXx ?_ | refine rR ?_ | refine x2 ?_ | refine x3 ?_ | refine x4 ?_ | refine r2 ?_ | refine r3 ?_ | refine r4 ?_
        exact ret_as (by simp only [hT, Bool.false_and]) hq
      · try dsimp only
        repeat first | ((first | (with_reducible first | refine sS ?_ | refine sA ?_ | refine sC ?_) | (with_reducible refine iT ?_; refine sT rfl ?_) | (with_reducible refine i0 ?_; refine s0 rfl ?_) | (with_reducible refine iO ?_; refine sO rfl ?_)); intro bC bR bU hC hR hU; simp only [go_sem, ↓reduceIte, e1.1, e1.1.symm, e2.1, e2.1.symm, e3.1, e3.1.symm, k1, k2, k3, k5, k4]; subst hC hR hU) | (with_reducible refine rN ?_; subst hbq) | (with_reducible refine iR ?_; refine rG (by simp only [compL, gtOf, nthDst]; exact rfl) ?_) | (with_reducible refine rB fun cq hcq => ?_; subst hcq) | (with_reducible refine x1 ?_; clear hbq bq) | (with_reducible refine r1 ?_; clear hbq bq) | (with_reducible refine x5 ?_ ?_; focus rfl) | (with_reducible refine iL ?_; refine rL (by rw [Tryz.results79]) fin ?_; simp only [go_sem, ↓reduceIte, aPack, Option.some.injEq, exists_eq_left', e1.1, e1.1.symm, e2.1, e2.1.symm, e3.1, e3.1.symm, k1, k2, k3, k5, k4]) | with_reducible first | refine nS ?_ | refine nD ?_ | refine rS fun bq hbq => ?_ | refine rK ?_ | refine rE ?_ | refine rXx ?_ | refine rR ?_ | refine x2 ?_ | refine x3 ?_ | refine x4 ?_ | refine r2 ?_ | refine r3 ?_ | refine r4 ?_
        repeat with_reducible refine run_seq fun bq hbq => ?_
        refine run_draw (.take 0 (.take 1 (.take 2 (.take 3 (.take 4 (.take 5 (.take 6 (.take 7 (.take 8 (.take 9 (.take 10 (.take 11 (.take 12 (.take 13 (.take 14 (.take 15 (.take 16 (.take 17 (.take 18 (.take 19 (.one 20 [15, 13, 7, 5, 1] (.take 21 (.take 22 (.done)))))))))))))))))))))))) (by kernel_rfl) (by simp only [compL, gtOf, nthDst]; exact rfl) ?_
        cases n0 : decide (t.n < 0)
        · have n1 : decide (t.n ≥ ((0 : Nat) : Int)) = true := by simp only [decide_eq_false_iff_not, decide_eq_true_eq] at n0 ⊢; omega
          try dsimp only
          repeat first | ((first | (with_reducible first | refine sS ?_ | refine sA ?_ | refine sC ?_) | (with_reducible refine iT ?_; refine sT rfl ?_) | (with_reducible refine i0 ?_; refine s0 rfl ?_) | (with_reducible refine iO ?_; refine sO rfl ?_)); intro bC bR bU hC hR hU; simp only [go_sem, ↓reduceIte, e1.1, e1.1.symm, e2.1, e2.1.symm, e3.1, e3.1.symm, n0, n1]; subst hC hR hU) | (with_reducible refine rN ?_; subst hbq) | (with_reducible refine iR ?_; refine rG (by simp only [compL, gtOf, nthDst]; exact rfl) ?_) | (with_reducible refine rB fun cq hcq => ?_; subst hcq) | (with_reducible refine x1 ?_; clear hbq bq) | (with_reducible refine r1 ?_; clear hbq bq) | (with_reducible refine x5 ?_ ?_; focus rfl) | (with_reducible refine iL ?_; refine rL (by rw [Tryz.results79]) fin ?_; simp only [go_sem, ↓reduceIte, aPack, Option.some.injEq, exists_eq_left', e1.1, e1.1.symm, e2.1, e2.1.symm, e3.1, e3.1.symm, n0, n1]) | with_reducible first | refine nS ?_ | refine nD ?_ | refine rS fun bq hbq => ?_ | refine rK ?_ | refine rE ?_ | refine rXx ?_ | refine rR ?_ | refine x2 ?_ | refine x3 ?_ | refine x4 ?_ | refine r2 ?_ | refine r3 ?_ | refine r4 ?_
          exact ret_as (by simp only [hT, Bool.false_and]) hq
        · try dsimp only
          repeat first | ((first | (with_reducible first | refine sS ?_ | refine sA ?_ | refine sC ?_) | (with_reducible refine iT ?_; refine sT rfl ?_) | (with_reducible refine i0 ?_; refine s0 rfl ?_) | (with_reducible refine iO ?_; refine sO rfl ?_)); intro bC bR bU hC hR hU; simp only [go_sem, ↓reduceIte, e1.1, e1.1.symm, e2.1, e2.1.symm, e3.1, e3.1.symm, n0]; subst hC hR hU) | (with_reducible refine rN ?_; subst hbq) | (with_reducible refine iR ?_; refine rG (by simp only [compL, gtOf, nthDst]; exact rfl) ?_) | (with_reducible refine rB fun cq hcq => ?_; subst hcq) | (with_reducible refine x1 ?_; clear hbq bq) | (with_reducible refine r1 ?_; clear hbq bq) | (with_reducible refine x5 ?_ ?_; focus rfl) | (with_reducible refine iL ?_; refine rL (by rw [Tryz.results79]) fin ?_; simp only [go_sem, ↓reduceIte, aPack, Option.some.injEq, exists_eq_left', e1.1, e1.1.symm, e2.1, e2.1.symm, e3.1, e3.1.symm, n0]) | with_reducible first | refine nS ?_ | refine nD ?_ | refine rS fun bq hbq => ?_ | refine rK ?_ | refine rE ?_ | refine rXx ?_ | refine rR ?_ | refine x2 ?_ | refine x3 ?_ | refine x4 ?_ | refine r2 ?_ | refine r3 ?_ | refine r4 ?_
          exact ret_as (by simp only [hT, Bool.false_and]) hq
    · obtain ⟨f3, f4, f5, rfl, hT, hi⟩ := hI
      rw [hT, hi, Bool.true_and] at hq
      subst hbq
      try dsimp only
      repeat first | ((first | (with_reducible first | refine sS ?_ | refine sA ?_ | refine sC ?_) | (with_reducible refine iT ?_; refine sT rfl ?_) | (with_reducible refine i0 ?_; refine s0 rfl ?_) | (with_reducible refine iO ?_; refine sO rfl ?_)); intro bC bR bU hC hR hU; simp only [go_sem, ↓reduceIte, e1.1, e1.1.symm, e2.1, e2.1.symm, e3.1, e3.1.symm, f3, f4, f5]; subst hC hR hU) | (with_reducible refine rN ?_; subst hbq) | (with_reducible refine iR ?_; refine rG (by simp only [compL, gtOf, nthDst]; exact rfl) ?_) | (with_reducible refine rB fun cq hcq => ?_; subst hcq) | (with_reducible refine x1 ?_; clear hbq bq) | (with_reducible refine r1 ?_; clear hbq bq) | (with_reducible refine x5 ?_ ?_; focus rfl) | (with_reducible refine iL ?_; refine rL (by rw [Tryz.results79]) fin ?_; simp only [go_sem, ↓reduceIte, aPack, Option.some.injEq, exists_eq_left', e1.1, e1.1.symm, e2.1, e2.1.symm, e3.1, e3.1.symm, f3, f4, f5]) | with_reducible first | refine nS ?_ | refine nD ?_ | refine rS fun bq hbq => ?_ | refine rK ?_ | refine rE ?_ | refine rXx ?_ | refine rR ?_ | refine x2 ?_ | refine x3 ?_ | refine x4 ?_ | refine r2 ?_ | refine r3 ?_ | refine r4 ?_
      refine containsFunc_am t.args 126 [] [.ptr a 0, .ptr c 0] (fun u => !fits0F u d) _ _ (by omega) (fun i u hu _ h' Q' hl' hq' => ?_) ?_
      · refine fits126 z tk d u (fun h2 Q2 hq2 => ih u d h2 Q2 (by have := size_arg t i hu; omega) hd0 (by have := size_arg t i hu; omega) hq2) h' a c (hl' _ _ ?_) (hl' _ _ ?_) Q' hq'
        · simp only [go_sem, ↓reduceIte, e1.1, e1.1.symm, e2.1, e2.1.symm, e3.1, e3.1.symm]
        · simp only [go_sem, ↓reduceIte, e1.1, e1.1.symm, e2.1, e2.1.symm, e3.1, e3.1.symm]
      · try dsimp only
        repeat first | ((first | (with_reducible first | refine sS ?_ | refine sA ?_ | refine sC ?_) | (with_reducible refine iT ?_; refine sT rfl ?_) | (with_reducible refine i0 ?_; refine s0 rfl ?_) | (with_reducible refine iO ?_; refine sO rfl ?_)); intro bC bR bU hC hR hU; simp only [go_sem, ↓reduceIte, e1.1, e1.1.symm, e2.1, e2.1.symm, e3.1, e3.1.symm, f3, f4, f5]; subst hC hR hU) | (with_reducible refine rN ?_; subst hbq) | (with_reducible refine iR ?_; refine rG (by simp only [compL, gtOf, nthDst]; exact rfl) ?_) | (with_reducible refine rB fun cq hcq => ?_; subst hcq) | (with_reducible refine x1 ?_; clear hbq bq) | (with_reducible refine r1 ?_; clear hbq bq) | (with_reducible refine x5 ?_ ?_; focus rfl) | (with_reducible refine iL ?_; refine rL (by rw [Tryz.results79]) fin ?_; simp only [go_sem, ↓reduceIte, aPack, Option.some.injEq, exists_eq_left', e1.1, e1.1.symm, e2.1, e2.1.symm, e3.1, e3.1.symm, f3, f4, f5]) | with_reducible first | refine nS ?_ | refine nD ?_ | refine rS fun bq hbq => ?_ | refine rK ?_ | refine rE ?_ | refine rXx ?_ | refine rR ?_ | refine x2 ?_ | refine x3 ?_ | refine x4 ?_ | refine r2 ?_ | refine r3 ?_ | refine r4 ?_
        exact ret_as (by rw [fits0L_any]) hq
/- fits (the reference's), over a store without variables; fit. -/


theorem loop_size (s : ByteArray) : ∀ (k i : Nat) (r : List UInt8), s.size - i = k → (ByteArray.toList.loop s i r).length = r.length + k := by
  intro k
  induction k with
  | zero => intro i r h; unfold ByteArray.toList.loop; rw [if_neg (by omega)]; simp
  | succ k ih =>
    intro i r h
    unfold ByteArray.toList.loop
    rw [if_pos (by omega), ih _ _ (by omega)]
    simp; omega
theorem toList_size (s : ByteArray) : s.toList.length = s.size := by
  unfold ByteArray.toList
  rw [loop_size s s.size 0 [] (by omega)]
  simp
theorem empty_name (s : ByteArray) : (s.toList == noName.toList) = !decide ((s.size : Int) > 0) := by
  have h := toList_size s
  have h0 : noName.toList = [] := List.eq_nil_of_length_eq_zero (toList_size noName)
  rw [h0, Bool.eq_iff_iff]
  simp only [beq_iff_eq, Bool.not_eq_true', decide_eq_false_iff_not]
  constructor
  · intro e; rw [e] at h; simp at h; omega
  · intro e; exact List.eq_nil_of_length_eq_zero (by omega)
/-- What the reference asks of a term's head. -/
def refTest (k n : Int) (s : ByteArray) (len d : Int) : Bool := if k == 1 then namedF s && n == 0 else if k == 2 then !decide (n < 0) && !decide (n ≥ d) else if k == 3 then !decide (n < 0) && !decide (n ≥ 60) else if k == 4 then false else if k == 5 then n == 0 && len == 1 else false
theorem refTest_eq (k n : Int) (s : ByteArray) (len d : Int) : ((!(k == 1) && !(s.toList == noName.toList)) || decide (len > 8)) = false ∧ refTest k n s len d = true ↔ headFits k n s len d = true := by
  unfold headFits refTest headTest namedF
  rw [empty_name]
  cases k1 : (k == 1) <;> cases k4 : (k == 4) <;> cases hs : decide ((s.size : Int) > 0) <;> cases hs2 : decide ((s.size : Int) ≤ 40) <;> cases hl : decide (len > 8) <;> simp_all <;> omega
theorem refFits0_am (z : Nat) (tk : Tok) : ∀ (s : Nat) (t : Term) (d : Int) (h : AHeap) (Q : AOut → AHeap → Prop), t.size ≤ s → 0 ≤ d → d + t.size ≤ 1000000000 → Q (.ret (.bool (fits0F t d))) h → AmCalls Tryz.prog 90 [.agg [.list z [] 0 tk], enc t, .int .i64 d] h Q := by
  intro s
  induction s with
  | zero => intro t d h Q ht; obtain ⟨a, b, c, l⟩ := t; rw [Term.size] at ht; omega
  | succ s ih =>
    intro t d h Q ht hd0 hd1 hq
    have hF : fits0F t d = (headFits t.kind t.n t.name t.args.length d && fits0L t.args (inner t.kind d)) := by obtain ⟨a, b, c, l⟩ := t; rw [fits0F]
    have hlen := length_args t
    have hno : ¬ headFits t.kind t.n t.name t.args.length d = true → Q (.ret (.bool false)) h := by
      intro hn
      rw [hF, Bool.eq_false_iff.2 hn, Bool.false_and] at hq
      exact hq
    rw [← refTest_eq] at hno
    have hyes : headFits t.kind t.n t.name t.args.length d = true → Q (.ret (.bool (fits0L t.args (inner t.kind d)))) h := by
      intro hn
      rw [hF, hn, Bool.true_and] at hq
      exact hq
    rw [← refTest_eq] at hyes
    refine AmCalls.of_sem (fn := Tryz.f90) Tryz.func90 rfl (by kernel_rfl) (by rw [Tryz.ntmps90]; simp) (enters_of Tryz.func90 (by kernel_rfl) (by kernel_rfl)) ?_
    try dsimp only
    repeat first | ((first | (with_reducible first | refine sS ?_ | refine sA ?_ | refine sC ?_) | (with_reducible refine iT ?_; refine sT rfl ?_) | (with_reducible refine i0 ?_; refine s0 rfl ?_) | (with_reducible refine iO ?_; refine sO rfl ?_)); intro bC bR bU hC hR hU; simp only [go_sem, ↓reduceIte]; subst hC hR hU) | (with_reducible refine rN ?_; subst hbq) | (with_reducible refine iR ?_; refine rG (by simp only [compL, gtOf, nthDst]; exact rfl) ?_) | (with_reducible refine rB fun cq hcq => ?_; subst hcq) | (with_reducible refine x1 ?_; clear hbq bq) | (with_reducible refine r1 ?_; clear hbq bq) | (with_reducible refine x5 ?_ ?_; focus rfl) | (with_reducible refine iL ?_; refine rL (by rw [Tryz.results90]) (HLess.refl _) ?_; simp only [go_sem, ↓reduceIte, aPack, Option.some.injEq, exists_eq_left']) | with_reducible first | refine nS ?_ | refine nD ?_ | refine rS fun bq hbq => ?_ | refine rK ?_ | refine rE ?_ | refine rXx ?_ | refine rR ?_ | refine x2 ?_ | refine x3 ?_ | refine x4 ?_ | refine r2 ?_ | refine r3 ?_ | refine r4 ?_
    intro a ha
    try dsimp only
    repeat first | ((first | (with_reducible first | refine sS ?_ | refine sA ?_ | refine sC ?_) | (with_reducible refine iT ?_; refine sT rfl ?_) | (with_reducible refine i0 ?_; refine s0 rfl ?_) | (with_reducible refine iO ?_; refine sO rfl ?_)); intro bC bR bU hC hR hU; simp only [go_sem, ↓reduceIte]; subst hC hR hU) | (with_reducible refine rN ?_; subst hbq) | (with_reducible refine iR ?_; refine rG (by simp only [compL, gtOf, nthDst]; exact rfl) ?_) | (with_reducible refine rB fun cq hcq => ?_; subst hcq) | (with_reducible refine x1 ?_; clear hbq bq) | (with_reducible refine r1 ?_; clear hbq bq) | (with_reducible refine x5 ?_ ?_; focus rfl) | (with_reducible refine iL ?_; refine rL (by rw [Tryz.results90]) (HLess.refl _) ?_; simp only [go_sem, ↓reduceIte, aPack, Option.some.injEq, exists_eq_left']) | with_reducible first | refine nS ?_ | refine nD ?_ | refine rS fun bq hbq => ?_ | refine rK ?_ | refine rE ?_ | refine rXx ?_ | refine rR ?_ | refine x2 ?_ | refine x3 ?_ | refine x4 ?_ | refine r2 ?_ | refine r3 ?_ | refine r4 ?_
    intro b hb
    have e1 := fresh_if hb
    have fin : HLess (upd (upd h a (some (.cells [.list z [] 0 tk] 24))) b (some (.cells (cellsT t) 27))) h := (HLess.refl h).new ha |>.new e1.2
    try dsimp only
    repeat first | ((first | (with_reducible first | refine sS ?_ | refine sA ?_) | (with_reducible refine iT ?_; refine sT rfl ?_) | (with_reducible refine i0 ?_; refine s0 rfl ?_) | (with_reducible refine iO ?_; refine sO rfl ?_)); intro bC bR bU hC hR hU; simp only [go_sem, ↓reduceIte]; subst hC hR hU) | with_reducible first | refine nS ?_ | refine nD ?_
    refine run_next ?_; subst hbq
    repeat with_reducible refine run_seq fun bq hbq => ?_
    refine run_cutS (fun τ h' => τ 2 = .int .i64 d ∧ τ 3 = .ptr a 0 ∧ τ 4 = .ptr b 0 ∧ τ 23 = .bool ((!(t.kind == 1) && !(t.name.toList == noName.toList)) || decide ((t.args.length : Int) > 8)) ∧ h' = upd (upd h a (some (.cells [.list z [] 0 tk] 24))) b (some (.cells (cellsT t) 27))) ?_ fun τ h' hI => ?_
    · cases c1 : (t.kind == 1) <;> cases c2 : (t.name.toList == noName.toList)
      all_goals
        try dsimp only
        repeat first | ((first | (with_reducible first | refine sS ?_ | refine sA ?_ | refine sC ?_) | (with_reducible refine iT ?_; refine sT rfl ?_) | (with_reducible refine i0 ?_; refine s0 rfl ?_) | (with_reducible refine iO ?_; refine sO rfl ?_)); intro bC bR bU hC hR hU; simp only [go_sem, ↓reduceIte, e1.1, e1.1.symm, c1, c2]; subst hC hR hU) | (with_reducible refine rN ?_; subst hbq) | (with_reducible refine iR ?_; refine rG (by simp only [compL, gtOf, nthDst]; exact rfl) ?_) | (with_reducible refine rB fun cq hcq => ?_; subst hcq) | (with_reducible refine x1 ?_; clear hbq bq) | (with_reducible refine r1 ?_; clear hbq bq) | (with_reducible refine x5 ?_ ?_; focus rfl) | (with_reducible refine iL ?_; refine rL (by rw [Tryz.results90]) fin ?_; simp only [go_sem, ↓reduceIte, aPack, Option.some.injEq, exists_eq_left', e1.1, e1.1.symm, c1, c2]) | with_reducible first | refine nS ?_ | refine nD ?_ | refine rS fun bq hbq => ?_ | refine rK ?_ | refine rE ?_ | refine rXx ?_ | refine rR ?_ | refine x2 ?_ | refine x3 ?_ | refine x4 ?_ | refine r2 ?_ | refine r3 ?_ | refine r4 ?_
        refine run_endcut ?_
        simp only [go_sem, ↓reduceIte, e1.1, e1.1.symm, c1, c2]
    obtain ⟨f2, f3, f4, f23, rfl⟩ := hI
    subst hbq
    cases hg : ((!(t.kind == 1) && !(t.name.toList == noName.toList)) || decide ((t.args.length : Int) > 8))
    case true =>
      rw [hg] at f23
      try dsimp only
      repeat first | ((first | (with_reducible first | refine sS ?_ | refine sA ?_ | refine sC ?_) | (with_reducible refine iT ?_; refine sT rfl ?_) | (with_reducible refine i0 ?_; refine s0 rfl ?_) | (with_reducible refine iO ?_; refine sO rfl ?_)); intro bC bR bU hC hR hU; simp only [go_sem, ↓reduceIte, e1.1, e1.1.symm, f23]; subst hC hR hU) | (with_reducible refine rN ?_; subst hbq) | (with_reducible refine iR ?_; refine rG (by simp only [compL, gtOf, nthDst]; exact rfl) ?_) | (with_reducible refine rB fun cq hcq => ?_; subst hcq) | (with_reducible refine x1 ?_; clear hbq bq) | (with_reducible refine r1 ?_; clear hbq bq) | (with_reducible refine x5 ?_ ?_; focus rfl) | (with_reducible refine iL ?_; refine rL (by rw [Tryz.results90]) fin ?_; simp only [go_sem, ↓reduceIte, aPack, Option.some.injEq, exists_eq_left', e1.1, e1.1.symm, f23]) | with_reducible first | refine nS ?_ | refine nD ?_ | refine rS fun bq hbq => ?_ | refine rK ?_ | refine rE ?_ | refine rXx ?_ | refine rR ?_ | refine x2 ?_ | refine x3 ?_ | refine x4 ?_ | refine r2 ?_ | refine r3 ?_ | refine r4 ?_
      exact hno (fun h => by rw [hg] at h; cases h.1)
    rw [hg] at f23
    try dsimp only
    repeat first | ((first | (with_reducible first | refine sS ?_ | refine sA ?_ | refine sC ?_) | (with_reducible refine iT ?_; refine sT rfl ?_) | (with_reducible refine i0 ?_; refine s0 rfl ?_) | (with_reducible refine iO ?_; refine sO rfl ?_)); intro bC bR bU hC hR hU; simp only [go_sem, ↓reduceIte, e1.1, e1.1.symm, f2, f3, f4, f23]; subst hC hR hU) | (with_reducible refine rN ?_; subst hbq) | (with_reducible refine iR ?_; refine rG (by simp only [compL, gtOf, nthDst]; exact rfl) ?_) | (with_reducible refine x1 ?_; clear hbq bq) | (with_reducible refine r1 ?_; clear hbq bq) | (with_reducible refine x5 ?_ ?_; focus rfl) | (with_reducible refine iL ?_; refine rL (by rw [Tryz.results90]) fin ?_; simp only [go_sem, ↓reduceIte, aPack, Option.some.injEq, exists_eq_left', e1.1, e1.1.symm, f2, f3, f4, f23]) | with_reducible first | refine nS ?_ | refine nD ?_ | refine rS fun bq hbq => ?_ | refine rK ?_ | refine rE ?_ | refine rXx ?_ | refine rR ?_ | refine x2 ?_ | refine x3 ?_ | refine x4 ?_ | refine r2 ?_ | refine r3 ?_ | refine r4 ?_
    refine run_cutS (fun τ h' => τ 3 = .ptr a 0 ∧ τ 4 = .ptr b 0 ∧ τ 7 = .int .i64 (inner t.kind d) ∧ h' = upd (upd h a (some (.cells [.list z [] 0 tk] 24))) b (some (.cells (cellsT t) 27)) ∧ refTest t.kind t.n t.name t.args.length d = true) ?_ fun τ h' hI => ?_
    · cases k1 : (t.kind == 1)
      case true =>
        have k5 : (t.kind == 5) = false := by simp only [beq_iff_eq] at k1; rw [k1]; rfl
        have hi : inner t.kind d = d := by simp only [inner, k5]; rfl
        try dsimp only
        repeat first | ((first | (with_reducible first | refine sS ?_ | refine sA ?_ | refine sC ?_) | (with_reducible refine iT ?_; refine sT rfl ?_) | (with_reducible refine i0 ?_; refine s0 rfl ?_) | (with_reducible refine iO ?_; refine sO rfl ?_)); intro bC bR bU hC hR hU; simp only [go_sem, ↓reduceIte, e1.1, e1.1.symm, f2, f3, f4, k1]; subst hC hR hU) | (with_reducible refine rN ?_; subst hbq) | (with_reducible refine iR ?_; refine rG (by simp only [compL, gtOf, nthDst]; exact rfl) ?_) | (with_reducible refine rB fun cq hcq => ?_; subst hcq) | (with_reducible refine x1 ?_; clear hbq bq) | (with_reducible refine r1 ?_; clear hbq bq) | (with_reducible refine x5 ?_ ?_; focus rfl) | (with_reducible refine iL ?_; refine rL (by rw [Tryz.results90]) fin ?_; simp only [go_sem, ↓reduceIte, aPack, Option.some.injEq, exists_eq_left', e1.1, e1.1.symm, f2, f3, f4, k1]) | with_reducible first | refine nS ?_ | refine nD ?_ | refine rS fun bq hbq => ?_ | refine rK ?_ | refine rE ?_ | refine rXx ?_ | refine rR ?_ | refine x2 ?_ | refine x3 ?_ | refine x4 ?_ | refine r2 ?_ | refine r3 ?_ | refine r4 ?_
        refine named_am _ _ _ ?_
        cases nm : namedF t.name
        · try dsimp only
          repeat first | ((first | (with_reducible first | refine sS ?_ | refine sA ?_ | refine sC ?_) | (with_reducible refine iT ?_; refine sT rfl ?_) | (with_reducible refine i0 ?_; refine s0 rfl ?_) | (with_reducible refine iO ?_; refine sO rfl ?_)); intro bC bR bU hC hR hU; simp only [go_sem, ↓reduceIte, e1.1, e1.1.symm, f2, f3, f4, k1, nm]; subst hC hR hU) | (with_reducible refine rN ?_; subst hbq) | (with_reducible refine iR ?_; refine rG (by simp only [compL, gtOf, nthDst]; exact rfl) ?_) | (with_reducible refine rB fun cq hcq => ?_; subst hcq) | (with_reducible refine x1 ?_; clear hbq bq) | (with_reducible refine r1 ?_; clear hbq bq) | (with_reducible refine x5 ?_ ?_; focus rfl) | (with_reducible refine iL ?_; refine rL (by rw [Tryz.results90]) fin ?_; simp only [go_sem, ↓reduceIte, aPack, Option.some.injEq, exists_eq_left', e1.1, e1.1.symm, f2, f3, f4, k1, nm]) | with_reducible first | refine nS ?_ | refine nD ?_ | refine rS fun bq hbq => ?_ | refine rK ?_ | refine rE ?_ | refine rXx ?_ | refine rR ?_ | refine x2 ?_ | refine x3 ?_ | refine x4 ?_ | refine r2 ?_ | refine r3 ?_ | refine r4 ?_
          exact hno (fun h => by simp only [refTest, k1, nm] at h; cases h.2)
        cases n0 : (t.n == 0)
        · try dsimp only
          repeat first | ((first | (with_reducible first | refine sS ?_ | refine sA ?_ | refine sC ?_) | (with_reducible refine iT ?_; refine sT rfl ?_) | (with_reducible refine i0 ?_; refine s0 rfl ?_) | (with_reducible refine iO ?_; refine sO rfl ?_)); intro bC bR bU hC hR hU; simp only [go_sem, ↓reduceIte, e1.1, e1.1.symm, f2, f3, f4, k1, nm, n0]; subst hC hR hU) | (with_reducible refine rN ?_; subst hbq) | (with_reducible refine iR ?_; refine rG (by simp only [compL, gtOf, nthDst]; exact rfl) ?_) | (with_reducible refine rB fun cq hcq => ?_; subst hcq) | (with_reducible refine x1 ?_; clear hbq bq) | (with_reducible refine r1 ?_; clear hbq bq) | (with_reducible refine x5 ?_ ?_; focus rfl) | (with_reducible refine iL ?_; refine rL (by rw [Tryz.results90]) fin ?_; simp only [go_sem, ↓reduceIte, aPack, Option.some.injEq, exists_eq_left', e1.1, e1.1.symm, f2, f3, f4, k1, nm, n0]) | with_reducible first | refine nS ?_ | refine nD ?_ | refine rS fun bq hbq => ?_ | refine rK ?_ | refine rE ?_ | refine rXx ?_ | refine rR ?_ | refine x2 ?_ | refine x3 ?_ | refine x4 ?_ | refine r2 ?_ | refine r3 ?_ | refine r4 ?_
          exact hno (fun h => by simp only [refTest, k1, nm, n0] at h; cases h.2)
        · try dsimp only
          repeat first | ((first | (with_reducible first | refine sS ?_ | refine sA ?_ | refine sC ?_) | (with_reducible refine iT ?_; refine sT rfl ?_) | (with_reducible refine i0 ?_; refine s0 rfl ?_) | (with_reducible refine iO ?_; refine sO rfl ?_)); intro bC bR bU hC hR hU; simp only [go_sem, ↓reduceIte, e1.1, e1.1.symm, f2, f3, f4, k1, nm, n0]; subst hC hR hU) | (with_reducible refine rN ?_; subst hbq) | (with_reducible refine iR ?_; refine rG (by simp only [compL, gtOf, nthDst]; exact rfl) ?_) | (with_reducible refine rB fun cq hcq => ?_; subst hcq) | (with_reducible refine x1 ?_; clear hbq bq) | (with_reducible refine r1 ?_; clear hbq bq) | (with_reducible refine x5 ?_ ?_; focus rfl) | (with_reducible refine iL ?_; refine rL (by rw [Tryz.results90]) fin ?_; simp only [go_sem, ↓reduceIte, aPack, Option.some.injEq, exists_eq_left', e1.1, e1.1.symm, f2, f3, f4, k1, nm, n0]) | with_reducible first | refine nS ?_ | refine nD ?_ | refine rS fun bq hbq => ?_ | refine rK ?_ | refine rE ?_ | refine rXx ?_ | refine rR ?_ | refine x2 ?_ | refine x3 ?_ | refine x4 ?_ | refine r2 ?_ | refine r3 ?_ | refine r4 ?_
          refine run_endcut ?_
          simp only [go_sem, ↓reduceIte, refTest, k1, nm, n0, hi, f2, f3, f4]
      cases k2 : (t.kind == 2)
      case true =>
        have k5 : (t.kind == 5) = false := by simp only [beq_iff_eq] at k2; rw [k2]; rfl
        have hi : inner t.kind d = d := by simp only [inner, k5]; rfl
        cases n0 : decide (t.n < 0)
        case true =>
          try dsimp only
          repeat first | ((first | (with_reducible first | refine sS ?_ | refine sA ?_ | refine sC ?_) | (with_reducible refine iT ?_; refine sT rfl ?_) | (with_reducible refine i0 ?_; refine s0 rfl ?_) | (with_reducible refine iO ?_; refine sO rfl ?_)); intro bC bR bU hC hR hU; simp only [go_sem, ↓reduceIte, e1.1, e1.1.symm, f2, f3, f4, k1, k2, n0]; subst hC hR hU) | (with_reducible refine rN ?_; subst hbq) | (with_reducible refine iR ?_; refine rG (by simp only [compL, gtOf, nthDst]; exact rfl) ?_) | (with_reducible refine rB fun cq hcq => ?_; subst hcq) | (with_reducible refine x1 ?_; clear hbq bq) | (with_reducible refine r1 ?_; clear hbq bq) | (with_reducible refine x5 ?_ ?_; focus rfl) | (with_reducible refine iL ?_; refine rL (by rw [Tryz.results90]) fin ?_; simp only [go_sem, ↓reduceIte, aPack, Option.some.injEq, exists_eq_left', e1.1, e1.1.symm, f2, f3, f4, k1, k2, n0]) | with_reducible first | refine nS ?_ | refine nD ?_ | refine rS fun bq hbq => ?_ | refine rK ?_ | refine rE ?_ | refine rXx ?_ | refine rR ?_ | refine x2 ?_ | refine x3 ?_ | refine x4 ?_ | refine r2 ?_ | refine r3 ?_ | refine r4 ?_
          exact hno (fun h => by simp only [refTest, k1, k2, n0] at h; cases h.2)
        cases n1 : decide (t.n ≥ d)
        case true =>
          try dsimp only
          repeat first | ((first | (with_reducible first | refine sS ?_ | refine sA ?_ | refine sC ?_) | (with_reducible refine iT ?_; refine sT rfl ?_) | (with_reducible refine i0 ?_; refine s0 rfl ?_) | (with_reducible refine iO ?_; refine sO rfl ?_)); intro bC bR bU hC hR hU; simp only [go_sem, ↓reduceIte, e1.1, e1.1.symm, f2, f3, f4, k1, k2, n0, n1]; subst hC hR hU) | (with_reducible refine rN ?_; subst hbq) | (with_reducible refine iR ?_; refine rG (by simp only [compL, gtOf, nthDst]; exact rfl) ?_) | (with_reducible refine rB fun cq hcq => ?_; subst hcq) | (with_reducible refine x1 ?_; clear hbq bq) | (with_reducible refine r1 ?_; clear hbq bq) | (with_reducible refine x5 ?_ ?_; focus rfl) | (with_reducible refine iL ?_; refine rL (by rw [Tryz.results90]) fin ?_; simp only [go_sem, ↓reduceIte, aPack, Option.some.injEq, exists_eq_left', e1.1, e1.1.symm, f2, f3, f4, k1, k2, n0, n1]) | with_reducible first | refine nS ?_ | refine nD ?_ | refine rS fun bq hbq => ?_ | refine rK ?_ | refine rE ?_ | refine rXx ?_ | refine rR ?_ | refine x2 ?_ | refine x3 ?_ | refine x4 ?_ | refine r2 ?_ | refine r3 ?_ | refine r4 ?_
          exact hno (fun h => by simp only [refTest, k1, k2, n0, n1] at h; cases h.2)
        try dsimp only
        repeat first | ((first | (with_reducible first | refine sS ?_ | refine sA ?_ | refine sC ?_) | (with_reducible refine iT ?_; refine sT rfl ?_) | (with_reducible refine i0 ?_; refine s0 rfl ?_) | (with_reducible refine iO ?_; refine sO rfl ?_)); intro bC bR bU hC hR hU; simp only [go_sem, ↓reduceIte, e1.1, e1.1.symm, f2, f3, f4, k1, k2, n0, n1]; subst hC hR hU) | (with_reducible refine rN ?_; subst hbq) | (with_reducible refine iR ?_; refine rG (by simp only [compL, gtOf, nthDst]; exact rfl) ?_) | (with_reducible refine rB fun cq hcq => ?_; subst hcq) | (with_reducible refine x1 ?_; clear hbq bq) | (with_reducible refine r1 ?_; clear hbq bq) | (with_reducible refine x5 ?_ ?_; focus rfl) | (with_reducible refine iL ?_; refine rL (by rw [Tryz.results90]) fin ?_; simp only [go_sem, ↓reduceIte, aPack, Option.some.injEq, exists_eq_left', e1.1, e1.1.symm, f2, f3, f4, k1, k2, n0, n1]) | with_reducible first | refine nS ?_ | refine nD ?_ | refine rS fun bq hbq => ?_ | refine rK ?_ | refine rE ?_ | refine rXx ?_ | refine rR ?_ | refine x2 ?_ | refine x3 ?_ | refine x4 ?_ | refine r2 ?_ | refine r3 ?_ | refine r4 ?_
        refine run_endcut ?_
        simp only [go_sem, ↓reduceIte, refTest, k1, k2, n0, n1, hi, f2, f3, f4]
      cases k3 : (t.kind == 3)
      case true =>
        have k5 : (t.kind == 5) = false := by simp only [beq_iff_eq] at k3; rw [k3]; rfl
        have hi : inner t.kind d = d := by simp only [inner, k5]; rfl
        cases n0 : decide (t.n < 0)
        case true =>
          try dsimp only
          repeat first | ((first | (with_reducible first | refine sS ?_ | refine sA ?_ | refine sC ?_) | (with_reducible refine iT ?_; refine sT rfl ?_) | (with_reducible refine i0 ?_; refine s0 rfl ?_) | (with_reducible refine iO ?_; refine sO rfl ?_)); intro bC bR bU hC hR hU; simp only [go_sem, ↓reduceIte, e1.1, e1.1.symm, f2, f3, f4, k1, k2, k3, n0]; subst hC hR hU) | (with_reducible refine rN ?_; subst hbq) | (with_reducible refine iR ?_; refine rG (by simp only [compL, gtOf, nthDst]; exact rfl) ?_) | (with_reducible refine rB fun cq hcq => ?_; subst hcq) | (with_reducible refine x1 ?_; clear hbq bq) | (with_reducible refine r1 ?_; clear hbq bq) | (with_reducible refine x5 ?_ ?_; focus rfl) | (with_reducible refine iL ?_; refine rL (by rw [Tryz.results90]) fin ?_; simp only [go_sem, ↓reduceIte, aPack, Option.some.injEq, exists_eq_left', e1.1, e1.1.symm, f2, f3, f4, k1, k2, k3, n0]) | with_reducible first | refine nS ?_ | refine nD ?_ | refine rS fun bq hbq => ?_ | refine rK ?_ | refine rE ?_ | refine rXx ?_ | refine rR ?_ | refine x2 ?_ | refine x3 ?_ | refine x4 ?_ | refine r2 ?_ | refine r3 ?_ | refine r4 ?_
          exact hno (fun h => by simp only [refTest, k1, k2, k3, n0] at h; cases h.2)
        cases n1 : decide (t.n ≥ 60)
        case true =>
          try dsimp only
          repeat first | ((first | (with_reducible first | refine sS ?_ | refine sA ?_ | refine sC ?_) | (with_reducible refine iT ?_; refine sT rfl ?_) | (with_reducible refine i0 ?_; refine s0 rfl ?_) | (with_reducible refine iO ?_; refine sO rfl ?_)); intro bC bR bU hC hR hU; simp only [go_sem, ↓reduceIte, e1.1, e1.1.symm, f2, f3, f4, k1, k2, k3, n0, n1]; subst hC hR hU) | (with_reducible refine rN ?_; subst hbq) | (with_reducible refine iR ?_; refine rG (by simp only [compL, gtOf, nthDst]; exact rfl) ?_) | (with_reducible refine rB fun cq hcq => ?_; subst hcq) | (with_reducible refine x1 ?_; clear hbq bq) | (with_reducible refine r1 ?_; clear hbq bq) | (with_reducible refine x5 ?_ ?_; focus rfl) | (with_reducible refine iL ?_; refine rL (by rw [Tryz.results90]) fin ?_; simp only [go_sem, ↓reduceIte, aPack, Option.some.injEq, exists_eq_left', e1.1, e1.1.symm, f2, f3, f4, k1, k2, k3, n0, n1]) | with_reducible first | refine nS ?_ | refine nD ?_ | refine rS fun bq hbq => ?_ | refine rK ?_ | refine rE ?_ | refine rXx ?_ | refine rR ?_ | refine x2 ?_ | refine x3 ?_ | refine x4 ?_ | refine r2 ?_ | refine r3 ?_ | refine r4 ?_
          exact hno (fun h => by simp only [refTest, k1, k2, k3, n0, n1] at h; cases h.2)
        try dsimp only
        repeat first | ((first | (with_reducible first | refine sS ?_ | refine sA ?_ | refine sC ?_) | (with_reducible refine iT ?_; refine sT rfl ?_) | (with_reducible refine i0 ?_; refine s0 rfl ?_) | (with_reducible refine iO ?_; refine sO rfl ?_)); intro bC bR bU hC hR hU; simp only [go_sem, ↓reduceIte, e1.1, e1.1.symm, f2, f3, f4, k1, k2, k3, n0, n1]; subst hC hR hU) | (with_reducible refine rN ?_; subst hbq) | (with_reducible refine iR ?_; refine rG (by simp only [compL, gtOf, nthDst]; exact rfl) ?_) | (with_reducible refine rB fun cq hcq => ?_; subst hcq) | (with_reducible refine x1 ?_; clear hbq bq) | (with_reducible refine r1 ?_; clear hbq bq) | (with_reducible refine x5 ?_ ?_; focus rfl) | (with_reducible refine iL ?_; refine rL (by rw [Tryz.results90]) fin ?_; simp only [go_sem, ↓reduceIte, aPack, Option.some.injEq, exists_eq_left', e1.1, e1.1.symm, f2, f3, f4, k1, k2, k3, n0, n1]) | with_reducible first | refine nS ?_ | refine nD ?_ | refine rS fun bq hbq => ?_ | refine rK ?_ | refine rE ?_ | refine rXx ?_ | refine rR ?_ | refine x2 ?_ | refine x3 ?_ | refine x4 ?_ | refine r2 ?_ | refine r3 ?_ | refine r4 ?_
        refine run_endcut ?_
        simp only [go_sem, ↓reduceIte, refTest, k1, k2, k3, n0, n1, hi, f2, f3, f4]
      cases k4 : (t.kind == 4)
      case true =>
        try dsimp only
        repeat first | ((first | (with_reducible first | refine sS ?_ | refine sA ?_ | refine sC ?_) | (with_reducible refine iT ?_; refine sT rfl ?_) | (with_reducible refine i0 ?_; refine s0 rfl ?_) | (with_reducible refine iO ?_; refine sO rfl ?_)); intro bC bR bU hC hR hU; simp only [go_sem, ↓reduceIte, e1.1, e1.1.symm, f2, f3, f4, k1, k2, k3, k4]; subst hC hR hU) | (with_reducible refine rN ?_; subst hbq) | (with_reducible refine iR ?_; refine rG (by simp only [compL, gtOf, nthDst]; exact rfl) ?_) | (with_reducible refine rB fun cq hcq => ?_; subst hcq) | (with_reducible refine x1 ?_; clear hbq bq) | (with_reducible refine r1 ?_; clear hbq bq) | (with_reducible refine x5 ?_ ?_; focus rfl) | (with_reducible refine iL ?_; refine rL (by rw [Tryz.results90]) fin ?_; simp only [go_sem, ↓reduceIte, aPack, Option.some.injEq, exists_eq_left', e1.1, e1.1.symm, f2, f3, f4, k1, k2, k3, k4]) | with_reducible first | refine nS ?_ | refine nD ?_ | refine rS fun bq hbq => ?_ | refine rK ?_ | refine rE ?_ | refine rXx ?_ | refine rR ?_ | refine x2 ?_ | refine x3 ?_ | refine x4 ?_ | refine r2 ?_ | refine r3 ?_ | refine r4 ?_
        repeat with_reducible refine run_seq fun bq hbq => ?_
        refine run_draw (.take 0 (.take 1 (.take 2 (.take 3 (.take 4 (.take 5 (.take 6 (.take 7 (.take 8 (.take 9 (.take 10 (.take 11 (.take 12 (.take 13 (.take 14 (.take 15 (.take 16 (.take 17 (.one 18 [13, 7, 5, 1] (.take 19 (.take 20 (.done)))))))))))))))))))))) (by kernel_rfl) (by simp only [compL, gtOf, nthDst]; exact rfl) ?_
        cases n0 : decide (t.n < 0)
        · have n1 : decide (t.n ≥ ((0 : Nat) : Int)) = true := by simp only [decide_eq_false_iff_not, decide_eq_true_eq] at n0 ⊢; omega
          try dsimp only
          repeat first | ((first | (with_reducible first | refine sS ?_ | refine sA ?_ | refine sC ?_) | (with_reducible refine iT ?_; refine sT rfl ?_) | (with_reducible refine i0 ?_; refine s0 rfl ?_) | (with_reducible refine iO ?_; refine sO rfl ?_)); intro bC bR bU hC hR hU; simp only [go_sem, ↓reduceIte, e1.1, e1.1.symm, f3, f4, n0, n1]; subst hC hR hU) | (with_reducible refine rN ?_; subst hbq) | (with_reducible refine iR ?_; refine rG (by simp only [compL, gtOf, nthDst]; exact rfl) ?_) | (with_reducible refine rB fun cq hcq => ?_; subst hcq) | (with_reducible refine x1 ?_; clear hbq bq) | (with_reducible refine r1 ?_; clear hbq bq) | (with_reducible refine x5 ?_ ?_; focus rfl) | (with_reducible refine iL ?_; refine rL (by rw [Tryz.results90]) fin ?_; simp only [go_sem, ↓reduceIte, aPack, Option.some.injEq, exists_eq_left', e1.1, e1.1.symm, f3, f4, n0, n1]) | with_reducible first | refine nS ?_ | refine nD ?_ | refine rS fun bq hbq => ?_ | refine rK ?_ | refine rE ?_ | refine rXx ?_ | refine rR ?_ | refine x2 ?_ | refine x3 ?_ | refine x4 ?_ | refine r2 ?_ | refine r3 ?_ | refine r4 ?_
          exact hno (fun h => by simp only [refTest, k1, k2, k3, k4] at h; cases h.2)
        · try dsimp only
          repeat first | ((first | (with_reducible first | refine sS ?_ | refine sA ?_ | refine sC ?_) | (with_reducible refine iT ?_; refine sT rfl ?_) | (with_reducible refine i0 ?_; refine s0 rfl ?_) | (with_reducible refine iO ?_; refine sO rfl ?_)); intro bC bR bU hC hR hU; simp only [go_sem, ↓reduceIte, e1.1, e1.1.symm, f3, f4, n0]; subst hC hR hU) | (with_reducible refine rN ?_; subst hbq) | (with_reducible refine iR ?_; refine rG (by simp only [compL, gtOf, nthDst]; exact rfl) ?_) | (with_reducible refine rB fun cq hcq => ?_; subst hcq) | (with_reducible refine x1 ?_; clear hbq bq) | (with_reducible refine r1 ?_; clear hbq bq) | (with_reducible refine x5 ?_ ?_; focus rfl) | (with_reducible refine iL ?_; refine rL (by rw [Tryz.results90]) fin ?_; simp only [go_sem, ↓reduceIte, aPack, Option.some.injEq, exists_eq_left', e1.1, e1.1.symm, f3, f4, n0]) | with_reducible first | refine nS ?_ | refine nD ?_ | refine rS fun bq hbq => ?_ | refine rK ?_ | refine rE ?_ | refine rXx ?_ | refine rR ?_ | refine x2 ?_ | refine x3 ?_ | refine x4 ?_ | refine r2 ?_ | refine r3 ?_ | refine r4 ?_
          exact hno (fun h => by simp only [refTest, k1, k2, k3, k4] at h; cases h.2)
      cases k5 : (t.kind == 5)
      · try dsimp only
        repeat first | ((first | (with_reducible first | refine sS ?_ | refine sA ?_ | refine sC ?_) | (with_reducible refine iT ?_; refine sT rfl ?_) | (with_reducible refine i0 ?_; refine s0 rfl ?_) | (with_reducible refine iO ?_; refine sO rfl ?_)); intro bC bR bU hC hR hU; simp only [go_sem, ↓reduceIte, e1.1, e1.1.symm, f2, f3, f4, k1, k2, k3, k4, k5]; subst hC hR hU) | (with_reducible refine rN ?_; subst hbq) | (with_reducible refine iR ?_; refine rG (by simp only [compL, gtOf, nthDst]; exact rfl) ?_) | (with_reducible refine rB fun cq hcq => ?_; subst hcq) | (with_reducible refine x1 ?_; clear hbq bq) | (with_reducible refine r1 ?_; clear hbq bq) | (with_reducible refine x5 ?_ ?_; focus rfl) | (with_reducible refine iL ?_; refine rL (by rw [Tryz.results90]) fin ?_; simp only [go_sem, ↓reduceIte, aPack, Option.some.injEq, exists_eq_left', e1.1, e1.1.symm, f2, f3, f4, k1, k2, k3, k4, k5]) | with_reducible first | refine nS ?_ | refine nD ?_ | refine rS fun bq hbq => ?_ | refine rK ?_ | refine rE ?_ | refine rXx ?_ | refine rR ?_ | refine x2 ?_ | refine x3 ?_ | refine x4 ?_ | refine r2 ?_ | refine r3 ?_ | refine r4 ?_
        exact hno (fun h => by simp only [refTest, k1, k2, k3, k4, k5] at h; cases h.2)
      · have hi : inner t.kind d = d + 1 := by simp only [inner, k5]; rfl
        cases n0 : (t.n == 0)
        · try dsimp only
          repeat first | ((first | (with_reducible first | refine sS ?_ | refine sA ?_ | refine sC ?_) | (with_reducible refine iT ?_; refine sT rfl ?_) | (with_reducible refine i0 ?_; refine s0 rfl ?_) | (with_reducible refine iO ?_; refine sO rfl ?_)); intro bC bR bU hC hR hU; simp only [go_sem, ↓reduceIte, e1.1, e1.1.symm, f2, f3, f4, k1, k2, k3, k4, k5, n0]; subst hC hR hU) | (with_reducible refine rN ?_; subst hbq) | (with_reducible refine iR ?_; refine rG (by simp only [compL, gtOf, nthDst]; exact rfl) ?_) | (with_reducible refine rB fun cq hcq => ?_; subst hcq) | (with_reducible refine x1 ?_; clear hbq bq) | (with_reducible refine r1 ?_; clear hbq bq) | (with_reducible refine x5 ?_ ?_; focus rfl) | (with_reducible refine iL ?_; refine rL (by rw [Tryz.results90]) fin ?_; simp only [go_sem, ↓reduceIte, aPack, Option.some.injEq, exists_eq_left', e1.1, e1.1.symm, f2, f3, f4, k1, k2, k3, k4, k5, n0]) | with_reducible first | refine nS ?_ | refine nD ?_ | refine rS fun bq hbq => ?_ | refine rK ?_ | refine rE ?_ | refine rXx ?_ | refine rR ?_ | refine x2 ?_ | refine x3 ?_ | refine x4 ?_ | refine r2 ?_ | refine r3 ?_ | refine r4 ?_
          exact hno (fun h => by simp only [refTest, k1, k2, k3, k4, k5, n0] at h; cases h.2)
        cases l1 : ((t.args.length : Int) == 1)
        · try dsimp only
          repeat first | ((first | (with_reducible first | refine sS ?_ | refine sA ?_ | refine sC ?_) | (with_reducible refine iT ?_; refine sT rfl ?_) | (with_reducible refine i0 ?_; refine s0 rfl ?_) | (with_reducible refine iO ?_; refine sO rfl ?_)); intro bC bR bU hC hR hU; simp only [go_sem, ↓reduceIte, e1.1, e1.1.symm, f2, f3, f4, k1, k2, k3, k4, k5, n0, l1]; subst hC hR hU) | (with_reducible refine rN ?_; subst hbq) | (with_reducible refine iR ?_; refine rG (by simp only [compL, gtOf, nthDst]; exact rfl) ?_) | (with_reducible refine rB fun cq hcq => ?_; subst hcq) | (with_reducible refine x1 ?_; clear hbq bq) | (with_reducible refine r1 ?_; clear hbq bq) | (with_reducible refine x5 ?_ ?_; focus rfl) | (with_reducible refine iL ?_; refine rL (by rw [Tryz.results90]) fin ?_; simp only [go_sem, ↓reduceIte, aPack, Option.some.injEq, exists_eq_left', e1.1, e1.1.symm, f2, f3, f4, k1, k2, k3, k4, k5, n0, l1]) | with_reducible first | refine nS ?_ | refine nD ?_ | refine rS fun bq hbq => ?_ | refine rK ?_ | refine rE ?_ | refine rXx ?_ | refine rR ?_ | refine x2 ?_ | refine x3 ?_ | refine x4 ?_ | refine r2 ?_ | refine r3 ?_ | refine r4 ?_
          exact hno (fun h => by simp only [refTest, k1, k2, k3, k4, k5, n0, l1] at h; cases h.2)
        · try dsimp only
          repeat first | ((first | (with_reducible first | refine sS ?_ | refine sA ?_ | refine sC ?_) | (with_reducible refine iT ?_; refine sT rfl ?_) | (with_reducible refine i0 ?_; refine s0 rfl ?_) | (with_reducible refine iO ?_; refine sO rfl ?_)); intro bC bR bU hC hR hU; simp only [go_sem, ↓reduceIte, e1.1, e1.1.symm, f2, f3, f4, k1, k2, k3, k4, k5, n0, l1, wrap_in (show -9223372036854775808 ≤ d + 1 by omega) (show d + 1 ≤ 9223372036854775807 by omega)]; subst hC hR hU) | (with_reducible refine rN ?_; subst hbq) | (with_reducible refine iR ?_; refine rG (by simp only [compL, gtOf, nthDst]; exact rfl) ?_) | (with_reducible refine rB fun cq hcq => ?_; subst hcq) | (with_reducible refine x1 ?_; clear hbq bq) | (with_reducible refine r1 ?_; clear hbq bq) | (with_reducible refine x5 ?_ ?_; focus rfl) | (with_reducible refine iL ?_; refine rL (by rw [Tryz.results90]) fin ?_; simp only [go_sem, ↓reduceIte, aPack, Option.some.injEq, exists_eq_left', e1.1, e1.1.symm, f2, f3, f4, k1, k2, k3, k4, k5, n0, l1, wrap_in (show -9223372036854775808 ≤ d + 1 by omega) (show d + 1 ≤ 9223372036854775807 by omega)]) | with_reducible first | refine nS ?_ | refine nD ?_ | refine rS fun bq hbq => ?_ | refine rK ?_ | refine rE ?_ | refine rXx ?_ | refine rR ?_ | refine x2 ?_ | refine x3 ?_ | refine x4 ?_ | refine r2 ?_ | refine r3 ?_ | refine r4 ?_
          refine run_endcut ?_
          simp only [go_sem, ↓reduceIte, refTest, k1, k2, k3, k4, k5, n0, l1, hi, f2, f3, f4]
    obtain ⟨f3, f4, f7, rfl, hT⟩ := hI
    subst hbq
    have hq := hyes ⟨hg, hT⟩
    generalize hD : inner t.kind d = D at *
    have hDb : 0 ≤ D ∧ D ≤ d + 1 := by rw [← hD]; unfold inner; split <;> omega
    try dsimp only
    repeat first | ((first | (with_reducible first | refine sS ?_ | refine sA ?_ | refine sC ?_) | (with_reducible refine iT ?_; refine sT rfl ?_) | (with_reducible refine i0 ?_; refine s0 rfl ?_) | (with_reducible refine iO ?_; refine sO rfl ?_)); intro bC bR bU hC hR hU; simp only [go_sem, ↓reduceIte, e1.1, e1.1.symm, f3, f4, f7]; subst hC hR hU) | (with_reducible refine rN ?_; subst hbq) | (with_reducible refine iR ?_; refine rG (by simp only [compL, gtOf, nthDst]; exact rfl) ?_) | (with_reducible refine rB fun cq hcq => ?_; subst hcq) | (with_reducible refine x1 ?_; clear hbq bq) | (with_reducible refine r1 ?_; clear hbq bq) | (with_reducible refine x5 ?_ ?_; focus rfl) | (with_reducible refine iL ?_; refine rL (by rw [Tryz.results90]) fin ?_; simp only [go_sem, ↓reduceIte, aPack, Option.some.injEq, exists_eq_left', e1.1, e1.1.symm, f3, f4, f7]) | with_reducible first | refine nS ?_ | refine nD ?_ | refine rS fun bq hbq => ?_ | refine rK ?_ | refine rE ?_ | refine rXx ?_ | refine rR ?_ | refine x2 ?_ | refine x3 ?_ | refine x4 ?_ | refine r2 ?_ | refine r3 ?_ | refine r4 ?_
    refine run_loop (fun k τ h' => ∃ i : Nat, k + i = t.args.length ∧ τ 3 = .ptr a 0 ∧ τ 4 = .ptr b 0 ∧ τ 7 = .int .i64 D ∧ τ 9 = .int .i64 i ∧ h' = upd (upd h a (some (.cells [.list z [] 0 tk] 24))) b (some (.cells (cellsT t) 27)) ∧ fits0L (t.args.drop i) D = fits0L t.args D) t.args.length ?_ ?_
    · exact ⟨0, rfl, f3, f4, f7, rfl, rfl, rfl⟩
    · intro c hc k τ h' hI
      obtain ⟨i, hk, f3, f4, f7, f9, rfl, hix⟩ := hI
      subst hc
      by_cases hi : i < t.args.length
      · obtain ⟨u, hu⟩ : ∃ u, t.args[i]? = some u := ⟨_, List.getElem?_eq_getElem hi⟩
        obtain ⟨r, hr⟩ := encs_at t.args i hu
        have hsz := size_arg t i hu
        have hdrop : t.args.drop i = u :: t.args.drop (i + 1) := by
          rw [List.drop_eq_getElem_cons hi]
          rw [List.getElem?_eq_getElem hi] at hu; injection hu with hu; rw [hu]
        rw [hdrop, fits0L] at hix
        try dsimp only
        repeat first | ((first | (with_reducible first | refine sS ?_ | refine sA ?_ | refine sC ?_) | (with_reducible refine iT ?_; refine sT rfl ?_) | (with_reducible refine i0 ?_; refine s0 rfl ?_) | (with_reducible refine iO ?_; refine sO rfl ?_)); intro bC bR bU hC hR hU; simp only [go_sem, ↓reduceIte, e1.1, e1.1.symm, f3, f4, f7, f9, hi, hr]; subst hC hR hU) | (with_reducible refine rN ?_; subst hbq) | (with_reducible refine iR ?_; refine rG (by simp only [compL, gtOf, nthDst]; exact rfl) ?_) | (with_reducible refine rB fun cq hcq => ?_; subst hcq) | (with_reducible refine x1 ?_; clear hbq bq) | (with_reducible refine r1 ?_; clear hbq bq) | (with_reducible refine x5 ?_ ?_; focus rfl) | (with_reducible refine iL ?_; refine rL (by rw [Tryz.results90]) fin ?_; simp only [go_sem, ↓reduceIte, aPack, Option.some.injEq, exists_eq_left', e1.1, e1.1.symm, f3, f4, f7, f9, hi, hr]) | with_reducible first | refine nS ?_ | refine nD ?_ | refine rS fun bq hbq => ?_ | refine rK ?_ | refine rE ?_ | refine rXx ?_ | refine rR ?_ | refine x2 ?_ | refine x3 ?_ | refine x4 ?_ | refine r2 ?_ | refine r3 ?_ | refine r4 ?_
        repeat with_reducible refine run_seq fun bq hbq => ?_
        refine run_draw (.take 0 (.take 1 (.take 2 (.take 3 (.take 4 (.take 5 (.take 6 (.one 7 [2] (.take 8 (.done)))))))))) (by kernel_rfl) (by simp only [compL, gtOf, nthDst]; exact rfl) ?_
        try dsimp only
        repeat first | ((first | (with_reducible first | refine sS ?_ | refine sA ?_ | refine sC ?_) | (with_reducible refine iT ?_; refine sT rfl ?_) | (with_reducible refine i0 ?_; refine s0 rfl ?_) | (with_reducible refine iO ?_; refine sO rfl ?_)); intro bC bR bU hC hR hU; simp only [go_sem, ↓reduceIte, e1.1, e1.1.symm, f3, f4, f7, f9, hi, hr]; subst hC hR hU) | (with_reducible refine rN ?_; subst hbq) | (with_reducible refine iR ?_; refine rG (by simp only [compL, gtOf, nthDst]; exact rfl) ?_) | (with_reducible refine rB fun cq hcq => ?_; subst hcq) | (with_reducible refine x1 ?_; clear hbq bq) | (with_reducible refine r1 ?_; clear hbq bq) | (with_reducible refine x5 ?_ ?_; focus rfl) | (with_reducible refine iL ?_; refine rL (by rw [Tryz.results90]) fin ?_; simp only [go_sem, ↓reduceIte, aPack, Option.some.injEq, exists_eq_left', e1.1, e1.1.symm, f3, f4, f7, f9, hi, hr]) | with_reducible first | refine nS ?_ | refine nD ?_ | refine rS fun bq hbq => ?_ | refine rK ?_ | refine rE ?_ | refine rXx ?_ | refine rR ?_ | refine x2 ?_ | refine x3 ?_ | refine x4 ?_ | refine r2 ?_ | refine r3 ?_ | refine r4 ?_
        refine ih u D _ _ (by omega) (by omega) (by omega) ?_
        cases hf : fits0F u D
        · rw [hf, Bool.false_and] at hix
          try dsimp only
          repeat first | ((first | (with_reducible first | refine sS ?_ | refine sA ?_ | refine sC ?_) | (with_reducible refine iT ?_; refine sT rfl ?_) | (with_reducible refine i0 ?_; refine s0 rfl ?_) | (with_reducible refine iO ?_; refine sO rfl ?_)); intro bC bR bU hC hR hU; simp only [go_sem, ↓reduceIte, e1.1, e1.1.symm, f3, f4, f7, f9, hi, hr, hf]; subst hC hR hU) | (with_reducible refine rN ?_; subst hbq) | (with_reducible refine iR ?_; refine rG (by simp only [compL, gtOf, nthDst]; exact rfl) ?_) | (with_reducible refine rB fun cq hcq => ?_; subst hcq) | (with_reducible refine x1 ?_; clear hbq bq) | (with_reducible refine r1 ?_; clear hbq bq) | (with_reducible refine x5 ?_ ?_; focus rfl) | (with_reducible refine iL ?_; refine rL (by rw [Tryz.results90]) fin ?_; simp only [go_sem, ↓reduceIte, aPack, Option.some.injEq, exists_eq_left', e1.1, e1.1.symm, f3, f4, f7, f9, hi, hr, hf]) | with_reducible first | refine nS ?_ | refine nD ?_ | refine rS fun bq hbq => ?_ | refine rK ?_ | refine rE ?_ | refine rXx ?_ | refine rR ?_ | refine x2 ?_ | refine x3 ?_ | refine x4 ?_ | refine r2 ?_ | refine r3 ?_ | refine r4 ?_
          rw [hix]; exact hq
        · rw [hf, Bool.true_and] at hix
          try dsimp only
          repeat first | ((first | (with_reducible first | refine sS ?_ | refine sA ?_ | refine sC ?_) | (with_reducible refine iT ?_; refine sT rfl ?_) | (with_reducible refine i0 ?_; refine s0 rfl ?_) | (with_reducible refine iO ?_; refine sO rfl ?_)); intro bC bR bU hC hR hU; simp only [go_sem, ↓reduceIte, e1.1, e1.1.symm, f3, f4, f7, f9, hi, hr, hf, wrap_in (show -9223372036854775808 ≤ (i : Int) + 1 by omega) (show (i : Int) + 1 ≤ 9223372036854775807 by omega)]; subst hC hR hU) | (with_reducible refine rN ?_; subst hbq) | (with_reducible refine iR ?_; refine rG (by simp only [compL, gtOf, nthDst]; exact rfl) ?_) | (with_reducible refine rB fun cq hcq => ?_; subst hcq) | (with_reducible refine x1 ?_; clear hbq bq) | (with_reducible refine r1 ?_; clear hbq bq) | (with_reducible refine x5 ?_ ?_; focus rfl) | (with_reducible refine iL ?_; refine rL (by rw [Tryz.results90]) fin ?_; simp only [go_sem, ↓reduceIte, aPack, Option.some.injEq, exists_eq_left', e1.1, e1.1.symm, f3, f4, f7, f9, hi, hr, hf, wrap_in (show -9223372036854775808 ≤ (i : Int) + 1 by omega) (show (i : Int) + 1 ≤ 9223372036854775807 by omega)]) | with_reducible first | refine nS ?_ | refine nD ?_ | refine rS fun bq hbq => ?_ | refine rK ?_ | refine rE ?_ | refine rXx ?_ | refine rR ?_ | refine x2 ?_ | refine x3 ?_ | refine x4 ?_ | refine r2 ?_ | refine r3 ?_ | refine r4 ?_
          refine run_loopN (m := k - 1) (by omega) ⟨i + 1, by omega, ?_⟩
          simp only [go_sem, ↓reduceIte, f3, f4, f7, f9]
          exact ⟨rfl, hix⟩
      · rw [List.drop_eq_nil_of_le (by omega), fits0L] at hix
        try dsimp only
        repeat first | ((first | (with_reducible first | refine sS ?_ | refine sA ?_ | refine sC ?_) | (with_reducible refine iT ?_; refine sT rfl ?_) | (with_reducible refine i0 ?_; refine s0 rfl ?_) | (with_reducible refine iO ?_; refine sO rfl ?_)); intro bC bR bU hC hR hU; simp only [go_sem, ↓reduceIte, e1.1, e1.1.symm, f3, f4, f7, f9, hi]; subst hC hR hU) | (with_reducible refine rN ?_; subst hbq) | (with_reducible refine iR ?_; refine rG (by simp only [compL, gtOf, nthDst]; exact rfl) ?_) | (with_reducible refine rB fun cq hcq => ?_; subst hcq) | (with_reducible refine x1 ?_; clear hbq bq) | (with_reducible refine r1 ?_; clear hbq bq) | (with_reducible refine x5 ?_ ?_; focus rfl) | (with_reducible refine iL ?_; refine rL (by rw [Tryz.results90]) fin ?_; simp only [go_sem, ↓reduceIte, aPack, Option.some.injEq, exists_eq_left', e1.1, e1.1.symm, f3, f4, f7, f9, hi]) | with_reducible first | refine nS ?_ | refine nD ?_ | refine rS fun bq hbq => ?_ | refine rK ?_ | refine rE ?_ | refine rXx ?_ | refine rR ?_ | refine x2 ?_ | refine x3 ?_ | refine x4 ?_ | refine r2 ?_ | refine r3 ?_ | refine r4 ?_
        rw [hix]; exact hq
/- EqualFunc of terms, with a function value that may change what a state tells. -/


def eqSt {σ : Type} (step : σ → Term → Term → Bool × σ) : List Term → List Term → σ → Bool × σ
  | u :: l, m, s => match m with
    | [] => (true, s)
    | v :: m => if (step s u v).1 then eqSt step l m (step s u v).2 else (false, (step s u v).2)
  | [], _, s => (true, s)
/-- What a function value does with two terms. -/
def Steps {σ : Type} (g : FuncId) (first cap : List AV) (l m : List Term) (R : σ → AHeap → Prop) (step : σ → Term → Term → Bool × σ) : Prop :=
  ∀ (i : Nat) (u v : Term) (s : σ), l[i]? = some u → m[i]? = some v → ∀ (h' : AHeap) (Q : AOut → AHeap → Prop), R s h' → (∀ h2, R (step s u v).2 h2 → Q (.ret (.bool (step s u v).1)) h2) → AmCalls Tryz.prog g (first ++ [enc u, enc v] ++ cap) h' Q
theorem equalFunc_am {σ : Type} (l m : List Term) (g : FuncId) (first cap : List AV) (R : σ → AHeap → Prop) (step : σ → Term → Term → Bool × σ) (s0 : σ) (h : AHeap) (Q : AOut → AHeap → Prop) (hl : l.length ≤ 1000000000)
    (hR : ∀ s h' h2, R s h' → HLess h2 h' → R s h2) (hs : Steps g first cap l m R step) (h0 : R s0 h)
    (hn : ¬ l.length = m.length → Q (.ret (.bool false)) h) (hq : l.length = m.length → ∀ h1, R (eqSt step l m s0).2 h1 → ∃ h2, HLess h1 h2 ∧ Q (.ret (.bool (eqSt step l m s0).1)) h2) :
    AmCalls Tryz.prog 100 [.list 4 (encs l) l.length .none, .list 4 (encs m) m.length .none, .func (.func g) first cap] h Q := by
  refine AmCalls.of_sem (fn := Tryz.f100) Tryz.func100 rfl (by kernel_rfl) (by rw [Tryz.ntmps100]; simp) (enters_of Tryz.func100 (by kernel_rfl) (by kernel_rfl)) ?_
  cases hlm : ((l.length : Int) == m.length)
  · try dsimp only
    repeat first | ((first | (with_reducible first | refine sS ?_ | refine sA ?_ | refine sC ?_) | (with_reducible refine iT ?_; refine sT rfl ?_) | (with_reducible refine i0 ?_; refine s0 rfl ?_) | (with_reducible refine iO ?_; refine sO rfl ?_)); intro bC bR bU hC hR hU; simp only [go_sem, ↓reduceIte, hlm]; subst hC hR hU) | (with_reducible refine rN ?_; subst hbq) | (with_reducible refine iR ?_; refine rG (by simp only [compL, gtOf, nthDst]; exact rfl) ?_) | (with_reducible refine rB fun cq hcq => ?_; subst hcq) | (with_reducible refine x1 ?_; clear hbq bq) | (with_reducible refine r1 ?_; clear hbq bq) | (with_reducible refine x5 ?_ ?_; focus rfl) | (with_reducible refine iL ?_; refine rL (by rw [Tryz.results100]) (HLess.refl _) ?_; simp only [go_sem, ↓reduceIte, aPack, Option.some.injEq, exists_eq_left', hlm]) | with_reducible first | refine nS ?_ | refine nD ?_ | refine rS fun bq hbq => ?_ | refine rK ?_ | refine rE ?_ | refine rXx ?_ | refine rR ?_ | refine x2 ?_ | refine x3 ?_ | refine x4 ?_ | refine r2 ?_ | refine r3 ?_ | refine r4 ?_
    exact hn (by simp only [beq_eq_false_iff_ne] at hlm; omega)
  · have hlm' : l.length = m.length := by simp only [beq_iff_eq] at hlm; omega
    have hq := hq hlm'
    try dsimp only
    repeat first | ((first | (with_reducible first | refine sS ?_ | refine sA ?_ | refine sC ?_) | (with_reducible refine iT ?_; refine sT rfl ?_) | (with_reducible refine i0 ?_; refine s0 rfl ?_) | (with_reducible refine iO ?_; refine sO rfl ?_)); intro bC bR bU hC hR hU; simp only [go_sem, ↓reduceIte, hlm]; subst hC hR hU) | (with_reducible refine rN ?_; subst hbq) | (with_reducible refine iR ?_; refine rG (by simp only [compL, gtOf, nthDst]; exact rfl) ?_) | (with_reducible refine rB fun cq hcq => ?_; subst hcq) | (with_reducible refine x1 ?_; clear hbq bq) | (with_reducible refine r1 ?_; clear hbq bq) | (with_reducible refine x5 ?_ ?_; focus rfl) | (with_reducible refine iL ?_; refine rL (by rw [Tryz.results100]) (HLess.refl _) ?_; simp only [go_sem, ↓reduceIte, aPack, Option.some.injEq, exists_eq_left', hlm]) | with_reducible first | refine nS ?_ | refine nD ?_ | refine rS fun bq hbq => ?_ | refine rK ?_ | refine rE ?_ | refine rXx ?_ | refine rR ?_ | refine x2 ?_ | refine x3 ?_ | refine x4 ?_ | refine r2 ?_ | refine r3 ?_ | refine r4 ?_
    refine run_loop (fun k τ h' => ∃ (i : Nat) (s : σ), k + i = l.length ∧ τ 1 = .list 4 (encs m) m.length .none ∧ τ 2 = .func (.func g) first cap ∧ τ 15 = .list 4 (encs l) l.length .none ∧ τ 16 = .int .i64 l.length ∧ τ 17 = .int .i64 i ∧ R s h' ∧ eqSt step (l.drop i) (m.drop i) s = eqSt step l m s0) l.length ?_ ?_
    · exact ⟨0, s0, rfl, rfl, rfl, rfl, rfl, rfl, h0, rfl⟩
    · intro c hc k τ h' hI
      obtain ⟨i, s, hk, f1, f2, f15, f16, f17, hRs, hix⟩ := hI
      subst hc
      by_cases hi : i < l.length
      · have hd : decide (i < l.length) = true := by simpa using hi
        have him : i < m.length := by omega
        obtain ⟨u, hu⟩ : ∃ u, l[i]? = some u := ⟨_, List.getElem?_eq_getElem hi⟩
        obtain ⟨v, hv⟩ : ∃ v, m[i]? = some v := ⟨_, List.getElem?_eq_getElem him⟩
        obtain ⟨r, hr⟩ := encs_at l i hu
        obtain ⟨r2, hr2⟩ := encs_at m i hv
        have hdrop : l.drop i = u :: l.drop (i + 1) := by
          rw [List.drop_eq_getElem_cons hi]
          rw [List.getElem?_eq_getElem hi] at hu; injection hu with hu; rw [hu]
        have hdrop2 : m.drop i = v :: m.drop (i + 1) := by
          rw [List.drop_eq_getElem_cons him]
          rw [List.getElem?_eq_getElem him] at hv; injection hv with hv; rw [hv]
        rw [hdrop, hdrop2, eqSt] at hix
        try dsimp only
        repeat first | ((first | (with_reducible first | refine sS ?_ | refine sA ?_ | refine sC ?_) | (with_reducible refine iT ?_; refine sT rfl ?_) | (with_reducible refine i0 ?_; refine s0 rfl ?_) | (with_reducible refine iO ?_; refine sO rfl ?_)); intro bC bR bU hC hR hU; simp only [go_sem, ↓reduceIte, f1, f2, f15, f16, f17, hd, hi, hr]; subst hC hR hU) | (with_reducible refine rN ?_; subst hbq) | (with_reducible refine iR ?_; refine rG (by simp only [compL, gtOf, nthDst]; exact rfl) ?_) | (with_reducible refine rB fun cq hcq => ?_; subst hcq) | (with_reducible refine x1 ?_; clear hbq bq) | (with_reducible refine r1 ?_; clear hbq bq) | (with_reducible refine x5 ?_ ?_; focus rfl) | (with_reducible refine iL ?_; refine rL (by rw [Tryz.results100]) (HLess.refl _) ?_; simp only [go_sem, ↓reduceIte, aPack, Option.some.injEq, exists_eq_left', f1, f2, f15, f16, f17, hd, hi, hr]) | with_reducible first | refine nS ?_ | refine nD ?_ | refine rS fun bq hbq => ?_ | refine rK ?_ | refine rE ?_ | refine rXx ?_ | refine rR ?_ | refine x2 ?_ | refine x3 ?_ | refine x4 ?_ | refine r2 ?_ | refine r3 ?_ | refine r4 ?_
        intro p hp
        try dsimp only
        repeat first | ((first | (with_reducible first | refine sS ?_ | refine sA ?_ | refine sC ?_) | (with_reducible refine iT ?_; refine sT rfl ?_) | (with_reducible refine i0 ?_; refine s0 rfl ?_) | (with_reducible refine iO ?_; refine sO rfl ?_)); intro bC bR bU hC hR hU; simp only [go_sem, ↓reduceIte, f1, f2, f15, f16, f17, hi, him, hr, hr2]; subst hC hR hU) | (with_reducible refine rN ?_; subst hbq) | (with_reducible refine iR ?_; refine rG (by simp only [compL, gtOf, nthDst]; exact rfl) ?_) | (with_reducible refine rB fun cq hcq => ?_; subst hcq) | (with_reducible refine x1 ?_; clear hbq bq) | (with_reducible refine r1 ?_; clear hbq bq) | (with_reducible refine x5 ?_ ?_; focus rfl) | (with_reducible refine iL ?_; refine rL (by rw [Tryz.results100]) (HLess.refl _) ?_; simp only [go_sem, ↓reduceIte, aPack, Option.some.injEq, exists_eq_left', f1, f2, f15, f16, f17, hi, him, hr, hr2]) | with_reducible first | refine nS ?_ | refine nD ?_ | refine rS fun bq hbq => ?_ | refine rK ?_ | refine rE ?_ | refine rXx ?_ | refine rR ?_ | refine x2 ?_ | refine x3 ?_ | refine x4 ?_ | refine r2 ?_ | refine r3 ?_ | refine r4 ?_
        intro q hq'
        have hne := fresh_if hq'
        try dsimp only
        repeat first | ((first | (with_reducible first | refine sS ?_ | refine sA ?_ | refine sC ?_) | (with_reducible refine iT ?_; refine sT rfl ?_) | (with_reducible refine i0 ?_; refine s0 rfl ?_) | (with_reducible refine iO ?_; refine sO rfl ?_)); intro bC bR bU hC hR hU; simp only [go_sem, ↓reduceIte, f1, f2, f15, f16, f17, hne.1, hne.1.symm]; subst hC hR hU) | (with_reducible refine rN ?_; subst hbq) | (with_reducible refine iR ?_; refine rG (by simp only [compL, gtOf, nthDst]; exact rfl) ?_) | (with_reducible refine rB fun cq hcq => ?_; subst hcq) | (with_reducible refine x1 ?_; clear hbq bq) | (with_reducible refine r1 ?_; clear hbq bq) | (with_reducible refine x5 ?_ ?_; focus rfl) | (with_reducible refine iL ?_; refine rL (by rw [Tryz.results100]) (HLess.refl _) ?_; simp only [go_sem, ↓reduceIte, aPack, Option.some.injEq, exists_eq_left', f1, f2, f15, f16, f17, hne.1, hne.1.symm]) | with_reducible first | refine nS ?_ | refine nD ?_ | refine rS fun bq hbq => ?_ | refine rK ?_ | refine rE ?_ | refine rXx ?_ | refine rR ?_ | refine x2 ?_ | refine x3 ?_ | refine x4 ?_ | refine r2 ?_ | refine r3 ?_ | refine r4 ?_
        refine hs i u v s hu hv _ _ (hR _ _ _ hRs ?_) ?_
        · exact ((HLess.refl h').new hp |>.new hne.2)
        · intro h2 hR2
          cases hb : (step s u v).1
          · rw [if_neg (by rw [hb]; decide)] at hix
            rw [← hix] at hq
            obtain ⟨h3, hl3, hq3⟩ := hq h2 hR2
            try dsimp only
            repeat first | ((first | (with_reducible first | refine sS ?_ | refine sA ?_ | refine sC ?_) | (with_reducible refine iT ?_; refine sT rfl ?_) | (with_reducible refine i0 ?_; refine s0 rfl ?_) | (with_reducible refine iO ?_; refine sO rfl ?_)); intro bC bR bU hC hR hU; simp only [go_sem, ↓reduceIte, f1, f2, f15, f16, f17, hb]; subst hC hR hU) | (with_reducible refine rN ?_; subst hbq) | (with_reducible refine iR ?_; refine rG (by simp only [compL, gtOf, nthDst]; exact rfl) ?_) | (with_reducible refine rB fun cq hcq => ?_; subst hcq) | (with_reducible refine x1 ?_; clear hbq bq) | (with_reducible refine r1 ?_; clear hbq bq) | (with_reducible refine x5 ?_ ?_; focus rfl) | (with_reducible refine iL ?_; refine rL (by rw [Tryz.results100]) hl3 ?_; simp only [go_sem, ↓reduceIte, aPack, Option.some.injEq, exists_eq_left', f1, f2, f15, f16, f17, hb]) | with_reducible first | refine nS ?_ | refine nD ?_ | refine rS fun bq hbq => ?_ | refine rK ?_ | refine rE ?_ | refine rXx ?_ | refine rR ?_ | refine x2 ?_ | refine x3 ?_ | refine x4 ?_ | refine r2 ?_ | refine r3 ?_ | refine r4 ?_
            exact hq3
          · rw [if_pos hb] at hix
            try dsimp only
            repeat first | ((first | (with_reducible first | refine sS ?_ | refine sA ?_ | refine sC ?_) | (with_reducible refine iT ?_; refine sT rfl ?_) | (with_reducible refine i0 ?_; refine s0 rfl ?_) | (with_reducible refine iO ?_; refine sO rfl ?_)); intro bC bR bU hC hR hU; simp only [go_sem, ↓reduceIte, f1, f2, f15, f16, f17, hb, wrap_in (show -9223372036854775808 ≤ (i : Int) + 1 by omega) (show (i : Int) + 1 ≤ 9223372036854775807 by omega)]; subst hC hR hU) | (with_reducible refine rN ?_; subst hbq) | (with_reducible refine iR ?_; refine rG (by simp only [compL, gtOf, nthDst]; exact rfl) ?_) | (with_reducible refine rB fun cq hcq => ?_; subst hcq) | (with_reducible refine x1 ?_; clear hbq bq) | (with_reducible refine r1 ?_; clear hbq bq) | (with_reducible refine x5 ?_ ?_; focus rfl) | (with_reducible refine iL ?_; refine rL (by rw [Tryz.results100]) (HLess.refl _) ?_; simp only [go_sem, ↓reduceIte, aPack, Option.some.injEq, exists_eq_left', f1, f2, f15, f16, f17, hb, wrap_in (show -9223372036854775808 ≤ (i : Int) + 1 by omega) (show (i : Int) + 1 ≤ 9223372036854775807 by omega)]) | with_reducible first | refine nS ?_ | refine nD ?_ | refine rS fun bq hbq => ?_ | refine rK ?_ | refine rE ?_ | refine rXx ?_ | refine rR ?_ | refine x2 ?_ | refine x3 ?_ | refine x4 ?_ | refine r2 ?_ | refine r3 ?_ | refine r4 ?_
            refine run_loopN (m := k - 1) (by omega) ⟨i + 1, (step s u v).2, by omega, ?_⟩
            simp only [go_sem, ↓reduceIte, f1, f2, f15, f16, f17]
            exact ⟨rfl, hR2, hix⟩
      · have hd : decide (i < l.length) = false := by simpa using hi
        rw [List.drop_eq_nil_of_le (by omega), eqSt] at hix
        rw [← hix] at hq
        obtain ⟨h3, hl3, hq3⟩ := hq h' hRs
        try dsimp only
        repeat first | ((first | (with_reducible first | refine sS ?_ | refine sA ?_ | refine sC ?_) | (with_reducible refine iT ?_; refine sT rfl ?_) | (with_reducible refine i0 ?_; refine s0 rfl ?_) | (with_reducible refine iO ?_; refine sO rfl ?_)); intro bC bR bU hC hR hU; simp only [go_sem, ↓reduceIte, f1, f2, f15, f16, f17, hd]; subst hC hR hU) | (with_reducible refine rN ?_; subst hbq) | (with_reducible refine iR ?_; refine rG (by simp only [compL, gtOf, nthDst]; exact rfl) ?_) | (with_reducible refine rB fun cq hcq => ?_; subst hcq) | (with_reducible refine x1 ?_; clear hbq bq) | (with_reducible refine r1 ?_; clear hbq bq) | (with_reducible refine x5 ?_ ?_; focus rfl) | (with_reducible refine iL ?_; refine rL (by rw [Tryz.results100]) hl3 ?_; simp only [go_sem, ↓reduceIte, aPack, Option.some.injEq, exists_eq_left', f1, f2, f15, f16, f17, hd]) | with_reducible first | refine nS ?_ | refine nD ?_ | refine rS fun bq hbq => ?_ | refine rK ?_ | refine rE ?_ | refine rXx ?_ | refine rR ?_ | refine x2 ?_ | refine x3 ?_ | refine x4 ?_ | refine r2 ?_ | refine r3 ?_ | refine r4 ?_
        exact hq3
/- sameTerm. -/


theorem eqSt_same : ∀ l m : List Term, (eqSt (fun (_ : Unit) u v => (sameF u v, ())) l m ()).1 = sameL l m
  | [], m => by rw [eqSt, sameL]
  | u :: l, [] => by rw [eqSt, sameL]
  | u :: l, v :: m => by
    rw [eqSt, sameL]
    simp only
    cases sameF u v
    · rfl
    · rw [if_pos rfl, Bool.true_and]; exact eqSt_same l m
theorem sameTerm_am : ∀ (s : Nat) (a b : Term) (h : AHeap) (Q : AOut → AHeap → Prop), a.size ≤ s → a.size ≤ 1000000000 → Q (.ret (.bool (sameF a b))) h → AmCalls Tryz.prog 97 [enc a, enc b] h Q := by
  intro s
  induction s with
  | zero => intro t m h Q ht; obtain ⟨a, b, c, l⟩ := t; rw [Term.size] at ht; omega
  | succ s ih =>
    intro a b h Q ht htb hq
    have hlen := length_args a
    rw [sameF_eq] at hq
    refine AmCalls.of_sem (fn := Tryz.f97) Tryz.func97 rfl (by kernel_rfl) (by rw [Tryz.ntmps97]; simp) (enters_of Tryz.func97 (by kernel_rfl) (by kernel_rfl)) ?_
    try dsimp only
    repeat first | ((first | (with_reducible first | refine sS ?_ | refine sA ?_ | refine sC ?_) | (with_reducible refine iT ?_; refine sT rfl ?_) | (with_reducible refine i0 ?_; refine s0 rfl ?_) | (with_reducible refine iO ?_; refine sO rfl ?_)); intro bC bR bU hC hR hU; simp only [go_sem, ↓reduceIte]; subst hC hR hU) | (with_reducible refine rN ?_; subst hbq) | (with_reducible refine iR ?_; refine rG (by simp only [compL, gtOf, nthDst]; exact rfl) ?_) | (with_reducible refine rB fun cq hcq => ?_; subst hcq) | (with_reducible refine x1 ?_; clear hbq bq) | (with_reducible refine r1 ?_; clear hbq bq) | (with_reducible refine x5 ?_ ?_; focus rfl) | (with_reducible refine iL ?_; refine rL (by rw [Tryz.results97]) (HLess.refl _) ?_; simp only [go_sem, ↓reduceIte, aPack, Option.some.injEq, exists_eq_left']) | with_reducible first | refine nS ?_ | refine nD ?_ | refine rS fun bq hbq => ?_ | refine rK ?_ | refine rE ?_ | refine rXx ?_ | refine rR ?_ | refine x2 ?_ | refine x3 ?_ | refine x4 ?_ | refine r2 ?_ | refine r3 ?_ | refine r4 ?_
    intro p hp
    try dsimp only
    repeat first | ((first | (with_reducible first | refine sS ?_ | refine sA ?_ | refine sC ?_) | (with_reducible refine iT ?_; refine sT rfl ?_) | (with_reducible refine i0 ?_; refine s0 rfl ?_) | (with_reducible refine iO ?_; refine sO rfl ?_)); intro bC bR bU hC hR hU; simp only [go_sem, ↓reduceIte]; subst hC hR hU) | (with_reducible refine rN ?_; subst hbq) | (with_reducible refine iR ?_; refine rG (by simp only [compL, gtOf, nthDst]; exact rfl) ?_) | (with_reducible refine rB fun cq hcq => ?_; subst hcq) | (with_reducible refine x1 ?_; clear hbq bq) | (with_reducible refine r1 ?_; clear hbq bq) | (with_reducible refine x5 ?_ ?_; focus rfl) | (with_reducible refine iL ?_; refine rL (by rw [Tryz.results97]) (HLess.refl _) ?_; simp only [go_sem, ↓reduceIte, aPack, Option.some.injEq, exists_eq_left']) | with_reducible first | refine nS ?_ | refine nD ?_ | refine rS fun bq hbq => ?_ | refine rK ?_ | refine rE ?_ | refine rXx ?_ | refine rR ?_ | refine x2 ?_ | refine x3 ?_ | refine x4 ?_ | refine r2 ?_ | refine r3 ?_ | refine r4 ?_
    intro q hq'
    have e := fresh_if hq'
    have fin : HLess (upd (upd h p (some (AObj.cells (cellsT a) 27))) q (some (AObj.cells (cellsT b) 27))) h := (HLess.refl h).new hp |>.new e.2
    cases hk : (a.kind == b.kind)
    · try dsimp only
      repeat first | ((first | (with_reducible first | refine sS ?_ | refine sA ?_ | refine sC ?_) | (with_reducible refine iT ?_; refine sT rfl ?_) | (with_reducible refine i0 ?_; refine s0 rfl ?_) | (with_reducible refine iO ?_; refine sO rfl ?_)); intro bC bR bU hC hR hU; simp only [go_sem, ↓reduceIte, e.1, e.1.symm, hk]; subst hC hR hU) | (with_reducible refine rN ?_; subst hbq) | (with_reducible refine iR ?_; refine rG (by simp only [compL, gtOf, nthDst]; exact rfl) ?_) | (with_reducible refine rB fun cq hcq => ?_; subst hcq) | (with_reducible refine x1 ?_; clear hbq bq) | (with_reducible refine r1 ?_; clear hbq bq) | (with_reducible refine x5 ?_ ?_; focus rfl) | (with_reducible refine iL ?_; refine rL (by rw [Tryz.results97]) fin ?_; simp only [go_sem, ↓reduceIte, aPack, Option.some.injEq, exists_eq_left', e.1, e.1.symm, hk]) | with_reducible first | refine nS ?_ | refine nD ?_ | refine rS fun bq hbq => ?_ | refine rK ?_ | refine rE ?_ | refine rXx ?_ | refine rR ?_ | refine x2 ?_ | refine x3 ?_ | refine x4 ?_ | refine r2 ?_ | refine r3 ?_ | refine r4 ?_
      exact ret_as (by simp only [hk, Bool.false_and]) hq
    cases hn : (a.n == b.n)
    · try dsimp only
      repeat first | ((first | (with_reducible first | refine sS ?_ | refine sA ?_ | refine sC ?_) | (with_reducible refine iT ?_; refine sT rfl ?_) | (with_reducible refine i0 ?_; refine s0 rfl ?_) | (with_reducible refine iO ?_; refine sO rfl ?_)); intro bC bR bU hC hR hU; simp only [go_sem, ↓reduceIte, e.1, e.1.symm, hk, hn]; subst hC hR hU) | (with_reducible refine rN ?_; subst hbq) | (with_reducible refine iR ?_; refine rG (by simp only [compL, gtOf, nthDst]; exact rfl) ?_) | (with_reducible refine rB fun cq hcq => ?_; subst hcq) | (with_reducible refine x1 ?_; clear hbq bq) | (with_reducible refine r1 ?_; clear hbq bq) | (with_reducible refine x5 ?_ ?_; focus rfl) | (with_reducible refine iL ?_; refine rL (by rw [Tryz.results97]) fin ?_; simp only [go_sem, ↓reduceIte, aPack, Option.some.injEq, exists_eq_left', e.1, e.1.symm, hk, hn]) | with_reducible first | refine nS ?_ | refine nD ?_ | refine rS fun bq hbq => ?_ | refine rK ?_ | refine rE ?_ | refine rXx ?_ | refine rR ?_ | refine x2 ?_ | refine x3 ?_ | refine x4 ?_ | refine r2 ?_ | refine r3 ?_ | refine r4 ?_
      exact ret_as (by simp only [hk, hn, Bool.false_and, Bool.and_false]) hq
    cases hs : (a.name.toList == b.name.toList)
    · try dsimp only
      repeat first | ((first | (with_reducible first | refine sS ?_ | refine sA ?_ | refine sC ?_) | (with_reducible refine iT ?_; refine sT rfl ?_) | (with_reducible refine i0 ?_; refine s0 rfl ?_) | (with_reducible refine iO ?_; refine sO rfl ?_)); intro bC bR bU hC hR hU; simp only [go_sem, ↓reduceIte, e.1, e.1.symm, hk, hn, hs]; subst hC hR hU) | (with_reducible refine rN ?_; subst hbq) | (with_reducible refine iR ?_; refine rG (by simp only [compL, gtOf, nthDst]; exact rfl) ?_) | (with_reducible refine rB fun cq hcq => ?_; subst hcq) | (with_reducible refine x1 ?_; clear hbq bq) | (with_reducible refine r1 ?_; clear hbq bq) | (with_reducible refine x5 ?_ ?_; focus rfl) | (with_reducible refine iL ?_; refine rL (by rw [Tryz.results97]) fin ?_; simp only [go_sem, ↓reduceIte, aPack, Option.some.injEq, exists_eq_left', e.1, e.1.symm, hk, hn, hs]) | with_reducible first | refine nS ?_ | refine nD ?_ | refine rS fun bq hbq => ?_ | refine rK ?_ | refine rE ?_ | refine rXx ?_ | refine rR ?_ | refine x2 ?_ | refine x3 ?_ | refine x4 ?_ | refine r2 ?_ | refine r3 ?_ | refine r4 ?_
      exact ret_as (by simp only [hk, hn, hs, Bool.false_and, Bool.and_false]) hq
    rw [hk, hn, hs, Bool.true_and, Bool.true_and, Bool.true_and] at hq
    try dsimp only
    repeat first | ((first | (with_reducible first | refine sS ?_ | refine sA ?_ | refine sC ?_) | (with_reducible refine iT ?_; refine sT rfl ?_) | (with_reducible refine i0 ?_; refine s0 rfl ?_) | (with_reducible refine iO ?_; refine sO rfl ?_)); intro bC bR bU hC hR hU; simp only [go_sem, ↓reduceIte, e.1, e.1.symm, hk, hn, hs]; subst hC hR hU) | (with_reducible refine rN ?_; subst hbq) | (with_reducible refine iR ?_; refine rG (by simp only [compL, gtOf, nthDst]; exact rfl) ?_) | (with_reducible refine rB fun cq hcq => ?_; subst hcq) | (with_reducible refine x1 ?_; clear hbq bq) | (with_reducible refine r1 ?_; clear hbq bq) | (with_reducible refine x5 ?_ ?_; focus rfl) | (with_reducible refine iL ?_; refine rL (by rw [Tryz.results97]) fin ?_; simp only [go_sem, ↓reduceIte, aPack, Option.some.injEq, exists_eq_left', e.1, e.1.symm, hk, hn, hs]) | with_reducible first | refine nS ?_ | refine nD ?_ | refine rS fun bq hbq => ?_ | refine rK ?_ | refine rE ?_ | refine rXx ?_ | refine rR ?_ | refine x2 ?_ | refine x3 ?_ | refine x4 ?_ | refine r2 ?_ | refine r3 ?_ | refine r4 ?_
    refine equalFunc_am a.args b.args 97 [] [] (fun _ h' => HLess h' h) (fun (_ : Unit) u v => (sameF u v, ())) () _ _ (by omega) (fun _ _ _ h1 h2 => h2.trans h1) (fun i u v _ hu hv h' Q' hR hQ => ?_) fin (fun hl => ?_) (fun hl h1 hR => ?_)
    · have := size_arg a i hu
      exact ih u v h' Q' (by omega) (by omega) (hQ h' hR)
    · try dsimp only
      repeat first | ((first | (with_reducible first | refine sS ?_ | refine sA ?_ | refine sC ?_) | (with_reducible refine iT ?_; refine sT rfl ?_) | (with_reducible refine i0 ?_; refine s0 rfl ?_) | (with_reducible refine iO ?_; refine sO rfl ?_)); intro bC bR bU hC hR hU; simp only [go_sem, ↓reduceIte, e.1, e.1.symm, hk, hn, hs]; subst hC hR hU) | (with_reducible refine rN ?_; subst hbq) | (with_reducible refine iR ?_; refine rG (by simp only [compL, gtOf, nthDst]; exact rfl) ?_) | (with_reducible refine rB fun cq hcq => ?_; subst hcq) | (with_reducible refine x1 ?_; clear hbq bq) | (with_reducible refine r1 ?_; clear hbq bq) | (with_reducible refine x5 ?_ ?_; focus rfl) | (with_reducible refine iL ?_; refine rL (by rw [Tryz.results97]) fin ?_; simp only [go_sem, ↓reduceIte, aPack, Option.some.injEq, exists_eq_left', e.1, e.1.symm, hk, hn, hs]) | with_reducible first | refine nS ?_ | refine nD ?_ | refine rS fun bq hbq => ?_ | refine rK ?_ | refine rE ?_ | refine rXx ?_ | refine rR ?_ | refine x2 ?_ | refine x3 ?_ | refine x4 ?_ | refine r2 ?_ | refine r3 ?_ | refine r4 ?_
      exact ret_as (by rw [show ((a.args.length : Int) == b.args.length) = false by simp only [beq_eq_false_iff_ne]; omega, Bool.false_and]) hq
    · refine ⟨h, hR, ?_⟩
      rw [show ((a.args.length : Int) == b.args.length) = true by simp only [beq_iff_eq]; omega, Bool.true_and] at hq
      rw [eqSt_same]
      try dsimp only
      repeat first | ((first | (with_reducible first | refine sS ?_ | refine sA ?_ | refine sC ?_) | (with_reducible refine iT ?_; refine sT rfl ?_) | (with_reducible refine i0 ?_; refine s0 rfl ?_) | (with_reducible refine iO ?_; refine sO rfl ?_)); intro bC bR bU hC hR hU; simp only [go_sem, ↓reduceIte, hk, hn, hs]; subst hC hR hU) | (with_reducible refine rN ?_; subst hbq) | (with_reducible refine iR ?_; refine rG (by simp only [compL, gtOf, nthDst]; exact rfl) ?_) | (with_reducible refine rB fun cq hcq => ?_; subst hcq) | (with_reducible refine x1 ?_; clear hbq bq) | (with_reducible refine r1 ?_; clear hbq bq) | (with_reducible refine x5 ?_ ?_; focus rfl) | (with_reducible refine iL ?_; refine rL (by rw [Tryz.results97]) (HLess.refl _) ?_; simp only [go_sem, ↓reduceIte, aPack, Option.some.injEq, exists_eq_left', hk, hn, hs]) | with_reducible first | refine nS ?_ | refine nD ?_ | refine rS fun bq hbq => ?_ | refine rK ?_ | refine rE ?_ | refine rXx ?_ | refine rR ?_ | refine x2 ?_ | refine x3 ?_ | refine x4 ?_ | refine r2 ?_ | refine r3 ?_ | refine r4 ?_
      exact hq
end Go.Proofs.YthkjmiejaoomcaaGreat.Am
