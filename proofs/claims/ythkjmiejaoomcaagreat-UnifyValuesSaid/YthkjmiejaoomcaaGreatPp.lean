/- Part of the proof of a law of layer 5: own texts, joined. -/
import Derived.Test.YthkjmiejaoomcaaGreatPo
import Derived.Test.YthkjmiejaoomcaaGreatPn
import Derived.Test.YthkjmiejaoomcaaGreatPb
import Derived.Test.YthkjmiejaoomcaaGreatPk
import Derived.Test.YthkjmiejaoomcaaGreatPi
import Derived.Test.YthkjmiejaoomcaaGreatPg
set_option linter.unusedVariables false
set_option linter.unusedSimpArgs false
set_option linter.unnecessarySimpa false
namespace Go.Proofs.YthkjmiejaoomcaaGreat.Am
open Go Go.RowKit Go.Proofs
set_option linter.unusedVariables false
set_option linter.unusedSimpArgs false
set_option maxRecDepth 100000
set_option maxHeartbeats 1000000
attribute [local go_sem] cSeq cDr cOne cStays nthCO panK aKind gWanted panC cPanic cOp needsName cStep aop aEval argEnv List.getD_cons_zero List.getD_cons_succ AV.known AV.cells if_true if_false cond_true cond_false aPut true_and and_true ofConst ofLeaf true_imp false_imp true_imp' false_imp' btt btf
  aFieldAt aAssert aLoad aPick aBin aInt aShift aStr unSl aLen aBuiltin Option.map_some Option.map_none upd_same eupd_at Nat.reduceBEq List.drop_zero List.drop_succ_cons List.drop_nil List.take_succ_cons List.take_zero List.head?_cons List.length_cons List.length_nil Nat.reduceAdd Nat.reduceLeDiff Nat.reduceEqDiff List.map_cons List.map_nil Nat.zero_add Nat.add_zero reduceCtorEq Bool.false_eq_true
  aResL aRes1 true_implies false_implies implies_true forall_const and_self Bool.not_true Bool.not_false Bool.cond_self upd_if aExtract aNil aIface aMax aMin aNot List.getElem?_cons_zero List.getElem?_cons_succ aIndexAt aStore aSplice AV.flat List.all_cons List.all_nil Bool.and_true Bool.true_and Bool.and_false Bool.false_and Int.natCast_nonneg Int.ofNat_lt Int.toNat_natCast cCall Nat.le_add_left List.append_nil List.contains_cons List.contains_nil Bool.or_true Bool.or_false Bool.true_or Bool.false_or Nat.reduceBEq List.cons_append List.nil_append
  sz_1 by_1 ag_1 tk_1 ze_1 sz_3 by_3 ag_3 tk_3 ze_3 sz_4 by_4 ag_4 tk_4 ze_4 sz_9 by_9 ag_9 tk_9 ze_9
  sz_20 by_20 ag_20 tk_20 ze_20 sz_22 by_22 ag_22 tk_22 el_22 ze_22 sz_24 by_24 ag_24 tk_24 ze_24 fi_24_0 pl_24 sz_25 by_25
  ag_25 tk_25 el_25 ze_25 sz_27 by_27 ag_27 tk_27 ze_27 fi_27_0 fi_27_1 fi_27_2 fi_27_3 pl_27 sz_30 by_30 ag_30 tk_30 ze_30 sz_34
  by_34 ag_34 tk_34 ze_34 fi_34_0 fi_34_1 fi_34_2 fi_34_3 pl_34 sz_40 by_40 ag_40 tk_40 el_40 ze_40 sz_42 by_42 ag_42 tk_42 ze_42
  fi_42_0 fi_42_1 fi_42_2 pl_42 sz_52 by_52 ag_52 tk_52 ze_52 fi_52_0 fi_52_1 fi_52_2 fi_52_3 pl_52 sz_60 by_60 ag_60 tk_60 ze_60 fi_60_0
  fi_60_1 pl_60 sz_62 by_62 ag_62 tk_62 ze_62 fi_62_0 fi_62_1 fi_62_2 fi_62_3 pl_62 sz_68 by_68 ag_68 tk_68 ze_68 fi_68_0 fi_68_1 pl_68
  sz_70 by_70 ag_70 tk_70 el_70 ze_70 sz_77 by_77 ag_77 tk_77 el_77 ze_77 sz_80 by_80 ag_80 tk_80 ze_80 sz_83 by_83 ag_83
  tk_83 ze_83 fi_83_0 fi_83_1 pl_83 sz_95 by_95 ag_95 tk_95 ze_95 sz_97 by_97 ag_97 tk_97 ze_97 sz_99 by_99 ag_99 tk_99 mp_99
  ze_99 sz_101 by_101 ag_101 tk_101 ze_101 fi_101_0 fi_101_1 fi_101_2 pl_101 sz_104 by_104 ag_104 tk_104 ze_104 sz_106 by_106 ag_106 tk_106 ze_106
  fi_106_0 fi_106_1 fi_106_2 pl_106 sz_108 by_108 ag_108 tk_108 ze_108 sz_109 by_109 ag_109 tk_109 ze_109 sz_110 by_110 ag_110 tk_110 el_110 ze_110
  sz_112 by_112 ag_112 tk_112 ze_112 fi_112_0 fi_112_1 fi_112_2 fi_112_3 pl_112 sz_115 by_115 ag_115 tk_115 ze_115 fi_115_0 fi_115_1 pl_115 sz_121 by_121
  ag_121 tk_121 ze_121 sz_125 by_125 ag_125 tk_125 ze_125 sz_126 by_126 ag_126 tk_126 mp_126 ze_126 sz_128 by_128 ag_128 tk_128 ze_128 fi_128_0
  fi_128_1 fi_128_2 fi_128_3 pl_128 sz_136 by_136 ag_136 tk_136 el_136 ze_136 sz_140 by_140 ag_140 tk_140 mp_140 ze_140 sz_142 by_142 ag_142 tk_142
  ze_142 fi_142_0 fi_142_1 pl_142 sz_144 by_144 ag_144 tk_144 ze_144 sz_145 by_145 ag_145 tk_145 el_145 ze_145 sz_147 by_147 ag_147 tk_147 ze_147
  fi_147_0 fi_147_1 fi_147_2 fi_147_3 pl_147 sz_150 by_150 ag_150 tk_150 ze_150 pl_150 sz_152 by_152 ag_152 tk_152 ze_152 fi_152_0 pl_152 sz_156 by_156
  ag_156 tk_156 ze_156 sz_158 by_158 ag_158 tk_158 ze_158 fi_158_0 fi_158_1 fi_158_2 pl_158 sz_160 by_160 ag_160 tk_160 mp_160 ze_160 sz_162 by_162
  ag_162 tk_162 ze_162 sz_164 by_164 ag_164 tk_164 ze_164 fi_164_0 fi_164_1 fi_164_2 pl_164 sz_167 by_167 ag_167 tk_167 ze_167 fi_167_0 fi_167_1 pl_167
  sz_173 by_173 ag_173 tk_173 el_173 ze_173 sz_189 by_189 ag_189 tk_189 ze_189 sz_198 by_198 ag_198 tk_198 ze_198
  cStays_nil bne decide_true decide_false Nat.mul_one upd_twice beq_self_eq_true Int.reduceBEq Int.reduceLT Int.reduceLE
/- The reference's Up and Put. -/


theorem build27_3V (k n : Int) (s : ByteArray) : aBuild Tryz.prog 27 [(0, .int .i64 k), (1, .int .i64 n), (2, .str s)] = some (.agg [.int .i64 k, .int .i64 n, .str s, .list 0 [] 0 .nil]) := by
  simp only [aBuild, ze_27, pl_27, aFill]
  rfl
theorem encs_appV (l m : List Term) : encs (l ++ m) = encs l ++ encs m := by rw [encs_eq, encs_eq, encs_eq, List.flatMap_append]
theorem encs_oneV (u : Term) : encs [u] = cellsT u := by rw [encs_eq]; simp
theorem le_listV {done : List Term} {i sz : Nat} {tok : Tok} (hdl : done.length = i) (hsz : i = 0 ∨ sz = 4) : LeAV (.list sz (encs done) i tok) (.list 4 (encs done) done.length .none) := by
  subst hdl
  rcases hsz with h0 | rfl
  · have : done = [] := List.eq_nil_of_length_eq_zero h0
    subst this
    intro G W v hr
    rw [encs_nil] at hr ⊢
    exact LeAV.nil _ _ _ G W v hr
  · exact LeAV.list _ _ _ _
/-- A simple term, from within n binders more. -/
theorem up_am (u : Term) (n : Int) (hu : ArgOk 1000000 u) (hn : 0 ≤ n) (hn2 : n ≤ 1000000) (h : AHeap) (Q : AOut → AHeap → Prop) (hq : Q (.ret (enc ⟨u.kind, if u.kind == 2 then u.n + n else u.n, u.name, []⟩)) h) : AmCalls Tryz.prog 165 [enc u, .int .i64 n, .int .i64 0] h Q := by
  have hk := simple_kind hu.1
  obtain ⟨k, m, s, l⟩ := u
  obtain ⟨_, _, hu2, _⟩ := hu
  simp only at hk hu2 hq
  obtain ⟨hk, rfl⟩ := hk
  have k5 : (k == 5) = false := by rcases hk with e | e <;> rw [e] <;> rfl
  refine AmCalls.of_sem (fn := Tryz.f165) Tryz.func165 rfl (by kernel_rfl) (by rw [Tryz.ntmps165]; simp) (enters_of Tryz.func165 (by kernel_rfl) (by kernel_rfl)) ?_
  try dsimp only
  repeat first | ((with_reducible refine sS ?_); intro bC bR bU hC hR hU; simp only [go_sem, ↓reduceIte]; subst hC hR hU) | (with_reducible refine iR ?_; refine rG (by simp only [compL, gtOf, nthDst]; exact rfl) ?_) | with_reducible refine rS fun bq hbq => ?_
  intro p hp
  try dsimp only
  repeat (((with_reducible refine sS ?_); intro bC bR bU hC hR hU; simp only [go_sem, ↓reduceIte]; subst hC hR hU))
  intro q hq'
  have e1 := fresh_if hq'
  try dsimp only
  repeat first | ((with_reducible refine sS ?_); intro bC bR bU hC hR hU; simp only [go_sem, ↓reduceIte, e1.1, e1.1.symm, build27_3V]; subst hC hR hU) | (with_reducible refine rN ?_; subst hbq) | (with_reducible refine iR ?_; refine rG (by simp only [compL, gtOf, nthDst]; exact rfl) ?_) | with_reducible first | refine nS ?_ | refine rS fun bq hbq => ?_
  intro r hr
  have e2 := fresh_if hr
  have e3 := fresh_if e2.2
  have hl0 : HLess (upd (upd (upd h p (some (.cells (cellsT ⟨k, m, s, []⟩) 27))) q (some (.cells [.int .i64 0, .int .i64 0, .str noNameS, .list 0 [] 0 .nil] 27))) r (some (.cells [.int .i64 0, .int .i64 0, .str noNameS, .list 0 [] 0 .nil] 27))) h := (((HLess.refl h).new hp).new e1.2).new e3.2
  have fin := hl0
  have hm : (k == 2) = true → decide (m ≥ 0) = true := fun e => by have := hu2 (by simpa using e); simpa using this.1
  have hw : (k == 2) = true → IntKind.i64.wrap (m + n) = m + n := fun e => by
    have := hu2 (by simpa using e)
    exact wrap_in (by omega) (by omega)
  try dsimp only
  repeat first | ((with_reducible refine sS ?_); intro bC bR bU hC hR hU; simp only [go_sem, ↓reduceIte, e1.1, e1.1.symm, e2.1, e2.1.symm, e3.1, e3.1.symm]; subst hC hR hU) | with_reducible refine nS ?_
  cases hk2 : (k == 2)
  · simp only [hk2, Bool.false_eq_true, if_false] at hq
    try dsimp only
    repeat first | ((with_reducible first | refine sS ?_ | refine sC ?_); intro bC bR bU hC hR hU; simp only [go_sem, ↓reduceIte, e1.1, e1.1.symm, e2.1, e2.1.symm, e3.1, e3.1.symm, hk2, k5]; subst hC hR hU) | (with_reducible refine rN ?_; subst hbq) | (with_reducible refine iR ?_; refine rG (by simp only [compL, gtOf, nthDst]; exact rfl) ?_) | (with_reducible refine rB fun cq hcq => ?_; subst hcq) | with_reducible first | refine nS ?_ | refine rS fun bq hbq => ?_ | refine rK ?_
    refine run_loop (fun kk τ h' => τ 3 = .ptr p 0 ∧ τ 6 = .ptr q 0 ∧ τ 7 = .ptr r 0 ∧ τ 9 = .int .i64 0 ∧ HLess h' h ∧ h' p = some (.cells (cellsT ⟨k, m, s, []⟩) 27) ∧ h' q = some (.cells [.int .i64 0, .int .i64 0, .str noNameS, .list 0 [] 0 .nil] 27) ∧ h' r = some (.cells [.int .i64 k, .int .i64 (m), .str s, .list 0 [] 0 .nil] 27)) 0 ?_ ?_
    · simp only [go_sem, ↓reduceIte, e1.1, e1.1.symm, e2.1, e2.1.symm, e3.1, e3.1.symm]
      exact (((HLess.refl h).new hp).new e1.2).new e3.2
    · intro c hc kk τ h' hI
      obtain ⟨f3, f6, f7, f9, hl', lp, lq, lr⟩ := hI
      subst hc
      try dsimp only
      repeat first | ((with_reducible first | refine sS ?_ | refine sC ?_); intro bC bR bU hC hR hU; simp only [go_sem, ↓reduceIte, f3, f6, f7, f9, lp, lq, lr, e2.1, e2.1.symm, show decide ((0 : Int) < ((0 : Nat) : Int)) = false from rfl]; subst hC hR hU) | (with_reducible refine rN ?_; subst hbq) | (with_reducible refine iR ?_; refine rG (by simp only [compL, gtOf, nthDst]; exact rfl) ?_) | (with_reducible refine x1 ?_; clear hbq bq) | with_reducible first | refine nS ?_ | refine rS fun bq hbq => ?_ | refine rXx ?_ | refine rR ?_ | refine x3 ?_ | refine x4 ?_
      refine last_as (v := enc ⟨k, m, s, []⟩) (by rw [Tryz.results165]) (hl'.new e1.2) ?_ hq
      simp only [go_sem, ↓reduceIte, f6, f7, aPack, Option.some.injEq, exists_eq_left']
      refine LeAV.agg (.cons (LeAV.refl _) (.cons (LeAV.refl _) (.cons (LeAV.refl _) (.cons ?_ .nil))))
      rw [encs_nil]
      exact LeAV.nil _ _ _
  · simp only [hk2, if_true] at hq
    try dsimp only
    repeat first | ((with_reducible first | refine sS ?_ | refine sC ?_); intro bC bR bU hC hR hU; simp only [go_sem, ↓reduceIte, e1.1, e1.1.symm, e2.1, e2.1.symm, e3.1, e3.1.symm, hk2, k5, hm hk2, hw hk2]; subst hC hR hU) | (with_reducible refine rN ?_; subst hbq) | (with_reducible refine iR ?_; refine rG (by simp only [compL, gtOf, nthDst]; exact rfl) ?_) | (with_reducible refine rB fun cq hcq => ?_; subst hcq) | with_reducible first | refine nS ?_ | refine rS fun bq hbq => ?_ | refine rK ?_
    refine run_loop (fun kk τ h' => τ 3 = .ptr p 0 ∧ τ 6 = .ptr q 0 ∧ τ 7 = .ptr r 0 ∧ τ 9 = .int .i64 0 ∧ HLess h' h ∧ h' p = some (.cells (cellsT ⟨k, m, s, []⟩) 27) ∧ h' q = some (.cells [.int .i64 0, .int .i64 0, .str noNameS, .list 0 [] 0 .nil] 27) ∧ h' r = some (.cells [.int .i64 k, .int .i64 (m + n), .str s, .list 0 [] 0 .nil] 27)) 0 ?_ ?_
    · simp only [go_sem, ↓reduceIte, e1.1, e1.1.symm, e2.1, e2.1.symm, e3.1, e3.1.symm]
      exact (((HLess.refl h).new hp).new e1.2).new e3.2
    · intro c hc kk τ h' hI
      obtain ⟨f3, f6, f7, f9, hl', lp, lq, lr⟩ := hI
      subst hc
      try dsimp only
      repeat first | ((with_reducible first | refine sS ?_ | refine sC ?_); intro bC bR bU hC hR hU; simp only [go_sem, ↓reduceIte, f3, f6, f7, f9, lp, lq, lr, e2.1, e2.1.symm, show decide ((0 : Int) < ((0 : Nat) : Int)) = false from rfl]; subst hC hR hU) | (with_reducible refine rN ?_; subst hbq) | (with_reducible refine iR ?_; refine rG (by simp only [compL, gtOf, nthDst]; exact rfl) ?_) | (with_reducible refine x1 ?_; clear hbq bq) | with_reducible first | refine nS ?_ | refine rS fun bq hbq => ?_ | refine rXx ?_ | refine rR ?_ | refine x3 ?_ | refine x4 ?_
      refine last_as (v := enc ⟨k, m + n, s, []⟩) (by rw [Tryz.results165]) (hl'.new e1.2) ?_ hq
      simp only [go_sem, ↓reduceIte, f6, f7, aPack, Option.some.injEq, exists_eq_left']
      refine LeAV.agg (.cons (LeAV.refl _) (.cons (LeAV.refl _) (.cons (LeAV.refl _) (.cons ?_ .nil))))
      rw [encs_nil]
      exact LeAV.nil _ _ _
theorem put_am : ∀ (s : Nat) (t : Term) (us : List Term) (d : Int) (h : AHeap) (Q : AOut → AHeap → Prop), t.size ≤ s → 0 ≤ d → d + t.size ≤ 1000000 → us.length ≤ 8 → (∀ a ∈ us, ArgOk 1000000 a) → fillOk t us.length d = true →
    Q (.ret (enc (filledF t us d))) h → AmCalls Tryz.prog 147 [enc t, .list 4 (encs us) us.length .none, .int .i64 d] h Q := by
  intro s
  induction s with
  | zero => intro t us d h Q ht; obtain ⟨a, b, c, l⟩ := t; rw [Term.size] at ht; omega
  | succ s ih =>
    intro t us d h Q ht hd0 hd1 hus8 hus hok hq
    have hlen := length_args t
    rw [filledF_eq] at hq
    have hokL : fillOkL t.args us.length (inner t.kind d) = true := by obtain ⟨a, b, c, l⟩ := t; rw [fillOk, Bool.and_eq_true] at hok; exact hok.2
    refine AmCalls.of_sem (fn := Tryz.f147) Tryz.func147 rfl (by kernel_rfl) (by rw [Tryz.ntmps147]; simp) (enters_of Tryz.func147 (by kernel_rfl) (by kernel_rfl)) ?_
    try dsimp only
    repeat first | ((with_reducible refine sS ?_); intro bC bR bU hC hR hU; simp only [go_sem, ↓reduceIte]; subst hC hR hU) | (with_reducible refine iR ?_; refine rG (by simp only [compL, gtOf, nthDst]; exact rfl) ?_) | with_reducible refine rS fun bq hbq => ?_
    intro p hp
    try dsimp only
    repeat (((with_reducible refine sS ?_); intro bC bR bU hC hR hU; simp only [go_sem, ↓reduceIte]; subst hC hR hU))
    intro q hq'
    have e1 := fresh_if hq'
    try dsimp only
    repeat first | ((with_reducible refine sS ?_); intro bC bR bU hC hR hU; simp only [go_sem, ↓reduceIte, e1.1, e1.1.symm, build27_3V]; subst hC hR hU) | (with_reducible refine rN ?_; subst hbq) | (with_reducible refine iR ?_; refine rG (by simp only [compL, gtOf, nthDst]; exact rfl) ?_) | with_reducible first | refine nS ?_ | refine rS fun bq hbq => ?_
    intro r hr
    have e2 := fresh_if hr
    have e3 := fresh_if e2.2
    try dsimp only
    repeat first | ((with_reducible refine sS ?_); intro bC bR bU hC hR hU; simp only [go_sem, ↓reduceIte, e1.1, e1.1.symm, e2.1, e2.1.symm, e3.1, e3.1.symm]; subst hC hR hU) | with_reducible refine nS ?_
    refine run_next ?_; subst hbq
    repeat with_reducible refine run_seq fun bq hbq => ?_
    refine run_cutS (fun τ h' => τ 1 = .list 4 (encs us) us.length .none ∧ τ 2 = .int .i64 d ∧ τ 3 = .ptr p 0 ∧ τ 6 = .ptr q 0 ∧ τ 7 = .ptr r 0 ∧ τ 26 = .bool (t.kind == 2 && decide (t.n ≥ d)) ∧ HLess h' h ∧ h' p = some (.cells (cellsT t) 27) ∧ h' q = some (.cells [.int .i64 0, .int .i64 0, .str noNameS, .list 0 [] 0 .nil] 27) ∧ h' r = some (.cells [.int .i64 t.kind, .int .i64 t.n, .str t.name, .list 0 [] 0 .nil] 27)) ?_ fun τ h' hI => ?_
    · cases k2 : (t.kind == 2)
      all_goals
        try dsimp only
        repeat first | ((with_reducible refine sS ?_); intro bC bR bU hC hR hU; simp only [go_sem, ↓reduceIte, e1.1, e1.1.symm, e2.1, e2.1.symm, e3.1, e3.1.symm, k2]; subst hC hR hU) | (with_reducible refine iR ?_; refine rG (by simp only [compL, gtOf, nthDst]; exact rfl) ?_) | with_reducible refine nS ?_
        refine run_endcut ?_
        simp only [go_sem, ↓reduceIte, e1.1, e1.1.symm, e2.1, e2.1.symm, e3.1, e3.1.symm, k2]
        exact (((HLess.refl h).new hp).new e1.2).new e3.2
    obtain ⟨f1, f2, f3, f6, f7, f26, hl', lp, lq, lr⟩ := hI
    subst hbq
    repeat with_reducible refine run_seq fun bq hbq => ?_
    refine run_cutS (fun τ h' => τ 1 = .list 4 (encs us) us.length .none ∧ τ 2 = .int .i64 d ∧ τ 3 = .ptr p 0 ∧ τ 6 = .ptr q 0 ∧ τ 7 = .ptr r 0 ∧ HLess h' h ∧ h' p = some (.cells (cellsT t) 27) ∧ h' q = some (.cells [.int .i64 0, .int .i64 0, .str noNameS, .list 0 [] 0 .nil] 27) ∧ h' r = some (.cells [.int .i64 (putHead t.kind t.n t.name us d).1, .int .i64 (putHead t.kind t.n t.name us d).2.1, .str (putHead t.kind t.n t.name us d).2.2, .list 0 [] 0 .nil] 27)) ?_ fun τ h' hI => ?_
    · cases hv : (t.kind == 2 && decide (t.n ≥ d))
      · rw [hv] at f26
        have hput : putHead t.kind t.n t.name us d = (t.kind, t.n, t.name) := by unfold putHead; rw [hv]; rfl
        try dsimp only
        repeat first | ((with_reducible refine sC ?_); intro bC bR bU hC hR hU; simp only [go_sem, ↓reduceIte, f26]; subst hC hR hU) | with_reducible refine rK ?_
        refine run_endcut ?_
        rw [hput]
        exact ⟨f1, f2, f3, f6, f7, hl', lp, lq, lr⟩
      · rw [hv] at f26
        rw [Bool.and_eq_true] at hv
        have hge : d ≤ t.n := by simpa using hv.2
        have hlt : t.n < d + us.length := by
          obtain ⟨k, n, nm, l⟩ := t
          rw [fillOk, Bool.and_eq_true] at hok
          have := hok.1
          have hv1 : (k == 2) = true := hv.1
          simp only [bne, hv1, Bool.not_true, Bool.false_or, decide_eq_true_eq] at this
          exact this
        obtain ⟨j, hj⟩ : ∃ j : Nat, (us.length : Int) - 1 - (t.n - d) = j := ⟨_, (Int.toNat_of_nonneg (by omega)).symm⟩
        have hjl : j < us.length := by omega
        obtain ⟨u, hu⟩ : ∃ u, us[j]? = some u := ⟨_, List.getElem?_eq_getElem hjl⟩
        obtain ⟨rr, hrr⟩ := encs_at us j hu
        have hum := hus u (List.mem_of_getElem? hu)
        have hput : putHead t.kind t.n t.name us d = (u.kind, (if u.kind == 2 then u.n + d else u.n), u.name) := by
          unfold putHead
          rw [hv.1, hv.2, Bool.and_true, if_pos rfl, hj, Int.toNat_natCast, List.getD_eq_getElem?_getD, hu]
          rfl
        rw [hput]
        try dsimp only
        repeat first | ((with_reducible first | refine sS ?_ | refine sC ?_); intro bC bR bU hC hR hU; simp only [go_sem, ↓reduceIte, f1, f2, f3, f7, f26, lp, wrap_in (show -9223372036854775808 ≤ (us.length : Int) - 1 by omega) (show (us.length : Int) - 1 ≤ 9223372036854775807 by omega), wrap_in (show -9223372036854775808 ≤ t.n - d by omega) (show t.n - d ≤ 9223372036854775807 by omega), hj, wrap_in (show -9223372036854775808 ≤ (j : Int) by omega) (show (j : Int) ≤ 9223372036854775807 by omega), hjl, hrr, show decide ((j : Int) ≥ 0) = true from decide_eq_true (by omega), show decide ((j : Int) < (us.length : Int)) = true from decide_eq_true (by omega)]; subst hC hR hU) | (with_reducible refine rN ?_; subst hbq) | (with_reducible refine iR ?_; refine rG (by simp only [compL, gtOf, nthDst]; exact rfl) ?_) | with_reducible first | refine nS ?_ | refine rS fun bq hbq => ?_
        refine up_am u d hum hd0 (by omega) _ _ ?_
        try dsimp only
        repeat first | ((with_reducible refine sS ?_); intro bC bR bU hC hR hU; simp only [go_sem, ↓reduceIte, f1, f2, f3, f6, f7, lp, lr, e2.1, e2.1.symm, e3.1, e3.1.symm]; subst hC hR hU) | (with_reducible refine rN ?_; subst hbq) | (with_reducible refine iR ?_; refine rG (by simp only [compL, gtOf, nthDst]; exact rfl) ?_) | with_reducible refine nS ?_
        refine run_endcut ?_
        simp only [go_sem, ↓reduceIte, f1, f2, f3, f6, f7, lp, lq, e2.1, e2.1.symm, e3.1, e3.1.symm]
        exact hl'.new e3.2
    clear f1 f2 f3 f6 f7 hl' lp lq lr
    obtain ⟨f1, f2, f3, f6, f7, hl', lp, lq, lr⟩ := hI
    subst hbq
    generalize hD : inner t.kind d = D at hq hokL
    have hDb : 0 ≤ D ∧ D ≤ d + 1 := by rw [← hD]; unfold inner; split <;> omega
    repeat with_reducible refine run_seq fun bq hbq => ?_
    refine run_region (by simp only [compL, gtOf, nthDst]; exact rfl) ?_
    try dsimp only
    repeat first | ((with_reducible refine sS ?_); intro bC bR bU hC hR hU; simp only [go_sem, ↓reduceIte, f2]; subst hC hR hU) | with_reducible refine nS ?_
    refine run_next ?_; subst hbq
    refine run_cut (fun τ h' => τ 1 = .list 4 (encs us) us.length .none ∧ τ 3 = .ptr p 0 ∧ τ 6 = .ptr q 0 ∧ τ 7 = .ptr r 0 ∧ τ 9 = .int .i64 D ∧ HLess h' h ∧ h' p = some (.cells (cellsT t) 27) ∧ h' q = some (.cells [.int .i64 0, .int .i64 0, .str noNameS, .list 0 [] 0 .nil] 27) ∧ h' r = some (.cells [.int .i64 (putHead t.kind t.n t.name us d).1, .int .i64 (putHead t.kind t.n t.name us d).2.1, .str (putHead t.kind t.n t.name us d).2.2, .list 0 [] 0 .nil] 27)) ?_ fun bq hbq τ h' hI => ?_
    · cases k5 : (t.kind == 5)
      · have hdd : D = d := by rw [← hD]; simp only [inner, k5]; rfl
        try dsimp only
        repeat first | ((with_reducible first | refine sS ?_ | refine sC ?_); intro bC bR bU hC hR hU; simp only [go_sem, ↓reduceIte, f2, f3, lp, k5]; subst hC hR hU) | (with_reducible refine rN ?_; subst hbq) | (with_reducible refine iR ?_; refine rG (by simp only [compL, gtOf, nthDst]; exact rfl) ?_) | with_reducible first | refine nS ?_ | refine rS fun bq hbq => ?_ | refine rK ?_
        refine run_endcut ?_
        simp only [go_sem, ↓reduceIte, f1, f3, f6, f7, hdd]
        exact ⟨hl', lp, lq, lr⟩
      · have hdd : D = d + 1 := by rw [← hD]; simp only [inner, k5]; rfl
        try dsimp only
        repeat first | ((with_reducible first | refine sS ?_ | refine sC ?_); intro bC bR bU hC hR hU; simp only [go_sem, ↓reduceIte, f2, f3, lp, k5, wrap_in (show -9223372036854775808 ≤ d + 1 by omega) (show d + 1 ≤ 9223372036854775807 by omega)]; subst hC hR hU) | (with_reducible refine rN ?_; subst hbq) | (with_reducible refine iR ?_; refine rG (by simp only [compL, gtOf, nthDst]; exact rfl) ?_) | with_reducible first | refine nS ?_ | refine rS fun bq hbq => ?_
        refine run_endcut ?_
        simp only [go_sem, ↓reduceIte, f1, f3, f6, f7, hdd]
        exact ⟨hl', lp, lq, lr⟩
    clear f1 f2 f3 f6 f7 hl' lp lq lr
    obtain ⟨f1, f3, f6, f7, f9, hl', lp, lq, lr⟩ := hI
    subst hbq
    try dsimp only
    repeat first | ((with_reducible refine sS ?_); intro bC bR bU hC hR hU; simp only [go_sem, ↓reduceIte, f3, lp]; subst hC hR hU) | (with_reducible refine rN ?_; subst hbq) | (with_reducible refine iR ?_; refine rG (by simp only [compL, gtOf, nthDst]; exact rfl) ?_) | (with_reducible refine rB fun cq hcq => ?_; subst hcq) | with_reducible first | refine nS ?_ | refine rS fun bq hbq => ?_
    refine run_loop (fun k τ h2 => ∃ (i sz : Nat) (tok : Tok) (done : List Term), k + i = t.args.length ∧ done.length = i ∧ filledL t.args us D = done ++ filledL (t.args.drop i) us D ∧ τ 1 = .list 4 (encs us) us.length .none ∧ τ 3 = .ptr p 0 ∧ τ 6 = .ptr q 0 ∧ τ 7 = .ptr r 0 ∧ τ 9 = .int .i64 D ∧ τ 10 = .int .i64 i ∧ HLess h2 h ∧ h2 p = some (.cells (cellsT t) 27) ∧ h2 q = some (.cells [.int .i64 0, .int .i64 0, .str noNameS, .list 0 [] 0 .nil] 27) ∧ h2 r = some (.cells [.int .i64 (putHead t.kind t.n t.name us d).1, .int .i64 (putHead t.kind t.n t.name us d).2.1, .str (putHead t.kind t.n t.name us d).2.2, .list sz (encs done) i tok] 27) ∧ Grow 27 h h2 tok ∧ (i = 0 ∨ sz = 4)) t.args.length ?_ ?_
    · refine ⟨0, 0, .nil, [], rfl, rfl, ?_⟩
      simp only [go_sem, ↓reduceIte, f1, f3, f6, f7, f9, List.drop_zero, encs_nil, lp, lq, lr]
      exact ⟨by simp, hl', .inl (.inr rfl), by simp⟩
    intro c hc k τ h2 hI
    clear f1 f3 f6 f7 f9 lp lq lr hl'
    obtain ⟨i, sz, tok, done, hk, hdl, hdone, f1, f3, f6, f7, f9, f10, hl', mp, mq, mr, hg, hsz0⟩ := hI
    subst hc
    by_cases hi : i < t.args.length
    · obtain ⟨u, hu⟩ : ∃ u, t.args[i]? = some u := ⟨_, List.getElem?_eq_getElem hi⟩
      obtain ⟨rr, hrr⟩ := encs_at t.args i hu
      have hus' := size_arg t i hu
      have hdrop : t.args.drop i = u :: t.args.drop (i + 1) := by
        rw [List.drop_eq_getElem_cons hi]
        rw [List.getElem?_eq_getElem hi] at hu; injection hu with hu; rw [hu]
      rw [hdrop, filledL] at hdone
      try dsimp only
      repeat first | ((with_reducible first | refine sS ?_ | refine sC ?_); intro bC bR bU hC hR hU; simp only [go_sem, ↓reduceIte, f1, f3, f7, f9, f10, mp, hi]; subst hC hR hU) | (with_reducible refine rN ?_; subst hbq) | (with_reducible refine iR ?_; refine rG (by simp only [compL, gtOf, nthDst]; exact rfl) ?_) | (with_reducible refine rB fun cq hcq => ?_; subst hcq) | with_reducible first | refine nS ?_ | refine rS fun bq hbq => ?_ | refine rK ?_
      repeat with_reducible refine run_seq fun bq hbq => ?_
      refine run_draw (.take 0 (.take 1 (.take 2 (.take 3 (.take 4 (.take 5 (.take 6 (.take 7 (.take 8 (.one 9 [3, 1] (.take 10 (.one 11 [3] (.take 12 (.one 13 [] (.done))))))))))))))) (by kernel_rfl) (by simp only [compL, gtOf, nthDst]; exact rfl) ?_
      try dsimp only
      repeat (((first | (with_reducible refine iT ?_; refine sT rfl ?_) | (with_reducible refine iO ?_; refine sO rfl ?_)); intro bC bR bU hC hR hU; simp only [go_sem, ↓reduceIte, f1, f3, f7, f9, f10, mp, mr, hi, hrr]; subst hC hR hU))
      refine ih u us D _ _ (by omega) (by omega) (by omega) hus8 hus (fillOkL_at _ _ _ i hokL hu) ?_
      try dsimp only
      repeat (((first | (with_reducible refine sA ?_) | (with_reducible refine iT ?_; refine sT rfl ?_) | (with_reducible refine iO ?_; refine sO rfl ?_)); intro bC bR bU hC hR hU; simp only [go_sem, ↓reduceIte, f1, f3, f7, f9, f10, mp, mr, hi, hrr, build_term]; subst hC hR hU))
      refine cAppend_list ?_
      simp only [go_sem, ↓reduceIte]
      intro a ha
      obtain ⟨h4, ea, hg4, hl4, keep⟩ := append_grow el_25 el_25 sz_27 by_27 ze_27 ⟨rfl, by decide⟩ (h0 := h) (h := h2) (p := a) hl' ha (sz1 := sz) (c1 := encs done) (n1 := i) (t := tok) (c2 := cellsT (filledF u us D)) (n2 := 1) (t2 := .full) hg hsz0 (sz2 := 4) rfl (by decide) (by omega)
      have r4 := keep r _ _ mr
      have rq := keep q _ _ mq
      have rp := keep p _ _ mp
      simp only [ea, go_sem, ↓reduceIte, f7, r4, rp]
      try dsimp only
      repeat first | ((with_reducible refine sS ?_); intro bC bR bU hC hR hU; simp only [go_sem, ↓reduceIte, f7, f10, r4, rp, wrap_in (show -9223372036854775808 ≤ (i : Int) + 1 by omega) (show (i : Int) + 1 ≤ 9223372036854775807 by omega)]; subst hC hR hU) | (with_reducible refine rN ?_; subst hbq) | (with_reducible refine iR ?_; refine rG (by simp only [compL, gtOf, nthDst]; exact rfl) ?_) | with_reducible first | refine nS ?_ | refine rE ?_
      refine run_loopN (m := k - 1) (by omega) ⟨i + 1, 4, .id a, done ++ [filledF u us D], by omega, by rw [List.length_append, hdl]; rfl, ?_, ?_⟩
      · rw [hdone]; simp
      · simp only [go_sem, ↓reduceIte, f1, f3, f6, f7, f9, e2.1, e2.1.symm, e3.1, e3.1.symm, rp, rq, encs_appV, encs_oneV]
        refine ⟨rfl, hl4.new e3.2, ?_, by simp⟩
        rcases hg4 with e | ⟨f, ef, hf, hf0⟩
        · rcases e with e | e <;> cases e
        · injection ef with ef; subst ef
          exact .inr ⟨a, rfl, by rw [upd_other _ _ (by intro e; rw [e, r4] at hf; cases hf)]; exact hf, hf0⟩
    · have hnil : t.args.drop i = [] := List.drop_eq_nil_of_le (by omega)
      rw [hnil, filledL, List.append_nil] at hdone
      rw [hdone] at hq
      try dsimp only
      repeat first | ((with_reducible first | refine sS ?_ | refine sC ?_); intro bC bR bU hC hR hU; simp only [go_sem, ↓reduceIte, f3, f6, f7, f10, mp, hi, mq, mr, e2.1, e2.1.symm]; subst hC hR hU) | (with_reducible refine rN ?_; subst hbq) | (with_reducible refine iR ?_; refine rG (by simp only [compL, gtOf, nthDst]; exact rfl) ?_) | (with_reducible refine x1 ?_; clear hbq bq) | with_reducible first | refine nS ?_ | refine rS fun bq hbq => ?_ | refine rXx ?_ | refine rR ?_ | refine x3 ?_ | refine x4 ?_
      refine last_as (v := enc ⟨(putHead t.kind t.n t.name us d).1, (putHead t.kind t.n t.name us d).2.1, (putHead t.kind t.n t.name us d).2.2, done⟩) (by rw [Tryz.results147]) (hl'.new e1.2) ?_ hq
      simp only [go_sem, ↓reduceIte, f6, f7, aPack, Option.some.injEq, exists_eq_left']
      exact LeAV.agg (.cons (LeAV.refl _) (.cons (LeAV.refl _) (.cons (LeAV.refl _) (.cons (le_listV hdl hsz0) .nil))))
/- The reference's head. -/


theorem val_get {vs : List Va} {n : Int} (h0 : 0 ≤ n) (h1 : n < (vs.length : Int)) : ∃ r, (encVs vs).drop (n.toNat * 8) = cellsV (valAt vs n) ++ r := by
  have hn1 : n.toNat < vs.length := by omega
  obtain ⟨v, hv⟩ : ∃ v, vs[n.toNat]? = some v := ⟨_, List.getElem?_eq_getElem hn1⟩
  have hva : valAt vs n = v := by rw [valAt, List.getD_eq_getElem?_getD, hv]; rfl
  rw [hva]
  exact encVs_at vs n.toNat hv
theorem argOk_le {d e : Int} {u : Term} (h : ArgOk d u) (hd : d ≤ e) : ArgOk e u := ⟨h.1, h.2.1, fun h2 => ⟨(h.2.2.1 h2).1, by have := (h.2.2.1 h2).2; omega⟩, h.2.2.2⟩
theorem cDr_twoV {cl : List CO} {i j : Nat} {st st' : List Nat} {p q : Plan} {K : AK} {T : Pend} {τ : Env} {h : AHeap} (h1 : cDr Tryz.prog cl K (.one i st p) T τ h) (h2 : cDr Tryz.prog cl K (.one j st' q) T τ h) : cDr Tryz.prog cl K (.two i st p j st' q) T τ h := ⟨h1, h2⟩
theorem head_am (vs : List Va) (hvs : vs.length ≤ 1000000) (tk : Tok) {d : Int} (hd : d ≤ 1000000) (t : Term) (k : Nat) (u : Term) (hs : Heads vs d t k u) (hu : NodeOk vs u) (h : AHeap) (Q : AOut → AHeap → Prop) (hq : Q (.ret (enc u)) h) :
    AmCalls Tryz.prog 112 [.agg [.list 8 (encVs vs) vs.length tk], enc t] h Q := by
  refine AmCalls.of_sem (fn := Tryz.f112) Tryz.func112 rfl (by kernel_rfl) (by rw [Tryz.ntmps112]; simp) (enters_of Tryz.func112 (by kernel_rfl) (by kernel_rfl)) ?_
  try dsimp only
  repeat first | ((with_reducible refine sS ?_); intro bC bR bU hC hR hU; simp only [go_sem, ↓reduceIte]; subst hC hR hU) | (with_reducible refine iR ?_; refine rG (by simp only [compL, gtOf, nthDst]; exact rfl) ?_) | with_reducible refine rS fun bq hbq => ?_
  intro a ha
  try dsimp only
  repeat (((with_reducible refine sS ?_); intro bC bR bU hC hR hU; simp only [go_sem, ↓reduceIte]; subst hC hR hU))
  intro p hp
  have e1 := fresh_if hp
  try dsimp only
  repeat (((with_reducible refine sS ?_); intro bC bR bU hC hR hU; simp only [go_sem, ↓reduceIte, e1.1, e1.1.symm]; subst hC hR hU))
  intro q hq'
  have e2 := fresh_if hq'
  have e3 := fresh_if e2.2
  try dsimp only
  repeat first | (with_reducible refine rN ?_; subst hbq) | (with_reducible refine rB fun cq hcq => ?_; subst hcq) | with_reducible first | refine nS ?_ | refine rS fun bq hbq => ?_
  refine run_loop (fun j τ h' => ∃ t', Heads vs d t' j u ∧ τ 2 = .ptr a 0 ∧ τ 3 = .ptr p 0 ∧ τ 4 = .ptr q 0 ∧ HLess h' h ∧ h' a = some (.cells [.list 8 (encVs vs) vs.length tk] 24) ∧ h' p = some (.cells (cellsT t') 27) ∧ h' q = some (.cells [.int .i64 0, .int .i64 0, .str noNameS, .list 0 [] 0 .nil] 27)) k ?_ ?_
  · refine ⟨t, hs, ?_⟩
    simp only [go_sem, ↓reduceIte, e1.1, e1.1.symm, e2.1, e2.1.symm, e3.1, e3.1.symm]
    exact (((HLess.refl h).new ha).new e1.2).new e3.2
  intro c hc j τ h' hI
  obtain ⟨t', hs', f2, f3, f4, hl', la, lp, lq⟩ := hI
  subst hc
  have hpa : p ≠ a := e1.1
  have hqp : q ≠ p := e2.1
  have hqa : q ≠ a := e3.1
  have fin0 : ∀ x, h' p = some (.cells (cellsT x) 27) → True := fun _ _ => trivial
  cases hs' with
  | zero =>
    cases h4 : (u.kind == 4)
    · try dsimp only
      repeat first | ((with_reducible first | refine sS ?_ | refine sC ?_); intro bC bR bU hC hR hU; simp only [go_sem, ↓reduceIte, f2, f3, f4, la, lp, h4, lq, hqp, hqp.symm]; subst hC hR hU) | (with_reducible refine rN ?_; subst hbq) | (with_reducible refine iR ?_; refine rG (by simp only [compL, gtOf, nthDst]; exact rfl) ?_) | (with_reducible refine x1 ?_; clear hbq bq) | (with_reducible refine iL ?_; refine rL (by rw [Tryz.results112]) (hl'.new e3.2) ?_; simp only [go_sem, ↓reduceIte, aPack, Option.some.injEq, exists_eq_left', f2, f3, f4, la, lp, h4, lq, hqp, hqp.symm]) | with_reducible first | refine nS ?_ | refine rS fun bq hbq => ?_ | refine rXx ?_ | refine rR ?_ | refine x3 ?_ | refine x4 ?_
      exact hq
    · have hv := hu.var h4
      obtain ⟨r, hr⟩ := val_get hv.1 hv.2.1
      have hr3 : List.drop (u.n.toNat * 8 + 3) (encVs vs) = .bool (valAt vs u.n).is :: (List.drop 4 (cellsV (valAt vs u.n)) ++ r) := by rw [← List.drop_drop, hr]; rfl
      rw [hv.2.2] at hr3
      try dsimp only
      repeat first | ((with_reducible first | refine sS ?_ | refine sC ?_); intro bC bR bU hC hR hU; simp only [go_sem, ↓reduceIte, f2, f3, f4, la, lp, h4, lq, hqp, hqp.symm, hv.1, hv.2.1, hr3]; subst hC hR hU) | (with_reducible refine rN ?_; subst hbq) | (with_reducible refine iR ?_; refine rG (by simp only [compL, gtOf, nthDst]; exact rfl) ?_) | (with_reducible refine x1 ?_; clear hbq bq) | (with_reducible refine iL ?_; refine rL (by rw [Tryz.results112]) (hl'.new e3.2) ?_; simp only [go_sem, ↓reduceIte, aPack, Option.some.injEq, exists_eq_left', f2, f3, f4, la, lp, h4, lq, hqp, hqp.symm, hv.1, hv.2.1, hr3]) | with_reducible first | refine nS ?_ | refine rS fun bq hbq => ?_ | refine rXx ?_ | refine rR ?_ | refine x3 ?_ | refine x4 ?_
      exact hq
  | @succ _ j _ h4 hi ok hs2 =>
    have h1 := ok.n0
    have h2 := ok.n1
    obtain ⟨r, hr⟩ := val_get h1 h2
    have hr3 : List.drop (t'.n.toNat * 8 + 3) (encVs vs) = .bool (valAt vs t'.n).is :: (List.drop 4 (cellsV (valAt vs t'.n)) ++ r) := by rw [← List.drop_drop, hr]; rfl
    have hr4 : List.drop (t'.n.toNat * 8 + 4) (encVs vs) = cellsT (valAt vs t'.n).t ++ r := by rw [← List.drop_drop, hr]; rfl
    rw [hi] at hr3
    try dsimp only
    repeat first | ((with_reducible first | refine sS ?_ | refine sC ?_); intro bC bR bU hC hR hU; simp only [go_sem, ↓reduceIte, f2, f3, f4, la, lp, h4, lq, hqp, hqp.symm, h1, h2, hr3]; subst hC hR hU) | (with_reducible refine rN ?_; subst hbq) | (with_reducible refine iR ?_; refine rG (by simp only [compL, gtOf, nthDst]; exact rfl) ?_) | (with_reducible refine rB fun cq hcq => ?_; subst hcq) | with_reducible first | refine nS ?_ | refine rS fun bq hbq => ?_ | refine rK ?_
    have hb : bodyOut (refBodyF t'.args.length (valAt vs t'.n).t) = (bodyOf vs t', true) := by
      have h3 := body_ref t'.args.length (valAt vs t'.n).t
      rw [ok.body] at h3
      have h4 : lamsF t'.args.length (valAt vs t'.n).t = true := by
        have := h3.symm
        rw [Bool.and_eq_true] at this
        exact this.2
      rw [body_same _ _ h4]
      exact Prod.ext rfl ok.body
    have hb1 : (bodyOut (refBodyF t'.args.length (valAt vs t'.n).t)).1 = bodyOf vs t' := by rw [hb]
    have hb2 : (bodyOut (refBodyF t'.args.length (valAt vs t'.n).t)).2 = true := by rw [hb]
    have hln := ok.len
    refine run_cutS (fun τ' h'' => ∃ b, h' b = Option.none ∧ τ' 2 = .ptr a 0 ∧ τ' 3 = .ptr p 0 ∧ τ' 4 = .ptr q 0 ∧ τ' 5 = .ptr b 0 ∧ h'' = upd h' b (some (.cells (cellsT (bodyOf vs t')) 27))) ?_ fun τ h' hI => ?_
    · repeat with_reducible refine run_seq fun bq hbq => ?_
      refine run_draw (.take 0 (.take 1 (.take 2 (.take 3 (.take 4 (.take 5 (.take 6 (.take 7 (.take 8 (.take 9 (.two 10 [8, 3, 1] (.take 11 (.take 12 (.take 13 (.one 14 [8, 3, 1] (.one 15 [] (.take 16 (.done))))))) 14 [8, 6, 3, 1] (.one 10 [8, 3, 1] (.take 11 (.take 12 (.take 13 (.one 15 [] (.take 16 (.done)))))))))))))))))) (by kernel_rfl) (by simp only [compL, gtOf, nthDst]; exact rfl) ?_
      try dsimp only
      repeat (((with_reducible refine iT ?_; refine sT rfl ?_); intro bC bR bU hC hR hU; simp only [go_sem, ↓reduceIte, f2, f3, f4, la, lp, h4, h1, h2, hr4]; subst hC hR hU))
      refine cDr_twoV ?_ ?_
      · try dsimp only
        repeat (((with_reducible refine iO ?_; refine sO rfl ?_); intro bC bR bU hC hR hU; simp only [go_sem, ↓reduceIte, f2, f3, f4, la, lp, h4, h1, h2, hr4]; subst hC hR hU))
        refine refBody_am (valAt vs t'.n).t t'.args.length _ _ (by omega) ?_
        rw [hb1, hb2]
        try dsimp only
        repeat (((first | (with_reducible refine sA ?_) | (with_reducible refine iT ?_; refine sT rfl ?_) | (with_reducible refine iO ?_; refine sO rfl ?_)); intro bC bR bU hC hR hU; simp only [go_sem, ↓reduceIte, f2, f3, f4, la, lp, h4, h1, h2, hr4]; subst hC hR hU))
        intro b hb
        have hbp := ne_of_new hb lp
        have hba := ne_of_new hb la
        try dsimp only
        repeat first | ((first | (with_reducible refine sA ?_) | (with_reducible refine iT ?_; refine sT rfl ?_) | (with_reducible refine i0 ?_; refine s0 rfl ?_)); intro bC bR bU hC hR hU; simp only [go_sem, ↓reduceIte, f2, f3, f4, la, lp, h4, h1, h2, hr4, hbp, hba, hbp.symm, hba.symm]; subst hC hR hU) | with_reducible refine nD ?_
        refine run_endcut ?_
        refine ⟨b, hb, ?_⟩
        simp only [go_sem, ↓reduceIte, f2, f3, f4]
      · try dsimp only
        repeat (((with_reducible refine iO ?_; refine sO rfl ?_); intro bC bR bU hC hR hU; simp only [go_sem, ↓reduceIte, f2, f3, f4, la, lp, h4, h1, h2, hr4]; subst hC hR hU))
        intro b hb
        have hbp := ne_of_new hb lp
        have hba := ne_of_new hb la
        try dsimp only
        repeat (((first | (with_reducible refine sA ?_) | (with_reducible refine iO ?_; refine sO rfl ?_)); intro bC bR bU hC hR hU; simp only [go_sem, ↓reduceIte, f2, f3, f4, la, lp, h4, h1, h2, hr4, hbp, hba, hbp.symm, hba.symm]; subst hC hR hU))
        refine refBody_am (valAt vs t'.n).t t'.args.length _ _ (by omega) ?_
        rw [hb1, hb2]
        try dsimp only
        repeat first | ((first | (with_reducible refine sA ?_) | (with_reducible refine iT ?_; refine sT rfl ?_) | (with_reducible refine i0 ?_; refine s0 rfl ?_)); intro bC bR bU hC hR hU; simp only [go_sem, ↓reduceIte, f2, f3, f4, la, lp, h4, h1, h2, hr4, hbp, hba, hbp.symm, hba.symm]; subst hC hR hU) | with_reducible refine nD ?_
        refine run_endcut ?_
        refine ⟨b, hb, ?_⟩
        simp only [go_sem, ↓reduceIte, f2, f3, f4]
    clear f2 f3 f4
    obtain ⟨b, hb0, f2, f3, f4, f5, rfl⟩ := hI
    subst hbq
    have hbp := ne_of_new hb0 lp
    have hba := ne_of_new hb0 la
    have hbq2 := ne_of_new hb0 lq
    have hsb : (bodyOf vs t').size ≤ 4000 := Nat.le_trans (body_size _ _) ok.size
    try dsimp only
    repeat first | ((with_reducible refine sS ?_); intro bC bR bU hC hR hU; simp only [go_sem, ↓reduceIte, f2, f3, f4, f5, la, lp, hbp, hbp.symm, hba, hba.symm]; subst hC hR hU) | (with_reducible refine iR ?_; refine rG (by simp only [compL, gtOf, nthDst]; exact rfl) ?_)
    refine put_am 4000 (bodyOf vs t') t'.args 0 _ _ hsb (Int.le_refl _) (by omega) ok.len (fun u hu => argOk_le (ok.args u hu) hd) ok.fill ?_
    try dsimp only
    repeat first | ((with_reducible refine sS ?_); intro bC bR bU hC hR hU; simp only [go_sem, ↓reduceIte, f2, f3, f4, f5, la, lp, hbp, hbp.symm, hba, hba.symm]; subst hC hR hU) | with_reducible first | refine nS ?_ | refine rE ?_
    refine run_loopN (m := j) (by omega) ⟨_, hs2, ?_⟩
    simp only [go_sem, ↓reduceIte, f2, f3, f4, hpa, hqp, hpa.symm, la, lq, hba, hba.symm, hbp, hbp.symm, hbq2, hbq2.symm]
    exact (hl'.new (hl'.none hb0)).new e1.2
/- whole. -/


theorem build152 (e : Int) : aBuild Tryz.prog 152 [(0, .int .i64 e)] = some (.agg [.int .i64 e]) := by
  simp only [aBuild, ze_152, pl_152, aFill]
  rfl
theorem sizes_app : ∀ l m : List Term, sizes (l ++ m) = sizes l + sizes m
  | [], m => by rw [List.nil_append, sizes]; omega
  | t :: l, m => by rw [List.cons_append, sizes, sizes, sizes_app l m]; omega
theorem depL_pos (l : List Term) : 0 ≤ depL l := (dep_pos (sizes l)).2 l (Nat.le_refl _)
theorem depL_app : ∀ l m : List Term, depL (l ++ m) = max (depL l) (depL m)
  | [], m => by have := depL_pos m; rw [List.nil_append, depL]; omega
  | t :: l, m => by rw [List.cons_append, depL, depL, depL_app l m]; omega
theorem sizes_take {l : List Term} {i : Nat} {w : Term} (h : l[i]? = some w) : sizes (l.take (i + 1)) = sizes (l.take i) + w.size := by
  rw [List.take_add_one, h, sizes_app]
  simp only [Option.toList_some, sizes]; omega
theorem depL_take {l : List Term} {i : Nat} {w : Term} (h : l[i]? = some w) : depL (l.take (i + 1)) = max (depL (l.take i)) (dep w) := by
  have := (dep_pos w.size).1 w (Nat.le_refl _)
  rw [List.take_add_one, h, depL_app]
  simp only [Option.toList_some, depL]; omega
theorem sizes_take_le (l : List Term) (i : Nat) : sizes (l.take i) ≤ sizes l := by
  have := sizes_app (l.take i) (l.drop i)
  rw [List.take_append_drop] at this
  omega
/-- The object in which values are worked out: a store, a number, a flag. -/
structure VObj (T : TypeId) (vs : List Va) (tk : Tok) (p : Nat) (n : Int) (dp : Bool) (h0 h : AHeap) : Prop where
  less : HLess h h0
  obj : h p = some (.cells [.list 8 (encVs vs) vs.length tk, .int .i64 n, .bool dp] T)
theorem whole_am (vs : List Va) (hvs : vs.length ≤ 1000000) (tk : Tok) {d : Int} {t v : Term} (hv : Val vs d t v) : ∀ (n deep : Int) (dp : Bool) (p : Nat) (h0 h : AHeap) (Q : AOut → AHeap → Prop), 0 ≤ n → n ≤ 4000 → 0 ≤ d → d ≤ deep → deep ≤ n + 1 → h0 p = Option.none → VObj 164 vs tk p n dp h0 h →
    (∀ h2, n + v.size ≤ 4000 → VObj 164 vs tk p (n + v.size) (dp || decide (deep + dep v - 1 > 100)) h0 h2 → Q (.ret (enc v)) h2) →
    (∀ h2 dp', n + v.size > 4000 → VObj 164 vs tk p 4001 dp' h0 h2 → Q (.panic (.iface 152 (.agg [.int .i64 2]))) h2) →
    AmCalls Tryz.prog 123 [.ptr p 0, enc t, .int .i64 deep] h Q := by
  induction hv with
  | @mk d t k u l hs hn hl ha ih =>
    intro n deep dp p h0 h Q hn0 hn1 hd0 hdd hdn hp0 hV hq hpan
    have hx := hV.obj
    refine AmCalls.of_sem (fn := Tryz.f123) Tryz.func123 rfl (by kernel_rfl) (by rw [Tryz.ntmps123]; simp) (enters_of Tryz.func123 (by kernel_rfl) (by kernel_rfl)) ?_
    try dsimp only
    repeat first | ((with_reducible refine sS ?_); intro bC bR bU hC hR hU; simp only [go_sem, ↓reduceIte]; subst hC hR hU) | (with_reducible refine iR ?_; refine rG (by simp only [compL, gtOf, nthDst]; exact rfl) ?_) | with_reducible refine rS fun bq hbq => ?_
    intro b hb
    have hpb := ne_of_new hb hx
    try dsimp only
    repeat (((with_reducible refine sS ?_); intro bC bR bU hC hR hU; simp only [go_sem, ↓reduceIte]; subst hC hR hU))
    intro q hq'
    have e1 := fresh_if hq'
    have hpq := ne_of_new e1.2 hx
    refine run_next ?_; subst hbq
    repeat with_reducible refine run_seq fun bq hbq => ?_
    refine run_cutS (fun τ h' => τ 0 = .ptr p 0 ∧ τ 2 = .int .i64 deep ∧ τ 4 = .ptr b 0 ∧ τ 6 = .ptr q 0 ∧ HLess h' h ∧ h' b = some (.cells (cellsT u) 27) ∧ h' q = some (.cells [.int .i64 0, .int .i64 0, .str noNameS, .list 0 [] 0 .nil] 27)) ?_ fun τ h' hI => ?_
    · try dsimp only
      repeat ((with_reducible refine rB fun cq hcq => ?_; subst hcq))
      refine run_loop (fun j τ h' => ∃ t', Heads vs d t' j u ∧ τ 0 = .ptr p 0 ∧ τ 2 = .int .i64 deep ∧ τ 4 = .ptr b 0 ∧ τ 6 = .ptr q 0 ∧ HLess h' h ∧ h' b = some (.cells (cellsT t') 27) ∧ h' q = some (.cells [.int .i64 0, .int .i64 0, .str noNameS, .list 0 [] 0 .nil] 27)) k ?_ ?_
      · refine ⟨t, hs, ?_⟩
        simp only [go_sem, ↓reduceIte, e1.1, e1.1.symm]
        exact ((HLess.refl h).new hb).new e1.2
      intro c hc j τ h' hI
      obtain ⟨t', hs', f0, f2, f4, f6, hl', lb, lq⟩ := hI
      subst hc
      have hx' := hl' _ _ hx
      have hqb : q ≠ b := e1.1
      cases hs' with
      | zero =>
        cases h4 : (u.kind == 4)
        · repeat with_reducible refine run_seq fun bq hbq => ?_
          refine run_draw (.take 0 (.take 1 (.take 2 (.take 3 (.take 4 (.take 5 (.take 6 (.take 7 (.take 8 (.take 9 (.take 10 (.take 11 (.take 12 (.take 13 (.take 14 (.done)))))))))))))))) (by kernel_rfl) (by simp only [compL, gtOf, nthDst]; exact rfl) ?_
          try dsimp only
          repeat first | ((first | (with_reducible refine sC ?_) | (with_reducible refine iT ?_; refine sT rfl ?_)); intro bC bR bU hC hR hU; simp only [go_sem, ↓reduceIte, f0, f2, f4, f6, lb, hx', h4]; subst hC hR hU) | (with_reducible refine rN ?_; subst hbq) | (with_reducible refine x1 ?_; clear hbq bq) | with_reducible first | refine nD ?_ | refine rXx ?_ | refine x3 ?_ | refine x4 ?_
          refine run_endcut ?_
          simp only [go_sem, ↓reduceIte, f0, f2, f4, f6]
          exact ⟨hl', lb, lq⟩
        · have hv := hn.var h4
          obtain ⟨r, hr⟩ := val_get hv.1 hv.2.1
          have hr3 : List.drop (u.n.toNat * 8 + 3) (encVs vs) = .bool (valAt vs u.n).is :: (List.drop 4 (cellsV (valAt vs u.n)) ++ r) := by rw [← List.drop_drop, hr]; rfl
          rw [hv.2.2] at hr3
          repeat with_reducible refine run_seq fun bq hbq => ?_
          refine run_draw (.take 0 (.take 1 (.take 2 (.take 3 (.take 4 (.take 5 (.take 6 (.take 7 (.take 8 (.take 9 (.take 10 (.take 11 (.take 12 (.take 13 (.take 14 (.done)))))))))))))))) (by kernel_rfl) (by simp only [compL, gtOf, nthDst]; exact rfl) ?_
          try dsimp only
          repeat first | ((first | (with_reducible refine sC ?_) | (with_reducible refine iT ?_; refine sT rfl ?_)); intro bC bR bU hC hR hU; simp only [go_sem, ↓reduceIte, f0, f2, f4, f6, lb, hx', h4, hv.1, hv.2.1, hr3]; subst hC hR hU) | (with_reducible refine rN ?_; subst hbq) | (with_reducible refine x1 ?_; clear hbq bq) | with_reducible first | refine nD ?_ | refine rXx ?_ | refine x3 ?_ | refine x4 ?_
          refine run_endcut ?_
          simp only [go_sem, ↓reduceIte, f0, f2, f4, f6]
          exact ⟨hl', lb, lq⟩
      | @succ _ j _ h4 hi ok hs2 =>
        have h1 := ok.n0
        have h2 := ok.n1
        obtain ⟨r, hr⟩ := val_get h1 h2
        have hr3 : List.drop (t'.n.toNat * 8 + 3) (encVs vs) = .bool (valAt vs t'.n).is :: (List.drop 4 (cellsV (valAt vs t'.n)) ++ r) := by rw [← List.drop_drop, hr]; rfl
        have hr4 : List.drop (t'.n.toNat * 8 + 4) (encVs vs) = cellsT (valAt vs t'.n).t ++ r := by rw [← List.drop_drop, hr]; rfl
        rw [hi] at hr3
        have hln := ok.len
        have hbt : ((bodyF ((t'.args.length : Int)).toNat (valAt vs t'.n).t).1) = bodyOf vs t' := rfl
        have hb2 : (bodyF ((t'.args.length : Int)).toNat (valAt vs t'.n).t).2 = true := ok.body
        repeat with_reducible refine run_seq fun bq hbq => ?_
        refine run_draw (.take 0 (.take 1 (.take 2 (.take 3 (.take 4 (.take 5 (.take 6 (.take 7 (.take 8 (.take 9 (.take 10 (.take 11 (.take 12 (.take 13 (.take 14 (.done)))))))))))))))) (by kernel_rfl) (by simp only [compL, gtOf, nthDst]; exact rfl) ?_
        try dsimp only
        repeat first | ((first | (with_reducible refine sC ?_) | (with_reducible refine iT ?_; refine sT rfl ?_)); intro bC bR bU hC hR hU; simp only [go_sem, ↓reduceIte, f0, f2, f4, f6, lb, hx', h4, h1, h2, hr3]; subst hC hR hU) | (with_reducible refine rN ?_; subst hbq) | (with_reducible refine rB fun cq hcq => ?_; subst hcq) | with_reducible first | refine nD ?_ | refine rS fun bq hbq => ?_ | refine rK ?_
        refine run_cutS (fun τ' h'' => ∃ c, h' c = Option.none ∧ τ' 0 = .ptr p 0 ∧ τ' 2 = .int .i64 deep ∧ τ' 4 = .ptr b 0 ∧ τ' 6 = .ptr q 0 ∧ τ' 7 = .ptr c 0 ∧ h'' = upd h' c (some (.cells (cellsT (bodyOf vs t')) 27))) ?_ fun τ h' hI => ?_
        · repeat with_reducible refine run_seq fun bq hbq => ?_
          refine run_draw (.take 0 (.take 1 (.take 2 (.take 3 (.take 4 (.take 5 (.take 6 (.take 7 (.take 8 (.take 9 (.take 10 (.take 11 (.take 12 (.two 13 [11, 6, 4] (.take 14 (.take 15 (.take 16 (.one 17 [11, 6, 4] (.one 18 [] (.take 19 (.done))))))) 17 [11, 9, 6, 4] (.one 13 [11, 6, 4] (.take 14 (.take 15 (.take 16 (.one 18 [] (.take 19 (.done))))))))))))))))))))) (by kernel_rfl) (by simp only [compL, gtOf, nthDst]; exact rfl) ?_
          try dsimp only
          repeat (((with_reducible refine iT ?_; refine sT rfl ?_); intro bC bR bU hC hR hU; simp only [go_sem, ↓reduceIte, f0, f2, f4, f6, lb, hx', h4, h1, h2, hr4]; subst hC hR hU))
          refine cDr_twoV ?_ ?_
          · try dsimp only
            repeat (((with_reducible refine iO ?_; refine sO rfl ?_); intro bC bR bU hC hR hU; simp only [go_sem, ↓reduceIte, f0, f2, f4, f6, lb, hx', h4, h1, h2, hr4]; subst hC hR hU))
            refine body_am (valAt vs t'.n).t t'.args.length _ _ (by omega) ?_
            rw [hbt, hb2]
            try dsimp only
            repeat (((first | (with_reducible refine sA ?_) | (with_reducible refine iT ?_; refine sT rfl ?_) | (with_reducible refine iO ?_; refine sO rfl ?_)); intro bC bR bU hC hR hU; simp only [go_sem, ↓reduceIte, f0, f2, f4, f6, lb, hx', h4, h1, h2, hr4]; subst hC hR hU))
            intro c hc
            have hcb := ne_of_new hc lb
            have hcx := ne_of_new hc hx'
            try dsimp only
            repeat first | ((first | (with_reducible refine sA ?_) | (with_reducible refine iT ?_; refine sT rfl ?_) | (with_reducible refine i0 ?_; refine s0 rfl ?_)); intro bC bR bU hC hR hU; simp only [go_sem, ↓reduceIte, f0, f2, f4, f6, lb, hx', h4, h1, h2, hr4, hcb, hcx, hcb.symm, hcx.symm]; subst hC hR hU) | with_reducible refine nD ?_
            refine run_endcut ?_
            refine ⟨c, hc, ?_⟩
            simp only [go_sem, ↓reduceIte, f0, f2, f4, f6]
          · try dsimp only
            repeat (((with_reducible refine iO ?_; refine sO rfl ?_); intro bC bR bU hC hR hU; simp only [go_sem, ↓reduceIte, f0, f2, f4, f6, lb, hx', h4, h1, h2, hr4]; subst hC hR hU))
            intro c hc
            have hcb := ne_of_new hc lb
            have hcx := ne_of_new hc hx'
            try dsimp only
            repeat (((first | (with_reducible refine sA ?_) | (with_reducible refine iO ?_; refine sO rfl ?_)); intro bC bR bU hC hR hU; simp only [go_sem, ↓reduceIte, f0, f2, f4, f6, lb, hx', h4, h1, h2, hr4, hcb, hcx, hcb.symm, hcx.symm]; subst hC hR hU))
            refine body_am (valAt vs t'.n).t t'.args.length _ _ (by omega) ?_
            rw [hbt, hb2]
            try dsimp only
            repeat first | ((first | (with_reducible refine sA ?_) | (with_reducible refine iT ?_; refine sT rfl ?_) | (with_reducible refine i0 ?_; refine s0 rfl ?_)); intro bC bR bU hC hR hU; simp only [go_sem, ↓reduceIte, f0, f2, f4, f6, lb, hx', h4, h1, h2, hr4, hcb, hcx, hcb.symm, hcx.symm]; subst hC hR hU) | with_reducible refine nD ?_
            refine run_endcut ?_
            refine ⟨c, hc, ?_⟩
            simp only [go_sem, ↓reduceIte, f0, f2, f4, f6]
        clear f0 f2 f4 f6
        obtain ⟨c, hc0, f0, f2, f4, f6, f7, rfl⟩ := hI
        subst hbq
        have hcb := ne_of_new hc0 lb
        have hcx := ne_of_new hc0 hx'
        have hcq := ne_of_new hc0 lq
        have hsb : (bodyOf vs t').size ≤ 4000 := Nat.le_trans (body_size _ _) ok.size
        try dsimp only
        repeat first | ((with_reducible refine sS ?_); intro bC bR bU hC hR hU; simp only [go_sem, ↓reduceIte, f0, f2, f4, f6, f7, lb, hcb, hcb.symm]; subst hC hR hU) | (with_reducible refine iR ?_; refine rG (by simp only [compL, gtOf, nthDst]; exact rfl) ?_)
        refine filled_am 4000 (bodyOf vs t') t'.args 0 _ _ hsb (Int.le_refl _) (by omega) (by omega) (fun u hu => ?_) ok.fill ?_
        · have hu1 := ok.args u hu
          rcases (simple_kind hu1.1).1 with e | e
          · have := hu1.2.2.1 e; omega
          · have := hu1.2.2.2 e; omega
        try dsimp only
        repeat first | ((with_reducible refine sS ?_); intro bC bR bU hC hR hU; simp only [go_sem, ↓reduceIte, f0, f2, f4, f6, f7, lb, hcb, hcb.symm]; subst hC hR hU) | with_reducible first | refine nS ?_ | refine rE ?_
        refine run_loopN (m := j) (by omega) ⟨_, hs2, ?_⟩
        simp only [go_sem, ↓reduceIte, f0, f2, f4, f6, hqb, lq, hcb, hcb.symm, hcq, hcq.symm]
        exact (hl'.new (hl'.none hc0)).new hb
    obtain ⟨f0, f2, f4, f6, hl', lb, lq⟩ := hI
    subst hbq
    have hx' := hl' _ _ hx
    try dsimp only
    repeat first | ((with_reducible first | refine sS ?_ | refine sC ?_); intro bC bR bU hC hR hU; simp only [go_sem, ↓reduceIte, f0, f2, f4, f6, hx', wrap_in (show -9223372036854775808 ≤ n + 1 by omega) (show n + 1 ≤ 9223372036854775807 by omega)]; subst hC hR hU) | (with_reducible refine rN ?_; subst hbq) | (with_reducible refine iR ?_; refine rG (by simp only [compL, gtOf, nthDst]; exact rfl) ?_) | with_reducible first | refine nS ?_ | refine rS fun bq hbq => ?_
    have hm : HLess h' (upd h p Option.none) := fun i o hi => by
      by_cases e : i = p
      · subst e; rw [upd_same] at hi; cases hi
      · rw [upd_other _ _ e] at hi; exact hl' i o hi
    have hm0 : HLess (upd h p Option.none) h0 := fun i o hi => by
      by_cases e : i = p
      · subst e; rw [hp0] at hi; cases hi
      · rw [upd_other _ _ e]; exact hV.less i o hi
    cases hbig : decide (n + 1 > 4000)
    case true =>
      have hb1 : n + 1 > 4000 := by simpa using hbig
      try dsimp only
      repeat first | ((with_reducible refine sS ?_); intro bC bR bU hC hR hU; simp only [go_sem, ↓reduceIte, f0, f2, f4, f6, hbig, build152]; subst hC hR hU) | (with_reducible refine iR ?_; refine rG (by simp only [compL, gtOf, nthDst]; exact rfl) ?_)
      refine p1 (pL (HLess.refl _) (hpan _ dp ?_ ⟨(hm.new (upd_same _ _ _)).trans hm0, ?_⟩))
      · rw [Term.size]; omega
      · rw [upd_same, show n + 1 = 4001 by omega]
    case false =>
      have hb1 : ¬ n + 1 > 4000 := by simpa using hbig
      have hpr : b ≠ p := fun e => hpb e.symm
      have hqr : q ≠ p := fun e => hpq e.symm
      simp only [hbig]
      refine run_skip ?_
      refine run_next ?_; subst hbq
      repeat with_reducible refine run_seq fun bq hbq => ?_
      refine run_cutS (fun τ' h'' => τ' 0 = .ptr p 0 ∧ τ' 2 = .int .i64 deep ∧ τ' 4 = .ptr b 0 ∧ τ' 6 = .ptr q 0 ∧ h'' = upd h' p (some (.cells [.list 8 (encVs vs) vs.length tk, .int .i64 (n + 1), .bool (dp || decide (deep > 100))] 164))) ?_ fun τ h' hI => ?_
      · cases hdp : dp
        all_goals
          try dsimp only
          repeat first | ((with_reducible refine sS ?_); intro bC bR bU hC hR hU; simp only [go_sem, ↓reduceIte, f0, f2, f4, f6, hdp]; subst hC hR hU) | (with_reducible refine iR ?_; refine rG (by simp only [compL, gtOf, nthDst]; exact rfl) ?_) | with_reducible refine nS ?_
          refine run_endcut ?_
          simp only [go_sem, ↓reduceIte, f0, f2, f4, f6, hdp]
      clear f0 f2 f4 f6
      obtain ⟨f0, f2, f4, f6, rfl⟩ := hI
      subst hbq
      have sp : (upd h' p (some (AObj.cells [.list 8 (encVs vs) vs.length tk, .int .i64 (n + 1), .bool (dp || decide (deep > 100))] 164))) p = some (.cells [.list 8 (encVs vs) vs.length tk, .int .i64 (n + 1), .bool (dp || decide (deep > 100))] 164) := upd_same _ _ _
      have sb : (upd h' p (some (AObj.cells [.list 8 (encVs vs) vs.length tk, .int .i64 (n + 1), .bool (dp || decide (deep > 100))] 164))) b = some (.cells (cellsT u) 27) := by rw [upd_other _ _ hpr]; exact lb
      have sq : (upd h' p (some (AObj.cells [.list 8 (encVs vs) vs.length tk, .int .i64 (n + 1), .bool (dp || decide (deep > 100))] 164))) q = some (.cells [.int .i64 0, .int .i64 0, .str noNameS, .list 0 [] 0 .nil] 27) := by rw [upd_other _ _ hqr]; exact lq
      have hmH : HLess (upd h' p (some (AObj.cells [.list 8 (encVs vs) vs.length tk, .int .i64 (n + 1), .bool (dp || decide (deep > 100))] 164))) (upd h p Option.none) := hm.new (upd_same _ _ _)
      generalize upd h' p (some (AObj.cells [.list 8 (encVs vs) vs.length tk, .int .i64 (n + 1), .bool (dp || decide (deep > 100))] 164)) = H at *
      try dsimp only
      repeat first | ((with_reducible refine sS ?_); intro bC bR bU hC hR hU; simp only [go_sem, ↓reduceIte, f0, f2, f4, f6, sb, sp, sq]; subst hC hR hU) | (with_reducible refine iR ?_; refine rG (by simp only [compL, gtOf, nthDst]; exact rfl) ?_) | with_reducible refine rS fun bq hbq => ?_
      intro r hr
      have hrb := ne_of_new hr sb
      have hrp := ne_of_new hr sp
      have hrq := ne_of_new hr sq
      try dsimp only
      repeat first | ((with_reducible refine sS ?_); intro bC bR bU hC hR hU; simp only [go_sem, ↓reduceIte, f0, f2, f4, f6, sb, sp, sq, hrb, hrb.symm, hrp, hrp.symm, hrq, hrq.symm]; subst hC hR hU) | (with_reducible refine rN ?_; subst hbq) | (with_reducible refine iR ?_; refine rG (by simp only [compL, gtOf, nthDst]; exact rfl) ?_) | (with_reducible refine rB fun cq hcq => ?_; subst hcq) | with_reducible first | refine nS ?_ | refine rS fun bq hbq => ?_
      have hM : ∀ x, x ≠ p → h x = Option.none → (upd h p Option.none) x = Option.none := fun x hx hn => by rw [upd_other _ _ hx]; exact hn
      have hMp : (upd h p Option.none) p = Option.none := upd_same _ _ _
      have hrM : (upd h p Option.none) r = Option.none := hmH.none hr
      have hqM : (upd h p Option.none) q = Option.none := hM q hqr e1.2
      generalize upd h p Option.none = M at *
      refine run_loop (fun kk τ h2 => ∃ (i sz : Nat) (tok : Tok), kk + i = u.args.length ∧ τ 0 = .ptr p 0 ∧ τ 2 = .int .i64 deep ∧ τ 6 = .ptr q 0 ∧ τ 9 = .ptr r 0 ∧ τ 76 = .list 4 (encs u.args) u.args.length .none ∧ τ 77 = .int .i64 u.args.length ∧ τ 78 = .int .i64 i ∧ HLess h2 M ∧ h2 p = some (.cells [.list 8 (encVs vs) vs.length tk, .int .i64 (n + 1 + sizes (l.take i)), .bool (dp || decide (deep + depL (l.take i) > 100))] 164) ∧ h2 q = some (.cells [.int .i64 0, .int .i64 0, .str noNameS, .list 0 [] 0 .nil] 27) ∧ h2 r = some (.cells [.int .i64 u.kind, .int .i64 u.n, .str u.name, .list sz (encs (l.take i)) i tok] 27) ∧ Grow 27 M h2 tok ∧ (i = 0 ∨ sz = 4) ∧ n + 1 + sizes (l.take i) ≤ 4000) u.args.length ?_ ?_
      · refine ⟨0, 0, .nil, rfl, ?_⟩
        simp only [go_sem, ↓reduceIte, f0, f2, f6, List.take_zero, encs_nil, sizes, depL, sp, sq, hrp, hrp.symm, hrq, hrq.symm]
        refine ⟨rfl, hmH.new hrM, by simp, .inl (.inr rfl), ?_⟩
        simp; omega
      intro c hc kk τ h2 hI
      clear f0 f2 f6
      obtain ⟨i, sz, tok, hk, f0, f2, f6, f9, f76, f77, f78, hl2, lp, lq2, lr, hg, hsz0, hn4⟩ := hI
      subst hc
      have hlen8 := hn.len
      by_cases hi : i < u.args.length
      · obtain ⟨a, hau⟩ : ∃ a, u.args[i]? = some a := ⟨_, List.getElem?_eq_getElem hi⟩
        obtain ⟨w, hw⟩ : ∃ w, l[i]? = some w := ⟨_, List.getElem?_eq_getElem (by omega)⟩
        obtain ⟨rr, hrr⟩ := encs_at u.args i hau
        try dsimp only
        repeat first | ((with_reducible first | refine sS ?_ | refine sC ?_); intro bC bR bU hC hR hU; simp only [go_sem, ↓reduceIte, f0, f2, f6, f9, f76, f77, f78, hi, hrr]; subst hC hR hU) | (with_reducible refine rN ?_; subst hbq) | (with_reducible refine iR ?_; refine rG (by simp only [compL, gtOf, nthDst]; exact rfl) ?_) | (with_reducible refine rB fun cq hcq => ?_; subst hcq) | with_reducible first | refine nS ?_ | refine rS fun bq hbq => ?_ | refine rK ?_
        intro x hx
        have hxp := ne_of_new hx lp
        have hxr := ne_of_new hx lr
        have hxq := ne_of_new hx lq2
        try dsimp only
        repeat first | ((with_reducible refine sS ?_); intro bC bR bU hC hR hU; simp only [go_sem, ↓reduceIte, f0, f2, f6, f9, f76, f77, f78, hi, hrr]; subst hC hR hU) | (with_reducible refine rN ?_; subst hbq) | with_reducible refine nS ?_
        repeat with_reducible refine run_seq fun bq hbq => ?_
        refine run_draw (.take 0 (.take 1 (.take 2 (.take 3 (.take 4 (.take 5 (.one 6 [1] (.take 7 (.one 8 [] (.take 9 (.one 10 [] (.done)))))))))))) (by kernel_rfl) (by simp only [compL, gtOf, nthDst]; exact rfl) ?_
        try dsimp only
        repeat (((first | (with_reducible refine iT ?_; refine sT rfl ?_) | (with_reducible refine iO ?_; refine sO rfl ?_)); intro bC bR bU hC hR hU; simp only [go_sem, ↓reduceIte, f0, f2, f6, f9, f76, f77, f78, lp, lr, lq2, hxp, hxp.symm, hxr, hxr.symm, hxq, hxq.symm, wrap_in (show -9223372036854775808 ≤ deep + 1 by omega) (show deep + 1 ≤ 9223372036854775807 by omega)]; subst hC hR hU))
        have hl3 : HLess (upd h2 x (some (AObj.cells (cellsT a) 27))) M := hl2.new (hl2.none hx)
        have lp3 : (upd h2 x (some (AObj.cells (cellsT a) 27))) p = some (.cells [.list 8 (encVs vs) vs.length tk, .int .i64 (n + 1 + sizes (l.take i)), .bool (dp || decide (deep + depL (l.take i) > 100))] 164) := by rw [upd_other _ _ hxp]; exact lp
        have lr3 : (upd h2 x (some (AObj.cells (cellsT a) 27))) r = some (.cells [.int .i64 u.kind, .int .i64 u.n, .str u.name, .list sz (encs (l.take i)) i tok] 27) := by rw [upd_other _ _ hxr]; exact lr
        have lq3 : (upd h2 x (some (AObj.cells (cellsT a) 27))) q = some (.cells [.int .i64 0, .int .i64 0, .str noNameS, .list 0 [] 0 .nil] 27) := by rw [upd_other _ _ hxq]; exact lq2
        have hg3 : Grow 27 M (upd h2 x (some (AObj.cells (cellsT a) 27))) tok := by
          rcases hg with e | ⟨f, ef, hf, hf0⟩
          · exact .inl e
          · exact .inr ⟨f, ef, by rw [upd_other _ _ (ne_of_new hx hf)]; exact hf, hf0⟩
        have hst := sizes_take hw
        have hsl := sizes_take_le l (i + 1)
        have hdt := depL_take hw
        have hin : inner u.kind d ≤ deep + 1 := by unfold inner; split <;> omega
        refine ih i a w hau hw (n + 1 + sizes (l.take i)) (deep + 1) _ p (upd (upd h2 x (some (AObj.cells (cellsT a) 27))) p Option.none) _ _ (by omega) hn4 (inner_pos hd0) hin (by omega) (upd_same _ _ _) ⟨fun j o hj => ?_, lp3⟩ ?_ ?_
        · by_cases e : j = p
          · subst e; rw [upd_same] at hj; cases hj
          · rw [upd_other _ _ e] at hj; exact hj
        · intro h4 hsz4 hV4
          have hl4 : HLess h4 M := fun j o hj => hV4.less j o (by
            have e : j ≠ p := fun e => by subst e; rw [hMp] at hj; cases hj
            rw [upd_other _ _ e]; exact hl3 j o hj)
          have lp4 := hV4.obj
          have lr4 := hV4.less r _ (by rw [upd_other _ _ hrp.symm]; exact lr3)
          have lq4 := hV4.less q _ (by rw [upd_other _ _ hqr]; exact lq3)
          have hg4 : Grow 27 M h4 tok := by
            rcases hg3 with e | ⟨f, ef, hf, hf0⟩
            · exact .inl e
            · refine .inr ⟨f, ef, hV4.less f _ ?_, hf0⟩
              rw [upd_other _ _ (fun e => by subst e; rw [lp3] at hf; cases hf)]
              exact hf
          try dsimp only
          repeat (((first | (with_reducible refine sA ?_) | (with_reducible refine iT ?_; refine sT rfl ?_) | (with_reducible refine i0 ?_; refine s0 rfl ?_)); intro bC bR bU hC hR hU; simp only [go_sem, ↓reduceIte, f0, f2, f6, f9, f76, f77, f78, lp4, lr4, lq4, build_term]; subst hC hR hU))
          refine cAppend_list ?_
          simp only [go_sem, ↓reduceIte]
          intro y hy
          obtain ⟨h5, ea, hg5, hl5, keep⟩ := append_grow el_25 el_25 sz_27 by_27 ze_27 ⟨rfl, by decide⟩ (h0 := M) (h := h4) (p := y) hl4 hy (sz1 := sz) (c1 := encs (l.take i)) (n1 := i) (t := tok) (c2 := cellsT w) (n2 := 1) (t2 := .full) hg4 hsz0 (sz2 := 4) rfl (by decide) (by omega)
          have r5 := keep r _ _ lr4
          have q5 := keep q _ _ lq4
          have p5' := keep p _ _ lp4
          simp only [ea, go_sem, ↓reduceIte, f9, r5]
          try dsimp only
          repeat first | ((with_reducible refine sS ?_); intro bC bR bU hC hR hU; simp only [go_sem, ↓reduceIte, f78, f9, r5, wrap_in (show -9223372036854775808 ≤ (i : Int) + 1 by omega) (show (i : Int) + 1 ≤ 9223372036854775807 by omega)]; subst hC hR hU) | (with_reducible refine rN ?_; subst hbq) | (with_reducible refine iR ?_; refine rG (by simp only [compL, gtOf, nthDst]; exact rfl) ?_) | with_reducible first | refine nS ?_ | refine rE ?_
          refine run_loopN (m := kk - 1) (by omega) ⟨i + 1, 4, .id y, by omega, ?_⟩
          have htk : l.take (i + 1) = l.take i ++ [w] := by rw [List.take_add_one, hw]; rfl
          have hflag : (dp || decide (deep + depL (l.take i) > 100) || decide (deep + 1 + dep w - 1 > 100)) = (dp || decide (deep + max (depL (l.take i)) (dep w) > 100)) := by
            rw [Bool.or_assoc]
            congr 1
            rw [← Bool.decide_or]
            exact decide_eq_decide.2 (by omega)
          rw [hst, hdt, htk]
          simp only [go_sem, ↓reduceIte, f0, f2, f6, f9, f76, f77, f78, encs_appV, encs_oneV, hrp, hrp.symm, hrq, hrq.symm, p5', q5]
          refine ⟨rfl, hl5.new hrM, ?_, ?_, by simp, by omega⟩
          · rw [hflag, show n + 1 + (sizes (l.take i) : Int) + w.size = n + 1 + ((sizes (l.take i) + w.size : Nat) : Int) by omega]
          · rcases hg5 with e | ⟨f, ef, hf, hf0⟩
            · rcases e with e | e <;> cases e
            · injection ef with ef; subst ef
              exact .inr ⟨y, rfl, by rw [upd_other _ _ (by intro e; rw [e, r5] at hf; cases hf)]; exact hf, hf0⟩
        · intro h4 dp' hsz4 hV4
          have hl4 : HLess h4 M := fun j o hj => hV4.less j o (by
            have e : j ≠ p := fun e => by subst e; rw [hMp] at hj; cases hj
            rw [upd_other _ _ e]; exact hl3 j o hj)
          dsimp only
          refine p4 (p1 (p3 (p4 (p1 (pL (HLess.refl _) (hpan _ dp' ?_ ⟨hl4.trans hm0, hV4.obj⟩))))))
          rw [Term.size]; omega
      · have hlt : l.take i = l := List.take_of_length_le (by omega)
        rw [hlt] at lp lr hn4
        have hi' : i = l.length := by omega
        try dsimp only
        repeat first | ((with_reducible first | refine sS ?_ | refine sC ?_); intro bC bR bU hC hR hU; simp only [go_sem, ↓reduceIte, f0, f2, f6, f9, f76, f77, f78, hi, lr, lq2, hrq, hrq.symm]; subst hC hR hU) | (with_reducible refine rN ?_; subst hbq) | (with_reducible refine iR ?_; refine rG (by simp only [compL, gtOf, nthDst]; exact rfl) ?_) | (with_reducible refine x1 ?_; clear hbq bq) | with_reducible first | refine nS ?_ | refine rS fun bq hbq => ?_ | refine rXx ?_ | refine rR ?_ | refine x3 ?_ | refine x4 ?_
        refine last_as (v := enc ⟨u.kind, u.n, u.name, l⟩) (by rw [Tryz.results123]) (HLess.refl _) ?_ (hq _ ?_ ⟨(hl2.new hqM).trans hm0, ?_⟩)
        · simp only [go_sem, ↓reduceIte, f6, aPack, Option.some.injEq, exists_eq_left']
          exact LeAV.agg (.cons (LeAV.refl _) (.cons (LeAV.refl _) (.cons (LeAV.refl _) (.cons (le_listV hi'.symm hsz0) .nil))))
        · rw [Term.size]; omega
        · rw [upd_other _ _ hpq, lp, Term.size, dep, show n + 1 + (sizes l : Int) = n + ((sizes l + 1 : Nat) : Int) by omega, show deep + (depL l + 1) - 1 = deep + depL l by omega]
/- The reference's value. -/


theorem refVal_am (vs : List Va) (hvs : vs.length ≤ 1000000) (tk : Tok) {d : Int} {t v : Term} (hv : Val vs d t v) : ∀ (n : Int) (p : Nat) (h0 h : AHeap) (Q : AOut → AHeap → Prop), 0 ≤ n → n ≤ 4000 → 0 ≤ d → d ≤ n → h0 p = Option.none → VObj 158 vs tk p n false h0 h →
    (∀ h2, n + v.size ≤ 4000 → VObj 158 vs tk p (n + v.size) false h0 h2 → Q (.ret (enc v)) h2) →
    (∀ h2 x, n + v.size > 4000 → VObj 158 vs tk p 4001 true h0 h2 → Q (.ret (enc x)) h2) →
    AmCalls Tryz.prog 114 [.ptr p 0, enc t] h Q := by
  induction hv with
  | @mk d t k u l hs hn hl ha ih =>
    intro n p h0 h Q hn0 hn1 hd0 hdn hp0 hV hq hlong
    have hx := hV.obj
    refine AmCalls.of_sem (fn := Tryz.f114) Tryz.func114 rfl (by kernel_rfl) (by rw [Tryz.ntmps114]; simp) (enters_of Tryz.func114 (by kernel_rfl) (by kernel_rfl)) ?_
    try dsimp only
    repeat first | ((with_reducible refine sS ?_); intro bC bR bU hC hR hU; simp only [go_sem, ↓reduceIte]; subst hC hR hU) | (with_reducible refine iR ?_; refine rG (by simp only [compL, gtOf, nthDst]; exact rfl) ?_) | with_reducible refine rS fun bq hbq => ?_
    intro b hb
    have hpb := ne_of_new hb hx
    try dsimp only
    repeat (((with_reducible refine sS ?_); intro bC bR bU hC hR hU; simp only [go_sem, ↓reduceIte]; subst hC hR hU))
    intro q hq'
    have e1 := fresh_if hq'
    have hpq := ne_of_new e1.2 hx
    have hm0 : HLess (upd h p Option.none) h0 := fun i o hi => by
      by_cases e : i = p
      · subst e; rw [hp0] at hi; cases hi
      · rw [upd_other _ _ e]; exact hV.less i o hi
    have hpr : b ≠ p := fun e => hpb e.symm
    have hqr : q ≠ p := fun e => hpq e.symm
    have hbM : (upd h p Option.none) b = Option.none := by rw [upd_other _ _ hpr]; exact hb
    have hqM : (upd h p Option.none) q = Option.none := by rw [upd_other _ _ hqr]; exact e1.2
    have hMp : (upd h p Option.none) p = Option.none := upd_same _ _ _
    have hhM : HLess h (upd h p Option.none) := fun i o hi => by
      by_cases e : i = p
      · subst e; rw [upd_same] at hi; cases hi
      · rw [upd_other _ _ e] at hi; exact hi
    refine run_next ?_; subst hbq
    repeat with_reducible refine run_seq fun bq hbq => ?_
    refine run_cutS (fun τ h' => τ 0 = .ptr p 0 ∧ τ 3 = .ptr b 0 ∧ τ 4 = .ptr q 0 ∧ HLess h' (upd h p Option.none) ∧ h' p = some (.cells [.list 8 (encVs vs) vs.length tk, .int .i64 n, .bool false] 158) ∧ h' b = some (.cells (cellsT u) 27) ∧ h' q = some (.cells [.int .i64 0, .int .i64 0, .str noNameS, .list 0 [] 0 .nil] 27)) ?_ fun τ h' hI => ?_
    · repeat with_reducible refine run_seq fun bq hbq => ?_
      refine run_draw (.take 0 (.take 1 (.take 2 (.take 3 (.take 4 (.one 5 [] (.one 6 [] (.done)))))))) (by kernel_rfl) (by simp only [compL, gtOf, nthDst]; exact rfl) ?_
      try dsimp only
      repeat (((first | (with_reducible refine iT ?_; refine sT rfl ?_) | (with_reducible refine i0 ?_; refine s0 rfl ?_)); intro bC bR bU hC hR hU; simp only [go_sem, ↓reduceIte, e1.1, e1.1.symm, hpb, hpb.symm, hpq, hpq.symm, hx]; subst hC hR hU))
      refine head_am vs hvs tk (d := d) (by omega) t k u hs hn _ _ ?_
      try dsimp only
      repeat first | ((with_reducible refine i0 ?_; refine s0 rfl ?_); intro bC bR bU hC hR hU; simp only [go_sem, ↓reduceIte, e1.1, e1.1.symm, hpb, hpb.symm, hpq, hpq.symm, hx]; subst hC hR hU) | with_reducible refine nD ?_
      refine run_endcut ?_
      simp only [go_sem, ↓reduceIte, e1.1, e1.1.symm, hpb, hpb.symm, hpq, hpq.symm, hx]
      exact (((hhM.new hbM).new hqM).new hbM)
    generalize upd h p Option.none = M at *
    obtain ⟨f0, f3, f4, hlM, lp, lb, lq⟩ := hI
    subst hbq
    have hw : IntKind.i64.wrap (n + 1) = n + 1 := wrap_in (by omega) (by omega)
    cases hbig : decide (n + 1 > 4000)
    case true =>
      have hb1 : n + 1 > 4000 := by simpa using hbig
      try dsimp only
      repeat first | ((with_reducible first | refine sS ?_ | refine sC ?_); intro bC bR bU hC hR hU; simp only [go_sem, ↓reduceIte, f0, f3, f4, lp, lb, lq, hw, hbig, build27_00, hpr, hpr.symm, hqr, hqr.symm]; subst hC hR hU) | (with_reducible refine rN ?_; subst hbq) | (with_reducible refine iR ?_; refine rG (by simp only [compL, gtOf, nthDst]; exact rfl) ?_) | (with_reducible refine r1 ?_; clear hbq bq) | with_reducible first | refine nS ?_ | refine rS fun bq hbq => ?_ | refine rR ?_
      refine last_as (v := enc noTerm) (by rw [Tryz.results114]) (HLess.refl _) ?_ (hlong _ noTerm ?_ ⟨((hlM.new hMp).new hqM).trans hm0, ?_⟩)
      · simp only [go_sem, ↓reduceIte, f4, aPack, Option.some.injEq, exists_eq_left']
        refine LeAV.agg (.cons (LeAV.refl _) (.cons (LeAV.refl _) (.cons (LeAV.refl _) (.cons ?_ .nil))))
        rw [show noTerm.args = [] from rfl, encs_nil]
        exact LeAV.nil _ _ _
      · rw [Term.size]; omega
      · rw [upd_other _ _ hpq, upd_same, show n + 1 = 4001 by omega]
    case false =>
      have hb1 : ¬ n + 1 > 4000 := by simpa using hbig
      try dsimp only
      repeat first | ((with_reducible first | refine sS ?_ | refine sC ?_); intro bC bR bU hC hR hU; simp only [go_sem, ↓reduceIte, f0, f3, f4, lp, lb, lq, hw, hbig, build27_3V, hpr, hpr.symm, hqr, hqr.symm]; subst hC hR hU) | (with_reducible refine rN ?_; subst hbq) | (with_reducible refine iR ?_; refine rG (by simp only [compL, gtOf, nthDst]; exact rfl) ?_) | with_reducible first | refine nS ?_ | refine rS fun bq hbq => ?_ | refine rK ?_
      intro r hr0
      have hr : (upd h' p (some (AObj.cells [.list 8 (encVs vs) vs.length tk, .int .i64 (n + 1), .bool false] 158))) r = Option.none := hr0
      have sp : (upd h' p (some (AObj.cells [.list 8 (encVs vs) vs.length tk, .int .i64 (n + 1), .bool false] 158))) p = some (.cells [.list 8 (encVs vs) vs.length tk, .int .i64 (n + 1), .bool false] 158) := upd_same _ _ _
      have sb : (upd h' p (some (AObj.cells [.list 8 (encVs vs) vs.length tk, .int .i64 (n + 1), .bool false] 158))) b = some (.cells (cellsT u) 27) := by rw [upd_other _ _ hpr]; exact lb
      have sq : (upd h' p (some (AObj.cells [.list 8 (encVs vs) vs.length tk, .int .i64 (n + 1), .bool false] 158))) q = some (.cells [.int .i64 0, .int .i64 0, .str noNameS, .list 0 [] 0 .nil] 27) := by rw [upd_other _ _ hqr]; exact lq
      have hmH : HLess (upd h' p (some (AObj.cells [.list 8 (encVs vs) vs.length tk, .int .i64 (n + 1), .bool false] 158))) M := hlM.new hMp
      generalize upd h' p (some (AObj.cells [.list 8 (encVs vs) vs.length tk, .int .i64 (n + 1), .bool false] 158)) = H at *
      have hrb := ne_of_new hr sb
      have hrp := ne_of_new hr sp
      have hrq := ne_of_new hr sq
      have hrM : M r = Option.none := hmH.none hr
      try dsimp only
      repeat first | ((with_reducible refine sS ?_); intro bC bR bU hC hR hU; simp only [go_sem, ↓reduceIte, f0, f3, f4, sp, sb, sq, hrp, hrp.symm, hrb, hrb.symm, hrq, hrq.symm]; subst hC hR hU) | (with_reducible refine rN ?_; subst hbq) | (with_reducible refine iR ?_; refine rG (by simp only [compL, gtOf, nthDst]; exact rfl) ?_) | (with_reducible refine rB fun cq hcq => ?_; subst hcq) | with_reducible first | refine nS ?_ | refine rS fun bq hbq => ?_
      refine run_loop (fun kk τ h2 => ∃ (i sz : Nat) (tok : Tok) (done : List Term) (fl : Bool) (N : Int), kk + i = u.args.length ∧ done.length = i ∧ (fl = false → done = l.take i ∧ N = n + 1 + sizes (l.take i) ∧ N ≤ 4000) ∧ (fl = true → N = 4001 ∧ n + 1 + (sizes l : Int) > 4000) ∧ τ 0 = .ptr p 0 ∧ τ 3 = .ptr b 0 ∧ τ 4 = .ptr q 0 ∧ τ 5 = .ptr r 0 ∧ τ 6 = .int .i64 i ∧ HLess h2 M ∧ h2 p = some (.cells [.list 8 (encVs vs) vs.length tk, .int .i64 N, .bool fl] 158) ∧ h2 b = some (.cells (cellsT u) 27) ∧ h2 q = some (.cells [.int .i64 0, .int .i64 0, .str noNameS, .list 0 [] 0 .nil] 27) ∧ h2 r = some (.cells [.int .i64 u.kind, .int .i64 u.n, .str u.name, .list sz (encs done) i tok] 27) ∧ Grow 27 M h2 tok ∧ (i = 0 ∨ sz = 4)) u.args.length ?_ ?_
      · refine ⟨0, 0, .nil, [], false, n + 1, rfl, rfl, fun _ => ⟨rfl, by simp [sizes], by omega⟩, fun e => absurd e (by decide), ?_⟩
        simp only [go_sem, ↓reduceIte, f0, f3, f4, encs_nil, sp, sb, sq, hrp, hrp.symm, hrq, hrq.symm, hrb, hrb.symm]
        refine ⟨rfl, hmH.new hrM, .inl (.inr rfl), by simp⟩
      intro c hc kk τ h2 hI
      clear f0 f3 f4
      obtain ⟨i, sz, tok, done, fl, N, hk, hdl, hfl0, hfl1, f0, f3, f4, f5, f6, hl2, mp, mb, mq, mr, hg, hsz0⟩ := hI
      subst hc
      have hlen8 := hn.len
      by_cases hi : i < u.args.length
      · cases fl with
        | true =>
          obtain ⟨hN, hbigv⟩ := hfl1 rfl
          try dsimp only
          repeat first | ((with_reducible first | refine sS ?_ | refine sC ?_); intro bC bR bU hC hR hU; simp only [go_sem, ↓reduceIte, f0, f3, f4, f5, f6, mp, mb, mq, mr, hi, hrq, hrq.symm]; subst hC hR hU) | (with_reducible refine rN ?_; subst hbq) | (with_reducible refine iR ?_; refine rG (by simp only [compL, gtOf, nthDst]; exact rfl) ?_) | (with_reducible refine x1 ?_; clear hbq bq) | with_reducible first | refine nS ?_ | refine rS fun bq hbq => ?_ | refine rXx ?_ | refine rR ?_ | refine x3 ?_ | refine x4 ?_
          refine last_as (v := enc ⟨u.kind, u.n, u.name, done⟩) (by rw [Tryz.results114]) (HLess.refl _) ?_ (hlong _ _ ?_ ⟨(hl2.new hqM).trans hm0, ?_⟩)
          · simp only [go_sem, ↓reduceIte, f4, aPack, Option.some.injEq, exists_eq_left']
            exact LeAV.agg (.cons (LeAV.refl _) (.cons (LeAV.refl _) (.cons (LeAV.refl _) (.cons (le_listV hdl hsz0) .nil))))
          · rw [Term.size]; omega
          · rw [upd_other _ _ hpq, mp, hN]
        | false =>
          obtain ⟨hdn2, hN, hN4⟩ := hfl0 rfl
          obtain ⟨a, hau⟩ : ∃ a, u.args[i]? = some a := ⟨_, List.getElem?_eq_getElem hi⟩
          obtain ⟨w, hw2⟩ : ∃ w, l[i]? = some w := ⟨_, List.getElem?_eq_getElem (by omega)⟩
          obtain ⟨rr, hrr⟩ := encs_at u.args i hau
          try dsimp only
          repeat first | ((with_reducible first | refine sS ?_ | refine sC ?_); intro bC bR bU hC hR hU; simp only [go_sem, ↓reduceIte, f0, f3, f4, f5, f6, mp, mb, mq, mr, hi]; subst hC hR hU) | (with_reducible refine rN ?_; subst hbq) | (with_reducible refine iR ?_; refine rG (by simp only [compL, gtOf, nthDst]; exact rfl) ?_) | (with_reducible refine rB fun cq hcq => ?_; subst hcq) | with_reducible first | refine nS ?_ | refine rS fun bq hbq => ?_ | refine rK ?_
          repeat with_reducible refine run_seq fun bq hbq => ?_
          refine run_draw (.take 0 (.take 1 (.take 2 (.take 3 (.take 4 (.take 5 (.take 6 (.take 7 (.one 8 [4, 1] (.take 9 (.one 10 [4] (.take 11 (.one 12 [] (.done)))))))))))))) (by kernel_rfl) (by simp only [compL, gtOf, nthDst]; exact rfl) ?_
          try dsimp only
          repeat (((first | (with_reducible refine iT ?_; refine sT rfl ?_) | (with_reducible refine iO ?_; refine sO rfl ?_)); intro bC bR bU hC hR hU; simp only [go_sem, ↓reduceIte, f0, f3, f4, f5, f6, mp, mb, mq, mr, hi, hrr]; subst hC hR hU))
          have hst := sizes_take hw2
          have hsl := sizes_take_le l (i + 1)
          have hin : inner u.kind d ≤ N := by unfold inner; split <;> omega
          have hself : HLess h2 (upd h2 p Option.none) := fun j o hj => by
            by_cases e : j = p
            · subst e; rw [upd_same] at hj; cases hj
            · rw [upd_other _ _ e] at hj; exact hj
          have key : AmCalls Tryz.prog 114 [.ptr p 0, enc a] h2 fun o h4 => ∃ (x : Term) (N' : Int) (fl' : Bool), o = .ret (enc x) ∧ VObj 158 vs tk p N' fl' (upd h2 p Option.none) h4 ∧ (fl' = false → x = w ∧ N' = N + w.size ∧ N' ≤ 4000) ∧ (fl' = true → N' = 4001 ∧ n + 1 + (sizes l : Int) > 4000) :=
            ih i a w hau hw2 N p (upd h2 p Option.none) _ _ (by omega) hN4 (inner_pos hd0) hin (upd_same _ _ _) ⟨hself, mp⟩
              (fun h4 hsz hV4 => ⟨w, _, false, rfl, hV4, fun _ => ⟨rfl, rfl, hsz⟩, fun e => absurd e (by decide)⟩)
              (fun h4 x hsz hV4 => ⟨x, _, true, rfl, hV4, fun e => absurd e (by decide), fun _ => ⟨rfl, by omega⟩⟩)
          refine AmCalls.mono key ?_
          intro o h4 hk4
          obtain ⟨x, N', fl', rfl, hV4, c0, c1⟩ := hk4
          have hl4 : HLess h4 M := fun j o hj => hV4.less j o (by
            have e : j ≠ p := fun e => by subst e; rw [hMp] at hj; cases hj
            rw [upd_other _ _ e]; exact hl2 j o hj)
          have lp4 := hV4.obj
          have lr4 := hV4.less r _ (by rw [upd_other _ _ hrp.symm]; exact mr)
          have lq4 := hV4.less q _ (by rw [upd_other _ _ hqr]; exact mq)
          have lb4 := hV4.less b _ (by rw [upd_other _ _ hpr]; exact mb)
          have hg4 : Grow 27 M h4 tok := by
            rcases hg with e | ⟨f, ef, hf, hf0⟩
            · exact .inl e
            · refine .inr ⟨f, ef, hV4.less f _ ?_, hf0⟩
              rw [upd_other _ _ (fun e => by subst e; rw [mp] at hf; cases hf)]
              exact hf
          try dsimp only
          repeat (((first | (with_reducible refine sA ?_) | (with_reducible refine iT ?_; refine sT rfl ?_) | (with_reducible refine iO ?_; refine sO rfl ?_)); intro bC bR bU hC hR hU; simp only [go_sem, ↓reduceIte, f0, f3, f4, f5, f6, lp4, lr4, lq4, lb4, build_term]; subst hC hR hU))
          refine cAppend_list ?_
          simp only [go_sem, ↓reduceIte]
          intro y hy
          obtain ⟨h5, ea, hg5, hl5, keep⟩ := append_grow el_25 el_25 sz_27 by_27 ze_27 ⟨rfl, by decide⟩ (h0 := M) (h := h4) (p := y) hl4 hy (sz1 := sz) (c1 := encs done) (n1 := i) (t := tok) (c2 := cellsT x) (n2 := 1) (t2 := .full) hg4 hsz0 (sz2 := 4) rfl (by decide) (by omega)
          have r5 := keep r _ _ lr4
          have q5 := keep q _ _ lq4
          have b5 := keep b _ _ lb4
          have p5' := keep p _ _ lp4
          simp only [ea, go_sem, ↓reduceIte, f5, r5, b5]
          try dsimp only
          repeat first | ((with_reducible refine sS ?_); intro bC bR bU hC hR hU; simp only [go_sem, ↓reduceIte, f5, f6, r5, b5, wrap_in (show -9223372036854775808 ≤ (i : Int) + 1 by omega) (show (i : Int) + 1 ≤ 9223372036854775807 by omega)]; subst hC hR hU) | (with_reducible refine rN ?_; subst hbq) | (with_reducible refine iR ?_; refine rG (by simp only [compL, gtOf, nthDst]; exact rfl) ?_) | with_reducible first | refine nS ?_ | refine rE ?_
          have htk : l.take (i + 1) = l.take i ++ [w] := by rw [List.take_add_one, hw2]; rfl
          refine run_loopN (m := kk - 1) (by omega) ⟨i + 1, 4, .id y, done ++ [x], fl', N', by omega, by rw [List.length_append, hdl]; rfl, fun e => ?_, c1, ?_⟩
          · obtain ⟨ex, eN, e4⟩ := c0 e
            rw [ex, hdn2, htk, ← htk, hst, eN, hN]
            exact ⟨rfl, by omega, by omega⟩
          simp only [go_sem, ↓reduceIte, f0, f3, f4, f5, encs_appV, encs_oneV, hrp, hrp.symm, hrq, hrq.symm, hrb, hrb.symm, p5', q5, b5]
          refine ⟨rfl, hl5.new hrM, ?_, by simp⟩
          rcases hg5 with e | ⟨f, ef, hf, hf0⟩
          · rcases e with e | e <;> cases e
          · injection ef with ef; subst ef
            exact .inr ⟨y, rfl, by rw [upd_other _ _ (by intro e; rw [e, r5] at hf; cases hf)]; exact hf, hf0⟩
      · have hi' : i = l.length := by omega
        try dsimp only
        repeat first | ((with_reducible first | refine sS ?_ | refine sC ?_); intro bC bR bU hC hR hU; simp only [go_sem, ↓reduceIte, f0, f3, f4, f5, f6, mp, mb, mq, mr, hi, hrq, hrq.symm]; subst hC hR hU) | (with_reducible refine rN ?_; subst hbq) | (with_reducible refine iR ?_; refine rG (by simp only [compL, gtOf, nthDst]; exact rfl) ?_) | (with_reducible refine x1 ?_; clear hbq bq) | with_reducible first | refine nS ?_ | refine rS fun bq hbq => ?_ | refine rXx ?_ | refine rR ?_ | refine x3 ?_ | refine x4 ?_
        cases fl with
        | true =>
          obtain ⟨hN, hbigv⟩ := hfl1 rfl
          refine last_as (v := enc ⟨u.kind, u.n, u.name, done⟩) (by rw [Tryz.results114]) (HLess.refl _) ?_ (hlong _ _ ?_ ⟨(hl2.new hqM).trans hm0, ?_⟩)
          · simp only [go_sem, ↓reduceIte, f4, aPack, Option.some.injEq, exists_eq_left']
            exact LeAV.agg (.cons (LeAV.refl _) (.cons (LeAV.refl _) (.cons (LeAV.refl _) (.cons (le_listV hdl hsz0) .nil))))
          · rw [Term.size]; omega
          · rw [upd_other _ _ hpq, mp, hN]
        | false =>
          obtain ⟨hdn2, hN, hN4⟩ := hfl0 rfl
          have hlt : l.take i = l := List.take_of_length_le (by omega)
          rw [hlt] at hdn2 hN
          subst hdn2
          refine last_as (v := enc ⟨u.kind, u.n, u.name, done⟩) (by rw [Tryz.results114]) (HLess.refl _) ?_ (hq _ ?_ ⟨(hl2.new hqM).trans hm0, ?_⟩)
          · simp only [go_sem, ↓reduceIte, f4, aPack, Option.some.injEq, exists_eq_left']
            exact LeAV.agg (.cons (LeAV.refl _) (.cons (LeAV.refl _) (.cons (LeAV.refl _) (.cons (le_listV hdl hsz0) .nil))))
          · rw [Term.size]; omega
          · rw [upd_other _ _ hpq, mp, hN, Term.size, show n + 1 + (sizes done : Int) = n + ((sizes done + 1 : Nat) : Int) by omega]
/- value, worth. -/


def valErr (v : Term) : Int := if (v.size : Int) > 4000 then 2 else if dep v > 100 then 5 else 0
def valOut (v : Term) : Term := if valErr v == 0 then v else noTerm
theorem build158 (cs : List AV) (n : Nat) (tk : Tok) : aBuild Tryz.prog 158 [(0, .agg [.list 8 cs n tk])] = some (.agg [.list 8 cs n tk, .int .i64 0, .bool false]) := by
  simp only [aBuild, ze_158, pl_158, aFill]
  rfl
theorem build164 (cs : List AV) (n : Nat) (tk : Tok) : aBuild Tryz.prog 164 [(0, .agg [.list 8 cs n tk])] = some (.agg [.list 8 cs n tk, .int .i64 0, .bool false]) := by
  simp only [aBuild, ze_164, pl_164, aFill]
  rfl
theorem le_zeroT : LeAV (.agg [.int .i64 0, .int .i64 0, .str noNameS, .list 0 [] 0 .nil]) (enc noTerm) := by
  refine LeAV.agg (.cons (LeAV.refl _) (.cons (LeAV.refl _) (.cons (LeAV.refl _) (.cons ?_ .nil))))
  rw [show noTerm.args = [] from rfl, encs_nil]
  exact LeAV.nil _ _ _
theorem worth_am (vs : List Va) (hvs : vs.length ≤ 1000000) (tk : Tok) {t v : Term} (hv : Val vs 0 t v) (h : AHeap) (Q : AOut → AHeap → Prop) (hq : Q (.ret (.tuple [enc (valOut v), .int .i64 (valErr v)])) h) :
    AmCalls Tryz.prog 66 [.agg [.list 8 (encVs vs) vs.length tk], enc t] h Q := by
  refine AmCalls.of_sem (fn := Tryz.f66) Tryz.func66 rfl (by kernel_rfl) (by rw [Tryz.ntmps66]; simp) (enters_of Tryz.func66 (by kernel_rfl) (by kernel_rfl)) ?_
  try dsimp only
  repeat first | ((with_reducible refine sS ?_); intro bC bR bU hC hR hU; simp only [go_sem, ↓reduceIte]; subst hC hR hU) | (with_reducible refine iR ?_; refine rG (by simp only [compL, gtOf, nthDst]; exact rfl) ?_) | with_reducible refine rS fun bq hbq => ?_
  intro a ha
  try dsimp only
  repeat (((with_reducible refine sS ?_); intro bC bR bU hC hR hU; simp only [go_sem, ↓reduceIte]; subst hC hR hU))
  intro b hb
  have e1 := fresh_if hb
  try dsimp only
  repeat (((with_reducible refine sS ?_); intro bC bR bU hC hR hU; simp only [go_sem, ↓reduceIte, e1.1, e1.1.symm]; subst hC hR hU))
  intro q hq'
  have e2 := fresh_if hq'
  have e3 := fresh_if e2.2
  try dsimp only
  repeat first | ((with_reducible refine sS ?_); intro bC bR bU hC hR hU; simp only [go_sem, ↓reduceIte, e1.1, e1.1.symm, e2.1, e2.1.symm, e3.1, e3.1.symm, build158]; subst hC hR hU) | (with_reducible refine rN ?_; subst hbq) | (with_reducible refine iR ?_; refine rG (by simp only [compL, gtOf, nthDst]; exact rfl) ?_) | with_reducible first | refine nS ?_ | refine rS fun bq hbq => ?_
  intro x hx0
  have hx : upd (upd (upd h a (some (AObj.cells [.list 8 (encVs vs) vs.length tk] 24))) b (some (AObj.cells (cellsT t) 27))) q (some (AObj.cells [.int .i64 0, .int .i64 0, .str ⟨#[]⟩, .list 0 [] 0 .nil] 27)) x = Option.none := hx0
  have sb : upd (upd (upd h a (some (AObj.cells [.list 8 (encVs vs) vs.length tk] 24))) b (some (AObj.cells (cellsT t) 27))) q (some (AObj.cells [.int .i64 0, .int .i64 0, .str ⟨#[]⟩, .list 0 [] 0 .nil] 27)) b = some (.cells (cellsT t) 27) := by rw [upd_other _ _ e2.1.symm, upd_same]
  have sq : upd (upd (upd h a (some (AObj.cells [.list 8 (encVs vs) vs.length tk] 24))) b (some (AObj.cells (cellsT t) 27))) q (some (AObj.cells [.int .i64 0, .int .i64 0, .str ⟨#[]⟩, .list 0 [] 0 .nil] 27)) q = some (AObj.cells [.int .i64 0, .int .i64 0, .str ⟨#[]⟩, .list 0 [] 0 .nil] 27) := upd_same _ _ _
  have fin : HLess (upd (upd (upd h a (some (AObj.cells [.list 8 (encVs vs) vs.length tk] 24))) b (some (AObj.cells (cellsT t) 27))) q (some (AObj.cells [.int .i64 0, .int .i64 0, .str ⟨#[]⟩, .list 0 [] 0 .nil] 27))) h := (((HLess.refl h).new ha).new e1.2).new e3.2
  clear hx0
  generalize upd (upd (upd h a (some (AObj.cells [.list 8 (encVs vs) vs.length tk] 24))) b (some (AObj.cells (cellsT t) 27))) q (some (AObj.cells [.int .i64 0, .int .i64 0, .str ⟨#[]⟩, .list 0 [] 0 .nil] 27)) = H at *
  have hxb := ne_of_new hx sb
  have hxq := ne_of_new hx sq
  try dsimp only
  repeat first | ((with_reducible refine sS ?_); intro bC bR bU hC hR hU; simp only [go_sem, ↓reduceIte, sb, sq, hxb, hxb.symm, hxq, hxq.symm]; subst hC hR hU) | (with_reducible refine rN ?_; subst hbq) | (with_reducible refine iR ?_; refine rG (by simp only [compL, gtOf, nthDst]; exact rfl) ?_) | with_reducible first | refine nS ?_ | refine rS fun bq hbq => ?_
  have key : AmCalls Tryz.prog 114 [.ptr x 0, enc t] (upd H x (some (.cells [.list 8 (encVs vs) vs.length tk, .int .i64 0, .bool false] 158))) fun o h4 => ∃ (w : Term) (N : Int) (fl : Bool), o = .ret (enc w) ∧ VObj 158 vs tk x N fl H h4 ∧ (fl = false → w = v ∧ (v.size : Int) ≤ 4000) ∧ (fl = true → (v.size : Int) > 4000) :=
    refVal_am vs hvs tk hv 0 x H _ _ (by decide) (by decide) (Int.le_refl _) (Int.le_refl _) hx ⟨(HLess.refl H).new hx, upd_same _ _ _⟩
      (fun h4 hsz hV4 => ⟨v, _, false, rfl, hV4, fun _ => ⟨rfl, by omega⟩, fun e => absurd e (by decide)⟩)
      (fun h4 w hsz hV4 => ⟨w, _, true, rfl, hV4, fun e => absurd e (by decide), fun _ => by omega⟩)
  refine AmCalls.mono key ?_
  intro o h4 hk4
  obtain ⟨w, N, fl, rfl, hV4, c0, c1⟩ := hk4
  have lq4 := hV4.less _ _ sq
  have lb4 := hV4.less _ _ sb
  have lx4 := hV4.obj
  have fin4 : HLess h4 h := hV4.less.trans fin
  try dsimp only
  repeat (((with_reducible refine sS ?_); intro bC bR bU hC hR hU; simp only [go_sem, ↓reduceIte, lq4, lb4, lx4]; subst hC hR hU))
  intro r hr
  have hrq := ne_of_new hr lq4
  have hrx := ne_of_new hr lx4
  cases fl with
  | true =>
    have hbig := c1 rfl
    have he : valErr v = 2 := by unfold valErr; rw [if_pos hbig]
    have ho : valOut v = noTerm := by unfold valOut; rw [he]; rfl
    rw [he, ho] at hq
    try dsimp only
    repeat first | ((with_reducible first | refine sS ?_ | refine sC ?_); intro bC bR bU hC hR hU; simp only [go_sem, ↓reduceIte, lq4, lx4, hrq, hrq.symm, hrx, hrx.symm, build27_00]; subst hC hR hU) | (with_reducible refine rN ?_; subst hbq) | (with_reducible refine iR ?_; refine rG (by simp only [compL, gtOf, nthDst]; exact rfl) ?_) | (with_reducible refine r1 ?_; clear hbq bq) | with_reducible first | refine nS ?_ | refine rS fun bq hbq => ?_ | refine rR ?_
    refine last_as (v := .tuple [enc noTerm, .int .i64 2]) (by rw [Tryz.results66]) ((fin4.new (fin4.none hr)).new e3.2) ?_ hq
    simp only [go_sem, ↓reduceIte, aPack, Option.some.injEq, exists_eq_left']
    exact LeAV.tuple (.cons le_zeroT (.cons (LeAV.refl _) .nil))
  | false =>
    obtain ⟨rfl, hsz⟩ := c0 rfl
    have hdp := (deep_dep w.size).1 w 100 (Nat.le_refl _)
    rw [if_neg (by decide)] at hdp
    try dsimp only
    repeat first | ((with_reducible first | refine sS ?_ | refine sC ?_); intro bC bR bU hC hR hU; simp only [go_sem, ↓reduceIte, lq4, lx4, hrq, hrq.symm, hrx, hrx.symm]; subst hC hR hU) | (with_reducible refine rN ?_; subst hbq) | (with_reducible refine iR ?_; refine rG (by simp only [compL, gtOf, nthDst]; exact rfl) ?_) | with_reducible first | refine nS ?_ | refine rS fun bq hbq => ?_ | refine rK ?_
    refine deep_am 4000 w 100 _ _ (by omega) (by omega) (by omega) (by omega) ?_
    cases hd : decide (deepF w 100 > 100)
    · have : ¬ deepF w 100 > 100 := by simpa using hd
      have he : valErr w = 0 := by unfold valErr; rw [if_neg (by omega), if_neg (by omega)]
      have ho : valOut w = w := by unfold valOut; rw [he]; rfl
      rw [he, ho] at hq
      try dsimp only
      repeat first | ((with_reducible first | refine sS ?_ | refine sC ?_); intro bC bR bU hC hR hU; simp only [go_sem, ↓reduceIte, lq4, lx4, hrq, hrq.symm, hrx, hrx.symm, hd]; subst hC hR hU) | (with_reducible refine rN ?_; subst hbq) | (with_reducible refine iR ?_; refine rG (by simp only [compL, gtOf, nthDst]; exact rfl) ?_) | (with_reducible refine iL ?_; refine rL (by rw [Tryz.results66]) ((fin4.new (fin4.none hr)).new e3.2) ?_; simp only [go_sem, ↓reduceIte, aPack, Option.some.injEq, exists_eq_left', lq4, lx4, hrq, hrq.symm, hrx, hrx.symm, hd]) | with_reducible first | refine nS ?_ | refine rS fun bq hbq => ?_ | refine rK ?_ | refine rR ?_
      exact hq
    · have : deepF w 100 > 100 := by simpa using hd
      have he : valErr w = 5 := by unfold valErr; rw [if_neg (by omega), if_pos (by omega)]
      have ho : valOut w = noTerm := by unfold valOut; rw [he]; rfl
      rw [he, ho] at hq
      try dsimp only
      repeat first | ((with_reducible first | refine sS ?_ | refine sC ?_); intro bC bR bU hC hR hU; simp only [go_sem, ↓reduceIte, lq4, lx4, hrq, hrq.symm, hrx, hrx.symm, hd, build27_00]; subst hC hR hU) | (with_reducible refine rN ?_; subst hbq) | (with_reducible refine iR ?_; refine rG (by simp only [compL, gtOf, nthDst]; exact rfl) ?_) | (with_reducible refine r1 ?_; clear hbq bq) | with_reducible first | refine nS ?_ | refine rS fun bq hbq => ?_ | refine rR ?_
      refine last_as (v := .tuple [enc noTerm, .int .i64 5]) (by rw [Tryz.results66]) ((fin4.new (fin4.none hr)).new e3.2) ?_ hq
      simp only [go_sem, ↓reduceIte, aPack, Option.some.injEq, exists_eq_left']
      exact LeAV.tuple (.cons le_zeroT (.cons (LeAV.refl _) .nil))
theorem run_lastnorm {P : Program} {h : AHeap} {fn : Func} {Q : AOut → AHeap → Prop} {τ : Env} {rs : List ResultVar} {h' : AHeap} (hr : fn.results.toList = rs) (hl : HLess h h') (hs : ∃ vs, aResL P τ h rs = some vs ∧ Q (.ret (aPack vs)) h') : bodyK P fn Q .normal τ h := by
  subst hr
  obtain ⟨vs, hv, hq⟩ := hs
  exact ⟨vs, hv, _, h', WeakV.of (LeAV.refl _) hl, hq⟩
/-- The closure that works out a value. -/
theorem valClo_am (vs : List Va) (hvs : vs.length ≤ 1000000) (tk : Tok) {t v : Term} (hv : Val vs 0 t v) (x c b o : Nat) (h0 h : AHeap) (hx0 : h0 x = Option.none) (ho0 : h0 o = Option.none) (hc : h c = some (.cells [.ptr x 0] 162)) (hb : h b = some (.cells (cellsT t) 27)) (ho : h o = some (.cells [.int .i64 0, .int .i64 0, .str noNameS, .list 0 [] 0 .nil] 27))
    (hx : h x = some (.cells [.list 8 (encVs vs) vs.length tk, .int .i64 0, .bool false] 164)) (hl : HLess h h0) (Q : AOut → AHeap → Prop)
    (hq : ∀ h2 N, (v.size : Int) ≤ 4000 → HLess h2 h0 → h2 o = some (.cells (cellsT v) 27) → h2 x = some (.cells [.list 8 (encVs vs) vs.length tk, .int .i64 N, .bool (decide (dep v > 100))] 164) → Q (.ret (.tuple [])) h2)
    (hp : ∀ h2, (v.size : Int) > 4000 → HLess h2 h0 → Q (.panic (.iface 152 (.agg [.int .i64 2]))) h2) : AmCalls Tryz.prog 122 [.ptr c 0, .ptr b 0, .ptr o 0] h Q := by
  have hxo : x ≠ o := fun e => by subst e; rw [hx] at ho; injection ho with ho; injection ho with _ ho; cases ho
  refine AmCalls.of_sem (fn := Tryz.f122) Tryz.func122 rfl (by kernel_rfl) (by rw [Tryz.ntmps122]; simp) (enters_of Tryz.func122 (by kernel_rfl) (by kernel_rfl)) ?_
  try dsimp only
  repeat first | ((with_reducible refine sS ?_); intro bC bR bU hC hR hU; simp only [go_sem, ↓reduceIte, hc, hb]; subst hC hR hU) | (with_reducible refine iR ?_; refine rG (by simp only [compL, gtOf, nthDst]; exact rfl) ?_)
  have hself : HLess h (upd h x Option.none) := fun j y hj => by
    by_cases e : j = x
    · subst e; rw [upd_same] at hj; cases hj
    · rw [upd_other _ _ e] at hj; exact hj
  have h0x : HLess (upd h x Option.none) h0 := fun j y hj => by
    have e : j ≠ x := fun e => by subst e; rw [hx0] at hj; cases hj
    rw [upd_other _ _ e]; exact hl j y hj
  refine whole_am vs hvs tk hv 0 1 false x (upd h x Option.none) _ _ (by decide) (by decide) (Int.le_refl _) (by decide) (by decide) (upd_same _ _ _) ⟨hself, hx⟩ ?_ ?_
  · intro h2 hsz hV
    have ho2 := hV.less o _ (by rw [upd_other _ _ hxo.symm]; exact ho)
    have hx2 := hV.obj
    try dsimp only
    repeat first | ((with_reducible refine sS ?_); intro bC bR bU hC hR hU; simp only [go_sem, ↓reduceIte, ho2]; subst hC hR hU) | with_reducible refine nS ?_
    refine run_lastnorm (by rw [Tryz.results122]) (HLess.refl _) ⟨[], rfl, hq _ (v.size : Int) (by omega) ((hV.less.trans h0x).new ho0) (upd_same _ _ _) ?_⟩
    rw [upd_other _ _ hxo, hx2, Bool.false_or, show 1 + dep v - 1 = dep v by omega, Int.zero_add]
  · intro h2 dp hsz hV
    dsimp only
    exact pL (HLess.refl _) (hp h2 (by omega) (hV.less.trans h0x))
theorem value_am (vs : List Va) (hvs : vs.length ≤ 1000000) (tk : Tok) {t v : Term} (hv : Val vs 0 t v) (h : AHeap) (Q : AOut → AHeap → Prop) (hq : Q (.ret (.tuple [enc (valOut v), .int .i64 (valErr v)])) h) :
    AmCalls Tryz.prog 75 [.agg [.list 8 (encVs vs) vs.length tk], enc t] h Q := by
  refine AmCalls.of_sem (fn := Tryz.f75) Tryz.func75 rfl (by kernel_rfl) (by rw [Tryz.ntmps75]; simp) (enters_of Tryz.func75 (by kernel_rfl) (by kernel_rfl)) ?_
  try dsimp only
  repeat first | ((with_reducible refine sS ?_); intro bC bR bU hC hR hU; simp only [go_sem, ↓reduceIte]; subst hC hR hU) | (with_reducible refine iR ?_; refine rG (by simp only [compL, gtOf, nthDst]; exact rfl) ?_) | with_reducible refine rS fun bq hbq => ?_
  intro a ha
  try dsimp only
  repeat (((with_reducible refine sS ?_); intro bC bR bU hC hR hU; simp only [go_sem, ↓reduceIte]; subst hC hR hU))
  intro b hb
  have e1 := fresh_if hb
  try dsimp only
  repeat (((with_reducible refine sS ?_); intro bC bR bU hC hR hU; simp only [go_sem, ↓reduceIte, e1.1, e1.1.symm]; subst hC hR hU))
  intro q hq'
  have e2 := fresh_if hq'
  have e3 := fresh_if e2.2
  try dsimp only
  repeat first | ((with_reducible refine sS ?_); intro bC bR bU hC hR hU; simp only [go_sem, ↓reduceIte, e1.1, e1.1.symm, e2.1, e2.1.symm, e3.1, e3.1.symm, build164]; subst hC hR hU) | (with_reducible refine rN ?_; subst hbq) | (with_reducible refine iR ?_; refine rG (by simp only [compL, gtOf, nthDst]; exact rfl) ?_) | with_reducible first | refine nS ?_ | refine rS fun bq hbq => ?_
  intro x hx0
  have hx : upd (upd (upd h a (some (AObj.cells [.list 8 (encVs vs) vs.length tk] 24))) b (some (AObj.cells (cellsT t) 27))) q (some (AObj.cells [.int .i64 0, .int .i64 0, .str ⟨#[]⟩, .list 0 [] 0 .nil] 27)) x = Option.none := hx0
  have sb : upd (upd (upd h a (some (AObj.cells [.list 8 (encVs vs) vs.length tk] 24))) b (some (AObj.cells (cellsT t) 27))) q (some (AObj.cells [.int .i64 0, .int .i64 0, .str ⟨#[]⟩, .list 0 [] 0 .nil] 27)) b = some (.cells (cellsT t) 27) := by rw [upd_other _ _ e2.1.symm, upd_same]
  have sq : upd (upd (upd h a (some (AObj.cells [.list 8 (encVs vs) vs.length tk] 24))) b (some (AObj.cells (cellsT t) 27))) q (some (AObj.cells [.int .i64 0, .int .i64 0, .str ⟨#[]⟩, .list 0 [] 0 .nil] 27)) q = some (AObj.cells [.int .i64 0, .int .i64 0, .str ⟨#[]⟩, .list 0 [] 0 .nil] 27) := upd_same _ _ _
  have fin : HLess (upd (upd (upd h a (some (AObj.cells [.list 8 (encVs vs) vs.length tk] 24))) b (some (AObj.cells (cellsT t) 27))) q (some (AObj.cells [.int .i64 0, .int .i64 0, .str ⟨#[]⟩, .list 0 [] 0 .nil] 27))) h := (((HLess.refl h).new ha).new e1.2).new e3.2
  clear hx0
  generalize upd (upd (upd h a (some (AObj.cells [.list 8 (encVs vs) vs.length tk] 24))) b (some (AObj.cells (cellsT t) 27))) q (some (AObj.cells [.int .i64 0, .int .i64 0, .str ⟨#[]⟩, .list 0 [] 0 .nil] 27)) = H at *
  have hxb := ne_of_new hx sb
  have hxq := ne_of_new hx sq
  try dsimp only
  repeat (((with_reducible refine sS ?_); intro bC bR bU hC hR hU; simp only [go_sem, ↓reduceIte, sb, sq, hxb, hxb.symm, hxq, hxq.symm]; subst hC hR hU))
  intro c hc0
  have hc1 := fresh_if hc0
  have hcx := hc1.1
  have hcb := ne_of_new hc1.2 sb
  have hcq := ne_of_new hc1.2 sq
  try dsimp only
  repeat first | ((with_reducible refine sS ?_); intro bC bR bU hC hR hU; simp only [go_sem, ↓reduceIte, sb, sq, hxb, hxb.symm, hxq, hxq.symm, hcx, hcx.symm, hcb, hcb.symm, hcq, hcq.symm]; subst hC hR hU) | (with_reducible refine rN ?_; subst hbq) | (with_reducible refine iR ?_; refine rG (by simp only [compL, gtOf, nthDst]; exact rfl) ?_) | with_reducible first | refine nS ?_ | refine rS fun bq hbq => ?_
  intro o ho0
  have ho1 := fresh_if ho0
  have ho2 := fresh_if ho1.2
  have hob := ne_of_new ho2.2 sb
  have hoq := ne_of_new ho2.2 sq
  have hoc := ho1.1
  have hox := ho2.1
  try dsimp only
  repeat first | ((with_reducible refine sS ?_); intro bC bR bU hC hR hU; simp only [go_sem, ↓reduceIte, sb, sq, hxb, hxb.symm, hxq, hxq.symm, hcx, hcx.symm, hcb, hcb.symm, hcq, hcq.symm, hob, hob.symm, hoq, hoq.symm, hoc, hoc.symm, hox, hox.symm]; subst hC hR hU) | (with_reducible refine rN ?_; subst hbq) | (with_reducible refine iR ?_; refine rG (by simp only [compL, gtOf, nthDst]; exact rfl) ?_) | with_reducible first | refine nS ?_ | refine rS fun bq hbq => ?_
  have tx : upd (upd (upd H x (some (AObj.cells [.list 8 (encVs vs) vs.length tk, .int .i64 0, .bool false] 164))) c (some (AObj.cells [.ptr x 0] 162))) o (some (AObj.cells [.int .i64 0, .int .i64 0, .str ⟨#[]⟩, .list 0 [] 0 .nil] 27)) x = some (.cells [.list 8 (encVs vs) vs.length tk, .int .i64 0, .bool false] 164) := by rw [upd_other _ _ hox.symm, upd_other _ _ hcx.symm, upd_same]
  have tc : upd (upd (upd H x (some (AObj.cells [.list 8 (encVs vs) vs.length tk, .int .i64 0, .bool false] 164))) c (some (AObj.cells [.ptr x 0] 162))) o (some (AObj.cells [.int .i64 0, .int .i64 0, .str ⟨#[]⟩, .list 0 [] 0 .nil] 27)) c = some (.cells [.ptr x 0] 162) := by rw [upd_other _ _ hoc.symm, upd_same]
  have to_ : upd (upd (upd H x (some (AObj.cells [.list 8 (encVs vs) vs.length tk, .int .i64 0, .bool false] 164))) c (some (AObj.cells [.ptr x 0] 162))) o (some (AObj.cells [.int .i64 0, .int .i64 0, .str ⟨#[]⟩, .list 0 [] 0 .nil] 27)) o = some (AObj.cells [.int .i64 0, .int .i64 0, .str ⟨#[]⟩, .list 0 [] 0 .nil] 27) := upd_same _ _ _
  have tH : HLess (upd (upd (upd H x (some (AObj.cells [.list 8 (encVs vs) vs.length tk, .int .i64 0, .bool false] 164))) c (some (AObj.cells [.ptr x 0] 162))) o (some (AObj.cells [.int .i64 0, .int .i64 0, .str ⟨#[]⟩, .list 0 [] 0 .nil] 27))) H := (((HLess.refl H).new hx).new hc1.2).new ho2.2
  clear hc0 ho0
  generalize upd (upd (upd H x (some (AObj.cells [.list 8 (encVs vs) vs.length tk, .int .i64 0, .bool false] 164))) c (some (AObj.cells [.ptr x 0] 162))) o (some (AObj.cells [.int .i64 0, .int .i64 0, .str ⟨#[]⟩, .list 0 [] 0 .nil] 27)) = H1 at *
  have tb := tH _ _ sb
  have tq := tH _ _ sq
  have hxo : x ≠ o := fun e => hox e.symm
  have key : AmCalls Tryz.prog 59 [.func (.func 122) [] [.ptr c 0, .ptr b 0, .ptr o 0]] H1 fun out h3 => HLess h3 (upd (upd H1 x Option.none) o Option.none) ∧
      (((v.size : Int) ≤ 4000 ∧ out = .ret (.tuple [.bool true, .int .i64 0]) ∧ h3 o = some (.cells (cellsT v) 27) ∧ ∃ N, h3 x = some (.cells [.list 8 (encVs vs) vs.length tk, .int .i64 N, .bool (decide (dep v > 100))] 164)) ∨ ((v.size : Int) > 4000 ∧ out = .ret (.tuple [.bool false, .int .i64 2]))) := by
    refine attempt_am ?_
    intro A B h1 hA hB hAB hh1
    have hAx := ne_of_new hA tx
    have hAo := ne_of_new hA to_
    have hBx := ne_of_new hB tx
    have hBo := ne_of_new hB to_
    have hA' : h1 A = some (.cells [.bool false] 4) := by rw [hh1, upd_other _ _ hAB, upd_same]
    have hB' : h1 B = some (.cells [.int .i64 0] 30) := by rw [hh1, upd_same]
    have hl1 : HLess h1 H1 := by rw [hh1]; exact ((HLess.refl H1).new hA).new hB
    have ux := hl1 _ _ tx
    have uc := hl1 _ _ tc
    have uo := hl1 _ _ to_
    have ub := hl1 _ _ tb
    have e2 : ∀ j y, (upd (upd h1 x Option.none) o Option.none) j = some y → h1 j = some y := fun j y hj => by
      by_cases e : j = o
      · subst e; rw [upd_same] at hj; cases hj
      · rw [upd_other _ _ e] at hj
        by_cases e3 : j = x
        · subst e3; rw [upd_same] at hj; cases hj
        · rw [upd_other _ _ e3] at hj; exact hj
    have hAk : (upd (upd h1 x Option.none) o Option.none) A = some (.cells [.bool false] 4) := by rw [upd_other _ _ hAo.symm, upd_other _ _ hAx.symm]; exact hA'
    have hBk : (upd (upd h1 x Option.none) o Option.none) B = some (.cells [.int .i64 0] 30) := by rw [upd_other _ _ hBo.symm, upd_other _ _ hBx.symm]; exact hB'
    have hK : ∀ h2 : AHeap, HLess h2 (upd (upd h1 x Option.none) o Option.none) → HLess (upd (upd h2 A Option.none) B Option.none) (upd (upd H1 x Option.none) o Option.none) := fun h2 hl2 j y hj => by
      have ej : j ≠ o := fun e => by subst e; rw [upd_same] at hj; cases hj
      rw [upd_other _ _ ej] at hj
      have ex : j ≠ x := fun e => by subst e; rw [upd_same] at hj; cases hj
      rw [upd_other _ _ ex] at hj
      have eA : j ≠ A := fun e => by subst e; rw [hA] at hj; cases hj
      have eB : j ≠ B := fun e => by subst e; rw [hB] at hj; cases hj
      rw [upd_other _ _ eB, upd_other _ _ eA]
      exact hl2 j y (by rw [upd_other _ _ ej, upd_other _ _ ex]; exact hl1 j y hj)
    have hless : ∀ h2 : AHeap, HLess h2 (upd (upd h2 A Option.none) B Option.none) := fun h2 j y hj => by
      by_cases e : j = B
      · subst e; rw [upd_same] at hj; cases hj
      · rw [upd_other _ _ e] at hj
        by_cases e3 : j = A
        · subst e3; rw [upd_same] at hj; cases hj
        · rw [upd_other _ _ e3] at hj; exact hj
    refine valClo_am vs hvs tk hv x c b o (upd (upd h1 x Option.none) o Option.none) h1 (by rw [upd_other _ _ hxo, upd_same]) (upd_same _ _ _) uc ub uo ux (fun j y hj => e2 j y hj) _ ?_ ?_
    · intro h2 N hsz hl2 ho2 hx2
      refine ⟨hl2 _ _ hAk, hl2 _ _ hBk, upd (upd h2 A Option.none) B Option.none, hless h2, by rw [upd_other _ _ hAB, upd_same], upd_same _ _ _, hK h2 hl2, .inl ⟨hsz, rfl, ?_, N, ?_⟩⟩
      · rw [upd_other _ _ hBo, upd_other _ _ hAo]; exact ho2
      · rw [upd_other _ _ hBx, upd_other _ _ hAx]; exact hx2
    · intro h2 hsz hl2
      exact ⟨hl2 _ _ hAk, hl2 _ _ hBk, upd (upd h2 A Option.none) B Option.none, hless h2, by rw [upd_other _ _ hAB, upd_same], upd_same _ _ _, 2, rfl, hK h2 hl2, .inr ⟨hsz, rfl⟩⟩
  refine AmCalls.mono key ?_
  intro out h3 hk3
  obtain ⟨hl3, hk3⟩ := hk3
  have vc := hl3 c _ (by rw [upd_other _ _ hoc.symm, upd_other _ _ hcx]; exact tc)
  have vq := hl3 q _ (by rw [upd_other _ _ hoq, upd_other _ _ hxq]; exact tq)
  have fin3 : HLess h3 h := (show HLess h3 H from fun j y hj => hl3 j y (by
    have ex : j ≠ x := fun e => by subst e; rw [hx] at hj; cases hj
    have eo : j ≠ o := fun e => by subst e; rw [ho2.2] at hj; cases hj
    rw [upd_other _ _ eo, upd_other _ _ ex]; exact tH j y hj)).trans fin
  rcases hk3 with ⟨hsz, rfl, vo, N, vx⟩ | ⟨hsz, rfl⟩
  · cases hd : decide (dep v > 100)
    · rw [hd] at vx
      have : ¬ dep v > 100 := by simpa using hd
      have he : valErr v = 0 := by unfold valErr; rw [if_neg (by omega), if_neg (by omega)]
      have ho : valOut v = v := by unfold valOut; rw [he]; rfl
      rw [he, ho] at hq
      try dsimp only
      repeat first | ((with_reducible first | refine sS ?_ | refine sC ?_); intro bC bR bU hC hR hU; simp only [go_sem, ↓reduceIte, vc, vq, vo, vx]; subst hC hR hU) | (with_reducible refine rN ?_; subst hbq) | (with_reducible refine iR ?_; refine rG (by simp only [compL, gtOf, nthDst]; exact rfl) ?_) | (with_reducible refine iL ?_; refine rL (by rw [Tryz.results75]) (fin3.new e3.2) ?_; simp only [go_sem, ↓reduceIte, aPack, Option.some.injEq, exists_eq_left', vc, vq, vo, vx]) | with_reducible first | refine nS ?_ | refine rS fun bq hbq => ?_ | refine rK ?_ | refine rR ?_
      exact hq
    · rw [hd] at vx
      have : dep v > 100 := by simpa using hd
      have he : valErr v = 5 := by unfold valErr; rw [if_neg (by omega), if_pos (by omega)]
      have ho : valOut v = noTerm := by unfold valOut; rw [he]; rfl
      rw [he, ho] at hq
      try dsimp only
      repeat first | ((with_reducible first | refine sS ?_ | refine sC ?_); intro bC bR bU hC hR hU; simp only [go_sem, ↓reduceIte, vc, vq, vo, vx, build27_00]; subst hC hR hU) | (with_reducible refine rN ?_; subst hbq) | (with_reducible refine iR ?_; refine rG (by simp only [compL, gtOf, nthDst]; exact rfl) ?_) | (with_reducible refine r1 ?_; clear hbq bq) | with_reducible first | refine nS ?_ | refine rS fun bq hbq => ?_ | refine rK ?_ | refine rR ?_
      refine last_as (v := .tuple [enc noTerm, .int .i64 5]) (by rw [Tryz.results75]) (fin3.new e3.2) ?_ hq
      simp only [go_sem, ↓reduceIte, aPack, Option.some.injEq, exists_eq_left']
      exact LeAV.tuple (.cons le_zeroT (.cons (LeAV.refl _) .nil))
  · have he : valErr v = 2 := by unfold valErr; rw [if_pos hsz]
    have ho : valOut v = noTerm := by unfold valOut; rw [he]; rfl
    rw [he, ho] at hq
    try dsimp only
    repeat first | ((with_reducible first | refine sS ?_ | refine sC ?_); intro bC bR bU hC hR hU; simp only [go_sem, ↓reduceIte, vc, vq, build27_00]; subst hC hR hU) | (with_reducible refine rN ?_; subst hbq) | (with_reducible refine iR ?_; refine rG (by simp only [compL, gtOf, nthDst]; exact rfl) ?_) | (with_reducible refine r1 ?_; clear hbq bq) | with_reducible first | refine nS ?_ | refine rS fun bq hbq => ?_ | refine rR ?_
    refine last_as (v := .tuple [enc noTerm, .int .i64 2]) (by rw [Tryz.results75]) (fin3.new e3.2) ?_ hq
    simp only [go_sem, ↓reduceIte, aPack, Option.some.injEq, exists_eq_left']
    exact LeAV.tuple (.cons le_zeroT (.cons (LeAV.refl _) .nil))
/- Check of the program. -/


theorem check_am (vs : List Va) (hvs : vs.length ≤ 1000000) (tk : Tok) (h : AHeap) (Q : AOut → AHeap → Prop) (hq : Q (.ret (.int .i64 (checkF vs))) h) : AmCalls Tryz.prog 26 [.agg [.list 8 (encVs vs) vs.length tk]] h Q := by
  unfold checkF at hq
  refine AmCalls.of_sem (fn := Tryz.f26) Tryz.func26 rfl (by kernel_rfl) (by rw [Tryz.ntmps26]; simp) (enters_of Tryz.func26 (by kernel_rfl) (by kernel_rfl)) ?_
  try dsimp only
  repeat first | ((with_reducible refine sS ?_); intro bC bR bU hC hR hU; simp only [go_sem, ↓reduceIte]; subst hC hR hU) | (with_reducible refine iR ?_; refine rG (by simp only [compL, gtOf, nthDst]; exact rfl) ?_) | with_reducible refine rS fun bq hbq => ?_
  intro a ha
  have fin : HLess (upd h a (some (.cells [.list 8 (encVs vs) vs.length tk] 24))) h := HLess.one ha
  have sa : (upd h a (some (AObj.cells [.list 8 (encVs vs) vs.length tk] 24))) a = some (.cells [.list 8 (encVs vs) vs.length tk] 24) := upd_same _ _ _
  cases c1 : decide ((vs.length : Int) > 2000)
  case true =>
    try dsimp only
    repeat first | ((with_reducible first | refine sS ?_ | refine sC ?_); intro bC bR bU hC hR hU; simp only [go_sem, ↓reduceIte, c1]; subst hC hR hU) | (with_reducible refine rN ?_; subst hbq) | (with_reducible refine iR ?_; refine rG (by simp only [compL, gtOf, nthDst]; exact rfl) ?_) | (with_reducible refine r1 ?_; clear hbq bq) | (with_reducible refine iL ?_; refine rL (by rw [Tryz.results26]) fin ?_; simp only [go_sem, ↓reduceIte, aPack, Option.some.injEq, exists_eq_left', c1]) | with_reducible first | refine nS ?_ | refine rS fun bq hbq => ?_ | refine rR ?_
    exact ret_as (by rw [if_pos (by simpa using c1)]) hq
  rw [if_neg (by simpa using c1)] at hq
  try dsimp only
  repeat first | ((with_reducible first | refine sS ?_ | refine sC ?_); intro bC bR bU hC hR hU; simp only [go_sem, ↓reduceIte, c1]; subst hC hR hU) | (with_reducible refine rN ?_; subst hbq) | (with_reducible refine iR ?_; refine rG (by simp only [compL, gtOf, nthDst]; exact rfl) ?_) | with_reducible first | refine nS ?_ | refine rS fun bq hbq => ?_ | refine rK ?_
  generalize upd h a (some (AObj.cells [.list 8 (encVs vs) vs.length tk] 24)) = H at *
  refine run_cutS (fun τ h' => τ 1 = .ptr a 0 ∧ HLess h' H ∧ longF vs 4000 = false) ?_ fun τ h' hI => ?_
  · repeat with_reducible refine run_seq fun bq hbq => ?_
    refine run_block fun cq hcq => ?_
    subst hcq
    refine run_loop (fun k τ h' => ∃ (i : Nat) (left : Int), k + i = vs.length ∧ longF (vs.drop i) left = longF vs 4000 ∧ 0 ≤ left ∧ left ≤ 4000 ∧ τ 1 = .ptr a 0 ∧ τ 3 = .int .i64 left ∧ τ 11 = .list 8 (encVs vs) vs.length tk ∧ τ 12 = .int .i64 vs.length ∧ τ 13 = .int .i64 i ∧ HLess h' H) vs.length ?_ ?_
    · exact ⟨0, 4000, rfl, rfl, by decide, by decide, rfl, rfl, rfl, rfl, rfl, HLess.refl _⟩
    · intro c hc k τ h' hI
      obtain ⟨i, left, hk, hix, hl0, hl1, f1, f3, f11, f12, f13, hl'⟩ := hI
      subst hc
      by_cases hi : i < vs.length
      · obtain ⟨v, hv⟩ : ∃ v, vs[i]? = some v := ⟨_, List.getElem?_eq_getElem hi⟩
        obtain ⟨r, hr⟩ := encVs_at vs i hv
        have hdrop : vs.drop i = v :: vs.drop (i + 1) := by
          rw [List.drop_eq_getElem_cons hi]
          rw [List.getElem?_eq_getElem hi] at hv; injection hv with hv; rw [hv]
        rw [hdrop, longF] at hix
        try dsimp only
        repeat first | ((with_reducible first | refine sS ?_ | refine sC ?_); intro bC bR bU hC hR hU; simp only [go_sem, ↓reduceIte, f1, f3, f11, f12, f13, hi, hr]; subst hC hR hU) | (with_reducible refine rN ?_; subst hbq) | (with_reducible refine iR ?_; refine rG (by simp only [compL, gtOf, nthDst]; exact rfl) ?_) | (with_reducible refine rB fun cq hcq => ?_; subst hcq) | with_reducible first | refine nS ?_ | refine rS fun bq hbq => ?_ | refine rK ?_
        intro p hp
        have hlp : HLess (upd h' p (some (.cells (cellsV v) 62))) H := (HLess.one hp).trans hl'
        have finp : HLess (upd h' p (some (.cells (cellsV v) 62))) h := hlp.trans fin
        cases hvi : v.is
        · rw [hvi] at hix
          try dsimp only
          repeat first | ((with_reducible first | refine sS ?_ | refine sC ?_); intro bC bR bU hC hR hU; simp only [go_sem, ↓reduceIte, f1, f3, f11, f12, f13, hvi, wrap_in (show -9223372036854775808 ≤ (i : Int) + 1 by omega) (show (i : Int) + 1 ≤ 9223372036854775807 by omega)]; subst hC hR hU) | (with_reducible refine rN ?_; subst hbq) | (with_reducible refine iR ?_; refine rG (by simp only [compL, gtOf, nthDst]; exact rfl) ?_) | with_reducible first | refine nS ?_ | refine rS fun bq hbq => ?_ | refine rK ?_ | refine rE ?_
          refine run_loopN (m := k - 1) (by omega) ⟨i + 1, left, by omega, by simpa using hix, hl0, hl1, ?_⟩
          simp only [go_sem, ↓reduceIte, f1, f3, f11, f12]
          exact ⟨rfl, (HLess.one hp).trans hl'⟩
        · rw [hvi] at hix
          simp only [if_true] at hix
          try dsimp only
          repeat first | ((with_reducible first | refine sS ?_ | refine sC ?_); intro bC bR bU hC hR hU; simp only [go_sem, ↓reduceIte, f1, f3, f11, f12, f13, hvi]; subst hC hR hU) | (with_reducible refine rN ?_; subst hbq) | (with_reducible refine iR ?_; refine rG (by simp only [compL, gtOf, nthDst]; exact rfl) ?_) | with_reducible first | refine nS ?_ | refine rS fun bq hbq => ?_
          refine parts_am v.t.size v.t left _ _ (Nat.le_refl _) (by omega) (by omega) ?_
          have hb := (partsL_bound v.t.size).1 v.t left (Nat.le_refl _)
          cases hd : decide ((v.t.size : Int) > left)
          · rw [hd] at hix
            simp only [Bool.false_eq_true, if_false] at hix
            have hd' : ¬ (v.t.size : Int) > left := by simpa using hd
            have hps := parts_of_small v.t left (by omega)
            have hw := wrap_in (show -9223372036854775808 ≤ left - v.t.size by omega) (show left - v.t.size ≤ 9223372036854775807 by omega)
            have hneg : decide (left - (v.t.size : Int) < 0) = false := by simp; omega
            rw [hps]
            try dsimp only
            repeat first | ((with_reducible first | refine sS ?_ | refine sC ?_); intro bC bR bU hC hR hU; simp only [go_sem, ↓reduceIte, f1, f3, f11, f12, f13, hvi, hw, hneg, wrap_in (show -9223372036854775808 ≤ (i : Int) + 1 by omega) (show (i : Int) + 1 ≤ 9223372036854775807 by omega)]; subst hC hR hU) | (with_reducible refine rN ?_; subst hbq) | (with_reducible refine iR ?_; refine rG (by simp only [compL, gtOf, nthDst]; exact rfl) ?_) | with_reducible first | refine nS ?_ | refine rS fun bq hbq => ?_ | refine rK ?_ | refine rE ?_
            refine run_loopN (m := k - 1) (by omega) ⟨i + 1, left - v.t.size, by omega, hix, by omega, by omega, ?_⟩
            simp only [go_sem, ↓reduceIte, f1, f11, f12]
            exact ⟨rfl, (HLess.one hp).trans hl'⟩
          · rw [hd] at hix
            simp only [if_true] at hix
            have hd' : partsF v.t left > left := (parts_big v.t left).2 (by simpa using hd)
            have hw := wrap_in (show -9223372036854775808 ≤ left - partsF v.t left by omega) (show left - partsF v.t left ≤ 9223372036854775807 by omega)
            have hneg : decide (left - partsF v.t left < 0) = true := by simp; omega
            try dsimp only
            repeat first | ((with_reducible first | refine sS ?_ | refine sC ?_); intro bC bR bU hC hR hU; simp only [go_sem, ↓reduceIte, f1, f3, f11, f12, f13, hvi, hw, hneg]; subst hC hR hU) | (with_reducible refine rN ?_; subst hbq) | (with_reducible refine iR ?_; refine rG (by simp only [compL, gtOf, nthDst]; exact rfl) ?_) | (with_reducible refine r1 ?_; clear hbq bq) | (with_reducible refine iL ?_; refine rL (by rw [Tryz.results26]) ((HLess.one hp).trans (hl'.trans fin)) ?_; simp only [go_sem, ↓reduceIte, aPack, Option.some.injEq, exists_eq_left', f1, f3, f11, f12, f13, hvi, hw, hneg]) | with_reducible first | refine nS ?_ | refine rS fun bq hbq => ?_ | refine rR ?_ | refine r2 ?_ | refine r3 ?_ | refine r4 ?_
            exact ret_as (by rw [← hix, if_pos rfl]) hq
      · rw [List.drop_eq_nil_of_le (by omega), longF] at hix
        try dsimp only
        repeat first | ((with_reducible first | refine sS ?_ | refine sC ?_); intro bC bR bU hC hR hU; simp only [go_sem, ↓reduceIte, f1, f3, f11, f12, f13, hi]; subst hC hR hU) | (with_reducible refine rN ?_; subst hbq) | (with_reducible refine iR ?_; refine rG (by simp only [compL, gtOf, nthDst]; exact rfl) ?_) | (with_reducible refine x1 ?_; clear hbq bq) | with_reducible first | refine nS ?_ | refine rS fun bq hbq => ?_ | refine rXx ?_ | refine x3 ?_ | refine x4 ?_
        refine run_endcut ?_
        exact ⟨f1, hl', hix.symm⟩
  · obtain ⟨f1, hl', hlg⟩ := hI
    subst hbq
    rw [hlg] at hq
    simp only [Bool.false_eq_true, if_false] at hq
    have ta := hl' _ _ sa
    have fin2 : HLess h' h := hl'.trans fin
    try dsimp only
    repeat first | ((with_reducible refine sS ?_); intro bC bR bU hC hR hU; simp only [go_sem, ↓reduceIte, f1, ta]; subst hC hR hU) | (with_reducible refine iR ?_; refine rG (by simp only [compL, gtOf, nthDst]; exact rfl) ?_) | with_reducible refine rS fun bq hbq => ?_
    refine AmCalls.args (args' := [.list 8 (encVs vs) vs.length .none, .func (.func 72) [] [.ptr a 0]]) (.cons (LeAV.list _ _ _ _) (.cons (LeAV.refl _) .nil)) (containsFuncV_am vs 72 [] [.ptr a 0] (fun v => !validF vs v) _ _ (by omega) (fun i u hu _ h2 Q2 hl2 hq2 => valid72 vs hvs tk u h2 a (hl2 _ _ ta) Q2 hq2) ?_)
    cases hall : vs.any fun v => !validF vs v
    · have hall' : vs.all (validF vs) = true := by
        rw [List.all_eq_true]
        rw [List.any_eq_false] at hall
        intro v hv
        have := hall v hv
        simpa using this
      rw [hall'] at hq
      simp only [if_true] at hq
      have hg := good_of vs hlg hall'
      try dsimp only
      repeat (((with_reducible refine sS ?_); intro bC bR bU hC hR hU; simp only [go_sem, ↓reduceIte, f1, ta, hall]; subst hC hR hU))
      refine circles_am vs hvs hg.vals tk _ _ ?_
      cases hc : circlesF vs
      · try dsimp only
        repeat first | ((with_reducible first | refine sS ?_ | refine sC ?_); intro bC bR bU hC hR hU; simp only [go_sem, ↓reduceIte, f1, ta, hall, hc]; subst hC hR hU) | (with_reducible refine rN ?_; subst hbq) | (with_reducible refine iR ?_; refine rG (by simp only [compL, gtOf, nthDst]; exact rfl) ?_) | (with_reducible refine iL ?_; refine rL (by rw [Tryz.results26]) fin2 ?_; simp only [go_sem, ↓reduceIte, aPack, Option.some.injEq, exists_eq_left', f1, ta, hall, hc]) | with_reducible first | refine nS ?_ | refine rS fun bq hbq => ?_ | refine rK ?_ | refine rR ?_
        exact ret_as (by rw [hc]; first | done | rfl) hq
      · try dsimp only
        repeat first | ((with_reducible first | refine sS ?_ | refine sC ?_); intro bC bR bU hC hR hU; simp only [go_sem, ↓reduceIte, f1, ta, hall, hc]; subst hC hR hU) | (with_reducible refine rN ?_; subst hbq) | (with_reducible refine iR ?_; refine rG (by simp only [compL, gtOf, nthDst]; exact rfl) ?_) | (with_reducible refine r1 ?_; clear hbq bq) | (with_reducible refine iL ?_; refine rL (by rw [Tryz.results26]) fin2 ?_; simp only [go_sem, ↓reduceIte, aPack, Option.some.injEq, exists_eq_left', f1, ta, hall, hc]) | with_reducible first | refine nS ?_ | refine rS fun bq hbq => ?_ | refine rR ?_
        exact ret_as (by rw [hc]; first | done | rfl) hq
    · have hall' : vs.all (validF vs) = false := by
        rw [Bool.eq_false_iff]
        intro h1
        rw [List.all_eq_true] at h1
        rw [List.any_eq_true] at hall
        obtain ⟨v, hv, h2⟩ := hall
        rw [h1 v hv] at h2; cases h2
      rw [hall'] at hq
      try dsimp only
      repeat first | ((with_reducible first | refine sS ?_ | refine sC ?_); intro bC bR bU hC hR hU; simp only [go_sem, ↓reduceIte, f1, ta, hall]; subst hC hR hU) | (with_reducible refine rN ?_; subst hbq) | (with_reducible refine iR ?_; refine rG (by simp only [compL, gtOf, nthDst]; exact rfl) ?_) | (with_reducible refine r1 ?_; clear hbq bq) | (with_reducible refine iL ?_; refine rL (by rw [Tryz.results26]) fin2 ?_; simp only [go_sem, ↓reduceIte, aPack, Option.some.injEq, exists_eq_left', f1, ta, hall]) | with_reducible first | refine nS ?_ | refine rS fun bq hbq => ?_ | refine rR ?_
      exact hq
/- Check of the reference. -/


theorem refBody_size : ∀ (n : Nat) (t : Term), (bodyOut (refBodyF n t)).1.size ≤ t.size
  | 0, t => Nat.le_refl _
  | n + 1, t => by
    rw [refBodyF]
    split
    · rename_i h
      obtain ⟨u, hu⟩ := lam1_one h
      rw [hu]
      have h1 := refBody_size n u
      have h2 := size_arg t 0 (t := u) (by rw [hu]; rfl)
      simp only [List.headD_cons]
      omega
    · obtain ⟨a, b, c, l⟩ := t
      simp only [bodyOut]
      rw [Term.size, Term.size, sizes]; omega
theorem refCheck_am (vs : List Va) (hvs : vs.length ≤ 1000000) (tk : Tok) (h : AHeap) (Q : AOut → AHeap → Prop) (hq : Q (.ret (.int .i64 (checkF vs))) h) : AmCalls Tryz.prog 37 [.agg [.list 8 (encVs vs) vs.length tk]] h Q := by
  unfold checkF at hq
  refine AmCalls.of_sem (fn := Tryz.f37) Tryz.func37 rfl (by kernel_rfl) (by rw [Tryz.ntmps37]; simp) (enters_of Tryz.func37 (by kernel_rfl) (by kernel_rfl)) ?_
  try dsimp only
  repeat first | ((with_reducible refine sS ?_); intro bC bR bU hC hR hU; simp only [go_sem, ↓reduceIte]; subst hC hR hU) | (with_reducible refine iR ?_; refine rG (by simp only [compL, gtOf, nthDst]; exact rfl) ?_) | with_reducible refine rS fun bq hbq => ?_
  intro a ha
  have fin : HLess (upd h a (some (.cells [.list 8 (encVs vs) vs.length tk] 24))) h := HLess.one ha
  have sa : (upd h a (some (AObj.cells [.list 8 (encVs vs) vs.length tk] 24))) a = some (.cells [.list 8 (encVs vs) vs.length tk] 24) := upd_same _ _ _
  cases c1 : decide ((vs.length : Int) > 2000)
  case true =>
    try dsimp only
    repeat first | ((with_reducible first | refine sS ?_ | refine sC ?_); intro bC bR bU hC hR hU; simp only [go_sem, ↓reduceIte, c1]; subst hC hR hU) | (with_reducible refine rN ?_; subst hbq) | (with_reducible refine iR ?_; refine rG (by simp only [compL, gtOf, nthDst]; exact rfl) ?_) | (with_reducible refine r1 ?_; clear hbq bq) | (with_reducible refine iL ?_; refine rL (by rw [Tryz.results37]) fin ?_; simp only [go_sem, ↓reduceIte, aPack, Option.some.injEq, exists_eq_left', c1]) | with_reducible first | refine nS ?_ | refine rS fun bq hbq => ?_ | refine rR ?_
    exact ret_as (by rw [if_pos (by simpa using c1)]) hq
  rw [if_neg (by simpa using c1)] at hq
  try dsimp only
  repeat first | ((with_reducible first | refine sS ?_ | refine sC ?_); intro bC bR bU hC hR hU; simp only [go_sem, ↓reduceIte, c1]; subst hC hR hU) | (with_reducible refine rN ?_; subst hbq) | (with_reducible refine iR ?_; refine rG (by simp only [compL, gtOf, nthDst]; exact rfl) ?_) | with_reducible first | refine nS ?_ | refine rS fun bq hbq => ?_ | refine rK ?_
  generalize upd h a (some (AObj.cells [.list 8 (encVs vs) vs.length tk] 24)) = H at *
  refine run_cutS (fun τ h' => τ 1 = .ptr a 0 ∧ h' = H ∧ longF vs 4000 = false) ?_ fun τ h' hI => ?_
  · repeat with_reducible refine run_seq fun bq hbq => ?_
    refine run_block fun cq hcq => ?_
    subst hcq
    refine run_loop (fun k τ h' => ∃ (i : Nat) (left : Int), k + i = vs.length ∧ longF (vs.drop i) left = longF vs 4000 ∧ 0 ≤ left ∧ left ≤ 4000 ∧ τ 1 = .ptr a 0 ∧ τ 3 = .int .i64 (4000 - left) ∧ τ 4 = .int .i64 i ∧ h' = H) vs.length ?_ ?_
    · exact ⟨0, 4000, rfl, rfl, by decide, by decide, rfl, rfl, rfl, rfl⟩
    · intro c hc k τ h' hI
      obtain ⟨i, left, hk, hix, hl0, hl1, f1, f3, f4, rfl⟩ := hI
      subst hc
      by_cases hi : i < vs.length
      · obtain ⟨v, hv⟩ : ∃ v, vs[i]? = some v := ⟨_, List.getElem?_eq_getElem hi⟩
        obtain ⟨r, hr⟩ := encVs_at vs i hv
        have hr3 : List.drop (i * 8 + 3) (encVs vs) = .bool v.is :: (List.drop 4 (cellsV v) ++ r) := by rw [← List.drop_drop, hr]; rfl
        have hr4 : List.drop (i * 8 + 4) (encVs vs) = .int .i64 v.t.kind :: .int .i64 v.t.n :: .str v.t.name :: .list 4 (encs v.t.args) v.t.args.length .none :: r := by rw [← List.drop_drop, hr]; rfl
        have hdrop : vs.drop i = v :: vs.drop (i + 1) := by
          rw [List.drop_eq_getElem_cons hi]
          rw [List.getElem?_eq_getElem hi] at hv; injection hv with hv; rw [hv]
        rw [hdrop, longF] at hix
        cases hvi : v.is
        · rw [hvi] at hix
          try dsimp only
          repeat first | ((with_reducible first | refine sS ?_ | refine sC ?_); intro bC bR bU hC hR hU; simp only [go_sem, ↓reduceIte, f1, f3, f4, sa, hi, hr3, hvi, wrap_in (show -9223372036854775808 ≤ (i : Int) + 1 by omega) (show (i : Int) + 1 ≤ 9223372036854775807 by omega)]; subst hC hR hU) | (with_reducible refine rN ?_; subst hbq) | (with_reducible refine iR ?_; refine rG (by simp only [compL, gtOf, nthDst]; exact rfl) ?_) | (with_reducible refine rB fun cq hcq => ?_; subst hcq) | with_reducible first | refine nS ?_ | refine rS fun bq hbq => ?_ | refine rK ?_ | refine rE ?_
          refine run_loopN (m := k - 1) (by omega) ⟨i + 1, left, by omega, by simpa using hix, hl0, hl1, f1, f3, rfl, rfl⟩
        · rw [hvi] at hix
          simp only [if_true] at hix
          try dsimp only
          repeat first | ((with_reducible first | refine sS ?_ | refine sC ?_); intro bC bR bU hC hR hU; simp only [go_sem, ↓reduceIte, f1, f3, f4, sa, hi, hr3, hr4, hvi]; subst hC hR hU) | (with_reducible refine rN ?_; subst hbq) | (with_reducible refine iR ?_; refine rG (by simp only [compL, gtOf, nthDst]; exact rfl) ?_) | (with_reducible refine rB fun cq hcq => ?_; subst hcq) | with_reducible first | refine nS ?_ | refine rS fun bq hbq => ?_ | refine rK ?_
          refine refParts_am v.t.size v.t 4000 _ _ (Nat.le_refl _) (by decide) (by decide) ?_
          have hb := (partsL_bound v.t.size).1 v.t 4000 (Nat.le_refl _)
          have hw := wrap_in (show -9223372036854775808 ≤ 4000 - left + partsF v.t 4000 by omega) (show 4000 - left + partsF v.t 4000 ≤ 9223372036854775807 by omega)
          cases hd : decide ((v.t.size : Int) > left)
          · rw [hd] at hix
            simp only [Bool.false_eq_true, if_false] at hix
            have hd' : ¬ (v.t.size : Int) > left := by simpa using hd
            have hps := parts_of_small v.t 4000 (by omega)
            rw [hps] at hw ⊢
            have hneg : decide (4000 - left + (v.t.size : Int) > 4000) = false := by simp; omega
            try dsimp only
            repeat first | ((with_reducible first | refine sS ?_ | refine sC ?_); intro bC bR bU hC hR hU; simp only [go_sem, ↓reduceIte, f1, f3, f4, sa, hi, hvi, hw, hneg, wrap_in (show -9223372036854775808 ≤ (i : Int) + 1 by omega) (show (i : Int) + 1 ≤ 9223372036854775807 by omega)]; subst hC hR hU) | (with_reducible refine rN ?_; subst hbq) | (with_reducible refine iR ?_; refine rG (by simp only [compL, gtOf, nthDst]; exact rfl) ?_) | with_reducible first | refine nS ?_ | refine rS fun bq hbq => ?_ | refine rK ?_ | refine rE ?_
            refine run_loopN (m := k - 1) (by omega) ⟨i + 1, left - v.t.size, by omega, hix, by omega, by omega, f1, ?_, rfl, rfl⟩
            show AV.int .i64 _ = AV.int .i64 _
            congr 1; omega
          · rw [hd] at hix
            simp only [if_true] at hix
            have hd' : (v.t.size : Int) > left := by simpa using hd
            have hneg : decide (4000 - left + partsF v.t 4000 > 4000) = true := by
              have h1 : partsF v.t 4000 > left := by
                by_cases h2 : (v.t.size : Int) > 4000
                · have := (parts_big v.t 4000).2 h2; omega
                · rw [parts_of_small v.t 4000 (by omega)]; exact hd'
              simp; omega
            try dsimp only
            repeat first | ((with_reducible first | refine sS ?_ | refine sC ?_); intro bC bR bU hC hR hU; simp only [go_sem, ↓reduceIte, f1, f3, f4, sa, hi, hvi, hw, hneg]; subst hC hR hU) | (with_reducible refine rN ?_; subst hbq) | (with_reducible refine iR ?_; refine rG (by simp only [compL, gtOf, nthDst]; exact rfl) ?_) | (with_reducible refine r1 ?_; clear hbq bq) | (with_reducible refine iL ?_; refine rL (by rw [Tryz.results37]) fin ?_; simp only [go_sem, ↓reduceIte, aPack, Option.some.injEq, exists_eq_left', f1, f3, f4, sa, hi, hvi, hw, hneg]) | with_reducible first | refine nS ?_ | refine rS fun bq hbq => ?_ | refine rR ?_ | refine r2 ?_ | refine r3 ?_ | refine r4 ?_
            exact ret_as (by rw [← hix, if_pos rfl]) hq
      · rw [List.drop_eq_nil_of_le (by omega), longF] at hix
        try dsimp only
        repeat first | ((with_reducible first | refine sS ?_ | refine sC ?_); intro bC bR bU hC hR hU; simp only [go_sem, ↓reduceIte, f1, f3, f4, sa, hi]; subst hC hR hU) | (with_reducible refine rN ?_; subst hbq) | (with_reducible refine iR ?_; refine rG (by simp only [compL, gtOf, nthDst]; exact rfl) ?_) | (with_reducible refine x1 ?_; clear hbq bq) | with_reducible first | refine nS ?_ | refine rS fun bq hbq => ?_ | refine rXx ?_ | refine x3 ?_ | refine x4 ?_
        refine run_endcut ?_
        exact ⟨f1, rfl, hix.symm⟩
  obtain ⟨f1, rfl, hlg⟩ := hI
  subst hbq
  generalize h' = H1 at *
  rw [hlg] at hq
  simp only [Bool.false_eq_true, if_false] at hq
  have hbad : ∀ v ∈ vs, validF vs v = false → Q (.ret (.int .i64 50)) h := fun v hv e => by
    have hall : vs.all (validF vs) = false := by
      rw [Bool.eq_false_iff]; intro h1
      rw [List.all_eq_true] at h1
      rw [h1 v hv] at e; cases e
    rw [hall] at hq
    exact hq
  try dsimp only
  repeat first | ((with_reducible refine sS ?_); intro bC bR bU hC hR hU; simp only [go_sem, ↓reduceIte, f1, sa]; subst hC hR hU) | (with_reducible refine rN ?_; subst hbq) | (with_reducible refine iR ?_; refine rG (by simp only [compL, gtOf, nthDst]; exact rfl) ?_) | with_reducible first | refine nS ?_ | refine rS fun bq hbq => ?_
  refine run_cutS (fun τ h'' => τ 1 = .ptr a 0 ∧ h'' = H1 ∧ ∀ v ∈ vs, typeOkF v = true) ?_ fun τ h' hI => ?_
  · repeat with_reducible refine run_seq fun bq hbq => ?_
    refine run_block fun cq hcq => ?_
    subst hcq
    refine run_loop (fun k τ h'' => ∃ (i : Nat), k + i = vs.length ∧ (∀ v ∈ vs.take i, typeOkF v = true) ∧ τ 1 = .ptr a 0 ∧ τ 5 = .int .i64 i ∧ h'' = H1) vs.length ?_ ?_
    · exact ⟨0, rfl, fun v hv => absurd hv (by simp), f1, rfl, rfl⟩
    · intro c hc k τ h'' hI
      clear f1
      obtain ⟨i, hk, hok, f1, f5, rfl⟩ := hI
      subst hc
      by_cases hi : i < vs.length
      · obtain ⟨v, hv⟩ : ∃ v, vs[i]? = some v := ⟨_, List.getElem?_eq_getElem hi⟩
        have hvm := List.mem_of_getElem? hv
        obtain ⟨r, hr⟩ := encVs_at vs i hv
        have hr1 : List.drop (i * 8 + 1) (encVs vs) = .str v.type.name :: .list 2 (encTs v.type.args) v.type.args.length .none :: (List.drop 3 (cellsV v) ++ r) := by rw [← List.drop_drop, hr]; rfl
        have hto : typeOkF v = false → Q (.ret (.int .i64 50)) h := fun e => hbad v hvm (by unfold validF; rw [e]; rfl)
        try dsimp only
        repeat first | ((with_reducible first | refine sS ?_ | refine sC ?_); intro bC bR bU hC hR hU; simp only [go_sem, ↓reduceIte, f1, f5, sa, hi, hr, hr1]; subst hC hR hU) | (with_reducible refine rN ?_; subst hbq) | (with_reducible refine iR ?_; refine rG (by simp only [compL, gtOf, nthDst]; exact rfl) ?_) | (with_reducible refine rB fun cq hcq => ?_; subst hcq) | with_reducible first | refine nS ?_ | refine rS fun bq hbq => ?_ | refine rK ?_
        refine refArgs_am v.type _ _ ?_
        rw [argsV_eq]
        cases ho : (argsF v.type).isSome
        · try dsimp only
          repeat first | ((with_reducible first | refine sS ?_ | refine sC ?_); intro bC bR bU hC hR hU; simp only [go_sem, ↓reduceIte, f1, f5, sa, hi, hr, hr1, ho]; subst hC hR hU) | (with_reducible refine rN ?_; subst hbq) | (with_reducible refine iR ?_; refine rG (by simp only [compL, gtOf, nthDst]; exact rfl) ?_) | (with_reducible refine r1 ?_; clear hbq bq) | (with_reducible refine iL ?_; refine rL (by rw [Tryz.results37]) fin ?_; simp only [go_sem, ↓reduceIte, aPack, Option.some.injEq, exists_eq_left', f1, f5, sa, hi, hr, hr1, ho]) | with_reducible first | refine nS ?_ | refine rS fun bq hbq => ?_ | refine rR ?_ | refine r2 ?_ | refine r3 ?_ | refine r4 ?_
          exact hto (by simp only [typeOkF, ho]; rfl)
        cases l0 : decide (v.level < 0)
        case true =>
          try dsimp only
          repeat first | ((with_reducible first | refine sS ?_ | refine sC ?_); intro bC bR bU hC hR hU; simp only [go_sem, ↓reduceIte, f1, f5, sa, hi, hr, hr1, ho, l0]; subst hC hR hU) | (with_reducible refine rN ?_; subst hbq) | (with_reducible refine iR ?_; refine rG (by simp only [compL, gtOf, nthDst]; exact rfl) ?_) | (with_reducible refine r1 ?_; clear hbq bq) | (with_reducible refine iL ?_; refine rL (by rw [Tryz.results37]) fin ?_; simp only [go_sem, ↓reduceIte, aPack, Option.some.injEq, exists_eq_left', f1, f5, sa, hi, hr, hr1, ho, l0]) | with_reducible first | refine nS ?_ | refine rS fun bq hbq => ?_ | refine rR ?_ | refine r2 ?_ | refine r3 ?_ | refine r4 ?_
          exact hto (by simp only [typeOkF, ho, l0]; rfl)
        cases l1 : decide (v.level > 60)
        case true =>
          try dsimp only
          repeat first | ((with_reducible first | refine sS ?_ | refine sC ?_); intro bC bR bU hC hR hU; simp only [go_sem, ↓reduceIte, f1, f5, sa, hi, hr, hr1, ho, l0, l1]; subst hC hR hU) | (with_reducible refine rN ?_; subst hbq) | (with_reducible refine iR ?_; refine rG (by simp only [compL, gtOf, nthDst]; exact rfl) ?_) | (with_reducible refine r1 ?_; clear hbq bq) | (with_reducible refine iL ?_; refine rL (by rw [Tryz.results37]) fin ?_; simp only [go_sem, ↓reduceIte, aPack, Option.some.injEq, exists_eq_left', f1, f5, sa, hi, hr, hr1, ho, l0, l1]) | with_reducible first | refine nS ?_ | refine rS fun bq hbq => ?_ | refine rR ?_ | refine r2 ?_ | refine r3 ?_ | refine r4 ?_
          exact hto (by simp only [typeOkF, ho, l0, l1]; rfl)
        try dsimp only
        repeat first | ((with_reducible first | refine sS ?_ | refine sC ?_); intro bC bR bU hC hR hU; simp only [go_sem, ↓reduceIte, f1, f5, sa, hi, hr, hr1, ho, l0, l1, wrap_in (show -9223372036854775808 ≤ (i : Int) + 1 by omega) (show (i : Int) + 1 ≤ 9223372036854775807 by omega)]; subst hC hR hU) | (with_reducible refine rN ?_; subst hbq) | (with_reducible refine iR ?_; refine rG (by simp only [compL, gtOf, nthDst]; exact rfl) ?_) | with_reducible first | refine nS ?_ | refine rS fun bq hbq => ?_ | refine rK ?_ | refine rE ?_
        refine run_loopN (m := k - 1) (by omega) ⟨i + 1, by omega, fun w hw => ?_, f1, rfl, rfl⟩
        rw [List.take_add_one, hv] at hw
        rcases List.mem_append.1 hw with hw | hw
        · exact hok w hw
        · simp only [Option.toList_some, List.mem_singleton] at hw
          subst hw
          simp only [typeOkF, ho, l0, l1]; rfl
      · rw [List.take_of_length_le (by omega)] at hok
        try dsimp only
        repeat first | ((with_reducible first | refine sS ?_ | refine sC ?_); intro bC bR bU hC hR hU; simp only [go_sem, ↓reduceIte, f1, f5, sa, hi]; subst hC hR hU) | (with_reducible refine rN ?_; subst hbq) | (with_reducible refine iR ?_; refine rG (by simp only [compL, gtOf, nthDst]; exact rfl) ?_) | (with_reducible refine x1 ?_; clear hbq bq) | with_reducible first | refine nS ?_ | refine rS fun bq hbq => ?_ | refine rXx ?_ | refine x3 ?_ | refine x4 ?_
        refine run_endcut ?_
        exact ⟨f1, rfl, hok⟩
  clear f1
  obtain ⟨f1, rfl, hty⟩ := hI
  subst hbq
  generalize h' = H2 at *
  try dsimp only
  repeat first | ((with_reducible refine sS ?_); intro bC bR bU hC hR hU; simp only [go_sem, ↓reduceIte, f1, sa]; subst hC hR hU) | (with_reducible refine rN ?_; subst hbq) | (with_reducible refine iR ?_; refine rG (by simp only [compL, gtOf, nthDst]; exact rfl) ?_) | with_reducible first | refine nS ?_ | refine rS fun bq hbq => ?_
  refine run_cutS (fun τ h2 => τ 1 = .ptr a 0 ∧ HLess h2 H2 ∧ ∀ v ∈ vs, validF vs v = true) ?_ fun τ h' hI => ?_
  · repeat with_reducible refine run_seq fun bq hbq => ?_
    refine run_block fun cq hcq => ?_
    subst hcq
    refine run_loop (fun k τ h2 => ∃ (i : Nat), k + i = vs.length ∧ (∀ v ∈ vs.take i, validF vs v = true) ∧ τ 1 = .ptr a 0 ∧ τ 8 = .int .i64 i ∧ HLess h2 H2) vs.length ?_ ?_
    · exact ⟨0, rfl, fun v hv => absurd hv (by simp), f1, rfl, HLess.refl _⟩
    · intro c hc k τ h2 hI
      clear f1
      obtain ⟨i, hk, hok, f1, f8, hl2⟩ := hI
      subst hc
      have sa2 := hl2 _ _ sa
      by_cases hi : i < vs.length
      · obtain ⟨v, hv⟩ : ∃ v, vs[i]? = some v := ⟨_, List.getElem?_eq_getElem hi⟩
        have hvm := List.mem_of_getElem? hv
        have hva : valAt vs (i : Int) = v := by rw [valAt, Int.toNat_natCast, List.getD_eq_getElem?_getD, hv]; rfl
        obtain ⟨r, hr⟩ := encVs_at vs i hv
        try dsimp only
        repeat first | ((with_reducible first | refine sS ?_ | refine sC ?_); intro bC bR bU hC hR hU; simp only [go_sem, ↓reduceIte, f1, f8, sa2, hi, hr]; subst hC hR hU) | (with_reducible refine rN ?_; subst hbq) | (with_reducible refine iR ?_; refine rG (by simp only [compL, gtOf, nthDst]; exact rfl) ?_) | (with_reducible refine rB fun cq hcq => ?_; subst hcq) | with_reducible first | refine nS ?_ | refine rS fun bq hbq => ?_ | refine rK ?_
        intro p hp
        have pa := ne_of_new hp sa2
        have hlp : HLess (upd h2 p (some (.cells (cellsV v) 62))) H2 := (HLess.one hp).trans hl2
        have sp : (upd h2 p (some (AObj.cells (cellsV v) 62))) p = some (.cells (cellsV v) 62) := upd_same _ _ _
        try dsimp only
        repeat first | ((with_reducible first | refine sS ?_ | refine sC ?_); intro bC bR bU hC hR hU; simp only [go_sem, ↓reduceIte]; subst hC hR hU) | (with_reducible refine rN ?_; subst hbq) | (with_reducible refine iR ?_; refine rG (by simp only [compL, gtOf, nthDst]; exact rfl) ?_) | with_reducible first | refine nS ?_ | refine rS fun bq hbq => ?_
        have sa3 := (HLess.one hp (o := some (.cells (cellsV v) 62))) _ _ sa2
        generalize upd h2 p (some (AObj.cells (cellsV v) 62)) = H3 at *
        have finp : HLess H3 h := hlp.trans fin
        have hto := hty v hvm
        have hvF : validF vs v = (if v.is then inF vs v.level (arityF v.type) (bodyF (arityF v.type) v.t) else isZeroF v.t) := by unfold validF; rw [hto, Bool.true_and]
        have hbadv : validF vs v = false → Q (.ret (.int .i64 50)) h := hbad v hvm
        have hstep : ∀ hx : AHeap, HLess hx H2 → validF vs v = true → ∀ τ2 : Env, τ2 1 = .ptr a 0 → τ2 8 = .int .i64 (i + 1 : Nat) → ∃ (j : Nat), k - 1 + j = vs.length ∧ (∀ w ∈ vs.take j, validF vs w = true) ∧ τ2 1 = .ptr a 0 ∧ τ2 8 = .int .i64 j ∧ HLess hx H2 := by
          intro hx hlx hv1 τ2 g1 g8
          refine ⟨i + 1, by omega, fun w hw => ?_, g1, g8, hlx⟩
          rw [List.take_add_one, hv] at hw
          rcases List.mem_append.1 hw with hw | hw
          · exact hok w hw
          · simp only [Option.toList_some, List.mem_singleton] at hw
            subst hw; exact hv1
        have wi := wrap_in (show -9223372036854775808 ≤ (i : Int) + 1 by omega) (show (i : Int) + 1 ≤ 9223372036854775807 by omega)
        cases hvi : v.is
        · simp only [Bool.not_false]
          rw [hvi] at hvF
          simp only [Bool.false_eq_true, if_false] at hvF
          rw [hvF] at hbadv hstep
          cases z0 : (v.t.kind == 0)
          · try dsimp only
            repeat first | ((with_reducible first | refine sS ?_ | refine sC ?_); intro bC bR bU hC hR hU; simp only [go_sem, ↓reduceIte, f1, f8, sp, hvi, z0]; subst hC hR hU) | (with_reducible refine rN ?_; subst hbq) | (with_reducible refine iR ?_; refine rG (by simp only [compL, gtOf, nthDst]; exact rfl) ?_) | (with_reducible refine r1 ?_; clear hbq bq) | (with_reducible refine iL ?_; refine rL (by rw [Tryz.results37]) finp ?_; simp only [go_sem, ↓reduceIte, aPack, Option.some.injEq, exists_eq_left', f1, f8, sp, hvi, z0]) | with_reducible first | refine nS ?_ | refine rS fun bq hbq => ?_ | refine rR ?_ | refine r2 ?_ | refine r3 ?_ | refine r4 ?_
            exact hbadv (by simp only [isZeroF, z0]; rfl)
          cases z1 : (v.t.n == 0)
          · try dsimp only
            repeat first | ((with_reducible first | refine sS ?_ | refine sC ?_); intro bC bR bU hC hR hU; simp only [go_sem, ↓reduceIte, f1, f8, sp, hvi, z0, z1]; subst hC hR hU) | (with_reducible refine rN ?_; subst hbq) | (with_reducible refine iR ?_; refine rG (by simp only [compL, gtOf, nthDst]; exact rfl) ?_) | (with_reducible refine r1 ?_; clear hbq bq) | (with_reducible refine iL ?_; refine rL (by rw [Tryz.results37]) finp ?_; simp only [go_sem, ↓reduceIte, aPack, Option.some.injEq, exists_eq_left', f1, f8, sp, hvi, z0, z1]) | with_reducible first | refine nS ?_ | refine rS fun bq hbq => ?_ | refine rR ?_ | refine r2 ?_ | refine r3 ?_ | refine r4 ?_
            exact hbadv (by simp only [isZeroF, z0, z1]; rfl)
          cases z2 : (v.t.name.toList == noNameS.toList)
          · try dsimp only
            repeat first | ((with_reducible first | refine sS ?_ | refine sC ?_); intro bC bR bU hC hR hU; simp only [go_sem, ↓reduceIte, f1, f8, sp, hvi, z0, z1, z2]; subst hC hR hU) | (with_reducible refine rN ?_; subst hbq) | (with_reducible refine iR ?_; refine rG (by simp only [compL, gtOf, nthDst]; exact rfl) ?_) | (with_reducible refine r1 ?_; clear hbq bq) | (with_reducible refine iL ?_; refine rL (by rw [Tryz.results37]) finp ?_; simp only [go_sem, ↓reduceIte, aPack, Option.some.injEq, exists_eq_left', f1, f8, sp, hvi, z0, z1, z2]) | with_reducible first | refine nS ?_ | refine rS fun bq hbq => ?_ | refine rR ?_ | refine r2 ?_ | refine r3 ?_ | refine r4 ?_
            exact hbadv (by unfold isZeroF; rw [z0, z1, show (v.t.name.toList == (⟨#[]⟩ : ByteArray).toList) = false from z2]; rfl)
          cases z3 : decide ((v.t.args.length : Int) > 0)
          · have z3' : ((v.t.args.length : Int) == 0) = true := by simp at z3 ⊢; omega
            try dsimp only
            repeat first | ((with_reducible first | refine sS ?_ | refine sC ?_); intro bC bR bU hC hR hU; simp only [go_sem, ↓reduceIte, f1, f8, sp, hvi, z0, z1, z2, z3, wi]; subst hC hR hU) | (with_reducible refine rN ?_; subst hbq) | (with_reducible refine iR ?_; refine rG (by simp only [compL, gtOf, nthDst]; exact rfl) ?_) | (with_reducible refine x1 ?_; clear hbq bq) | with_reducible first | refine nS ?_ | refine rS fun bq hbq => ?_ | refine rK ?_ | refine rXx ?_ | refine x4 ?_
            refine run_loopN (m := k - 1) (by omega) (hstep H3 hlp ?_ _ f1 rfl)
            unfold isZeroF; rw [z0, z1, show (v.t.name.toList == (⟨#[]⟩ : ByteArray).toList) = true from z2, z3']; rfl
          · have z3'' : (v.t.args.length : Int) > 0 := of_decide_eq_true z3
            have z3' : ((v.t.args.length : Int) == 0) = false := beq_eq_false_iff_ne.2 (by omega)
            try dsimp only
            repeat first | ((with_reducible first | refine sS ?_ | refine sC ?_); intro bC bR bU hC hR hU; simp only [go_sem, ↓reduceIte, f1, f8, sp, hvi, z0, z1, z2, z3]; subst hC hR hU) | (with_reducible refine rN ?_; subst hbq) | (with_reducible refine iR ?_; refine rG (by simp only [compL, gtOf, nthDst]; exact rfl) ?_) | (with_reducible refine r1 ?_; clear hbq bq) | (with_reducible refine iL ?_; refine rL (by rw [Tryz.results37]) finp ?_; simp only [go_sem, ↓reduceIte, aPack, Option.some.injEq, exists_eq_left', f1, f8, sp, hvi, z0, z1, z2, z3]) | with_reducible first | refine nS ?_ | refine rS fun bq hbq => ?_ | refine rR ?_ | refine r2 ?_ | refine r3 ?_ | refine r4 ?_
            exact hbadv (by unfold isZeroF; rw [z3', Bool.and_false])
        · simp only [Bool.not_true]
          have hs4 : v.t.size ≤ 4000 := by have := long_small vs 4000 hlg v hvm hvi; omega
          rw [hvi] at hvF
          simp only [if_true] at hvF
          rw [← in_same vs v hs4] at hvF
          unfold refInF at hvF
          rw [hvF] at hbadv hstep
          have hN := args_len v.type
          try dsimp only
          repeat first | ((with_reducible refine sS ?_); intro bC bR bU hC hR hU; simp only [go_sem, ↓reduceIte, f1, f8, sp, sa3, hvi]; subst hC hR hU) | (with_reducible refine rN ?_; subst hbq) | (with_reducible refine iR ?_; refine rG (by simp only [compL, gtOf, nthDst]; exact rfl) ?_) | with_reducible first | refine rS fun bq hbq => ?_ | refine rK ?_
          refine arity_am vs hvs tk i (by omega) (by omega) _ _ ?_
          rw [hva]
          generalize arityF v.type = N at *
          try dsimp only
          repeat first | ((with_reducible refine sS ?_); intro bC bR bU hC hR hU; simp only [go_sem, ↓reduceIte, f1, f8, sp, sa3, hvi]; subst hC hR hU) | (with_reducible refine rN ?_; subst hbq) | (with_reducible refine iR ?_; refine rG (by simp only [compL, gtOf, nthDst]; exact rfl) ?_) | with_reducible first | refine nS ?_ | refine rS fun bq hbq => ?_
          refine deep_am v.t.size v.t 108 _ _ (Nat.le_refl _) (by omega) (by omega) (by decide) ?_
          cases d1 : decide (deepF v.t 108 > 108)
          case true =>
            try dsimp only
            repeat first | ((with_reducible first | refine sS ?_ | refine sC ?_); intro bC bR bU hC hR hU; simp only [go_sem, ↓reduceIte, f1, f8, sp, sa3, d1]; subst hC hR hU) | (with_reducible refine rN ?_; subst hbq) | (with_reducible refine iR ?_; refine rG (by simp only [compL, gtOf, nthDst]; exact rfl) ?_) | (with_reducible refine r1 ?_; clear hbq bq) | (with_reducible refine iL ?_; refine rL (by rw [Tryz.results37]) finp ?_; simp only [go_sem, ↓reduceIte, aPack, Option.some.injEq, exists_eq_left', f1, f8, sp, sa3, d1]) | with_reducible first | refine nS ?_ | refine rS fun bq hbq => ?_ | refine rR ?_ | refine r2 ?_ | refine r3 ?_ | refine r4 ?_
            exact hbadv (by rw [d1]; rfl)
          try dsimp only
          repeat first | ((with_reducible first | refine sS ?_ | refine sC ?_); intro bC bR bU hC hR hU; simp only [go_sem, ↓reduceIte, f1, f8, sp, sa3, d1]; subst hC hR hU) | (with_reducible refine rN ?_; subst hbq) | (with_reducible refine iR ?_; refine rG (by simp only [compL, gtOf, nthDst]; exact rfl) ?_) | with_reducible first | refine nS ?_ | refine rS fun bq hbq => ?_ | refine rK ?_
          refine refBody_am v.t N _ _ (by omega) ?_
          have hbl := body_same N v.t
          have hbz := body_size N v.t
          have hbr := refBody_size N v.t
          generalize bodyOut (refBodyF N v.t) = B at *
          obtain ⟨b, ok⟩ := B
          simp only at hbadv hstep hbr ⊢
          try dsimp only
          repeat (((with_reducible refine sS ?_); intro bC bR bU hC hR hU; simp only [go_sem, ↓reduceIte, f1, f8, sp, sa3, d1]; subst hC hR hU))
          intro q hq2
          have qp := ne_of_new hq2 sp
          have qa := ne_of_new hq2 sa3
          have hlq : HLess (upd H3 q (some (.cells (cellsT b) 27))) H3 := HLess.one hq2
          have finq := hlq.trans finp
          cases ok
          case false =>
            try dsimp only
            repeat first | ((with_reducible first | refine sS ?_ | refine sC ?_); intro bC bR bU hC hR hU; simp only [go_sem, ↓reduceIte, f1, f8, sp, sa3]; subst hC hR hU) | (with_reducible refine rN ?_; subst hbq) | (with_reducible refine iR ?_; refine rG (by simp only [compL, gtOf, nthDst]; exact rfl) ?_) | (with_reducible refine r1 ?_; clear hbq bq) | (with_reducible refine iL ?_; refine rL (by rw [Tryz.results37]) finq ?_; simp only [go_sem, ↓reduceIte, aPack, Option.some.injEq, exists_eq_left', f1, f8, sp, sa3]) | with_reducible first | refine nS ?_ | refine rS fun bq hbq => ?_ | refine rR ?_ | refine r2 ?_ | refine r3 ?_ | refine r4 ?_
            exact hbadv (by rw [Bool.false_and, Bool.and_false])
          try dsimp only
          repeat first | ((with_reducible refine sS ?_); intro bC bR bU hC hR hU; simp only [go_sem, ↓reduceIte, f1, f8, sp, sa3, qp, qa]; subst hC hR hU) | (with_reducible refine rN ?_; subst hbq) | (with_reducible refine iR ?_; refine rG (by simp only [compL, gtOf, nthDst]; exact rfl) ?_) | with_reducible first | refine nS ?_ | refine rS fun bq hbq => ?_
          refine deep_am b.size b 100 _ _ (Nat.le_refl _) (by omega) (by omega) (by decide) ?_
          cases d2 : decide (deepF b 100 > 100)
          case true =>
            try dsimp only
            repeat first | ((with_reducible first | refine sS ?_ | refine sC ?_); intro bC bR bU hC hR hU; simp only [go_sem, ↓reduceIte, f1, f8, sp, sa3, qp, qa, d2]; subst hC hR hU) | (with_reducible refine rN ?_; subst hbq) | (with_reducible refine iR ?_; refine rG (by simp only [compL, gtOf, nthDst]; exact rfl) ?_) | (with_reducible refine r1 ?_; clear hbq bq) | (with_reducible refine iL ?_; refine rL (by rw [Tryz.results37]) finq ?_; simp only [go_sem, ↓reduceIte, aPack, Option.some.injEq, exists_eq_left', f1, f8, sp, sa3, qp, qa, d2]) | with_reducible first | refine nS ?_ | refine rS fun bq hbq => ?_ | refine rR ?_ | refine r2 ?_ | refine r3 ?_ | refine r4 ?_
            exact hbadv (by rw [d2, Bool.not_true, Bool.false_and, Bool.and_false, Bool.and_false])
          try dsimp only
          repeat (((with_reducible refine sS ?_); intro bC bR bU hC hR hU; simp only [go_sem, ↓reduceIte, f1, f8, sp, sa3, qp, qa, d2]; subst hC hR hU))
          refine lams_am v.t N _ _ (by omega) ?_
          cases d3 : lamsF N v.t
          · try dsimp only
            repeat first | ((with_reducible first | refine sS ?_ | refine sC ?_); intro bC bR bU hC hR hU; simp only [go_sem, ↓reduceIte, f1, f8, sp, sa3, qp, qa, d2, d3]; subst hC hR hU) | (with_reducible refine rN ?_; subst hbq) | (with_reducible refine iR ?_; refine rG (by simp only [compL, gtOf, nthDst]; exact rfl) ?_) | (with_reducible refine r1 ?_; clear hbq bq) | (with_reducible refine iL ?_; refine rL (by rw [Tryz.results37]) finq ?_; simp only [go_sem, ↓reduceIte, aPack, Option.some.injEq, exists_eq_left', f1, f8, sp, sa3, qp, qa, d2, d3]) | with_reducible first | refine nS ?_ | refine rS fun bq hbq => ?_ | refine rR ?_ | refine r2 ?_ | refine r3 ?_ | refine r4 ?_
            exact hbadv (by rw [d3, Bool.false_and, Bool.and_false, Bool.and_false, Bool.and_false])
          try dsimp only
          repeat (((with_reducible refine sS ?_); intro bC bR bU hC hR hU; simp only [go_sem, ↓reduceIte, f1, f8, sp, sa3, qp, qa, d2, d3]; subst hC hR hU))
          refine refFits_am vs hvs tk b.size b N _ _ (Nat.le_refl _) (by omega) (by omega) ?_
          cases d4 : fitsF vs b (N : Int)
          · try dsimp only
            repeat first | ((with_reducible first | refine sS ?_ | refine sC ?_); intro bC bR bU hC hR hU; simp only [go_sem, ↓reduceIte, f1, f8, sp, sa3, qp, qa, d2, d3, d4]; subst hC hR hU) | (with_reducible refine rN ?_; subst hbq) | (with_reducible refine iR ?_; refine rG (by simp only [compL, gtOf, nthDst]; exact rfl) ?_) | (with_reducible refine r1 ?_; clear hbq bq) | (with_reducible refine iL ?_; refine rL (by rw [Tryz.results37]) finq ?_; simp only [go_sem, ↓reduceIte, aPack, Option.some.injEq, exists_eq_left', f1, f8, sp, sa3, qp, qa, d2, d3, d4]) | with_reducible first | refine nS ?_ | refine rS fun bq hbq => ?_ | refine rR ?_ | refine r2 ?_ | refine r3 ?_ | refine r4 ?_
            exact hbadv (by rw [d4, Bool.false_and, Bool.and_false, Bool.and_false, Bool.and_false, Bool.and_false])
          try dsimp only
          repeat (((with_reducible refine sS ?_); intro bC bR bU hC hR hU; simp only [go_sem, ↓reduceIte, f1, f8, sp, sa3, qp, qa, d2, d3, d4]; subst hC hR hU))
          refine low_am vs tk v.level b.size b _ _ (Nat.le_refl _) (by omega) ((fits_vars vs b.size).1 b _ (Nat.le_refl _) d4) ?_
          cases d5 : seesF vs v.level b
          · try dsimp only
            repeat first | ((with_reducible first | refine sS ?_ | refine sC ?_); intro bC bR bU hC hR hU; simp only [go_sem, ↓reduceIte, f1, f8, sp, sa3, qp, qa, d2, d3, d4, d5]; subst hC hR hU) | (with_reducible refine rN ?_; subst hbq) | (with_reducible refine iR ?_; refine rG (by simp only [compL, gtOf, nthDst]; exact rfl) ?_) | (with_reducible refine r1 ?_; clear hbq bq) | (with_reducible refine iL ?_; refine rL (by rw [Tryz.results37]) finq ?_; simp only [go_sem, ↓reduceIte, aPack, Option.some.injEq, exists_eq_left', f1, f8, sp, sa3, qp, qa, d2, d3, d4, d5]) | with_reducible first | refine nS ?_ | refine rS fun bq hbq => ?_ | refine rR ?_ | refine r2 ?_ | refine r3 ?_ | refine r4 ?_
            exact hbadv (by rw [d5, Bool.and_false, Bool.and_false, Bool.and_false, Bool.and_false, Bool.and_false])
          try dsimp only
          repeat first | ((with_reducible first | refine sS ?_ | refine sC ?_); intro bC bR bU hC hR hU; simp only [go_sem, ↓reduceIte, f1, f8, sp, sa3, qp, qa, d2, d3, d4, d5, wi]; subst hC hR hU) | (with_reducible refine rN ?_; subst hbq) | (with_reducible refine iR ?_; refine rG (by simp only [compL, gtOf, nthDst]; exact rfl) ?_) | with_reducible first | refine nS ?_ | refine rK ?_ | refine rE ?_
          refine run_loopN (m := k - 1) (by omega) (hstep _ (hlq.trans hlp) ?_ _ f1 rfl)
          rw [d1, d2, d3, d4, d5]; rfl
      · rw [List.take_of_length_le (by omega)] at hok
        try dsimp only
        repeat first | ((with_reducible first | refine sS ?_ | refine sC ?_); intro bC bR bU hC hR hU; simp only [go_sem, ↓reduceIte, f1, f8, sa2, hi]; subst hC hR hU) | (with_reducible refine rN ?_; subst hbq) | (with_reducible refine iR ?_; refine rG (by simp only [compL, gtOf, nthDst]; exact rfl) ?_) | (with_reducible refine x1 ?_; clear hbq bq) | with_reducible first | refine nS ?_ | refine rS fun bq hbq => ?_ | refine rXx ?_ | refine x3 ?_ | refine x4 ?_
        refine run_endcut ?_
        exact ⟨f1, hl2, hok⟩
  · clear f1
    obtain ⟨f1, hl2, hok⟩ := hI
    subst hbq
    have sa2 := hl2 _ _ sa
    have hall : vs.all (validF vs) = true := by rw [List.all_eq_true]; exact hok
    have hg := good_of vs hlg hall
    rw [hall] at hq
    simp only [if_true] at hq
    have fin2 : HLess h' h := hl2.trans fin
    try dsimp only
    repeat first | ((with_reducible refine sS ?_); intro bC bR bU hC hR hU; simp only [go_sem, ↓reduceIte, f1, sa2]; subst hC hR hU) | (with_reducible refine iR ?_; refine rG (by simp only [compL, gtOf, nthDst]; exact rfl) ?_) | with_reducible refine rS fun bq hbq => ?_
    refine round_am vs hvs hg.plain hg.sizes tk _ _ ?_
    cases hc : circlesF vs
    · try dsimp only
      repeat first | ((with_reducible first | refine sS ?_ | refine sC ?_); intro bC bR bU hC hR hU; simp only [go_sem, ↓reduceIte, f1, sa2, hc]; subst hC hR hU) | (with_reducible refine rN ?_; subst hbq) | (with_reducible refine iR ?_; refine rG (by simp only [compL, gtOf, nthDst]; exact rfl) ?_) | (with_reducible refine iL ?_; refine rL (by rw [Tryz.results37]) fin2 ?_; simp only [go_sem, ↓reduceIte, aPack, Option.some.injEq, exists_eq_left', f1, sa2, hc]) | with_reducible first | refine nS ?_ | refine rS fun bq hbq => ?_ | refine rK ?_ | refine rR ?_
      exact ret_as (by rw [hc]; first | done | rfl) hq
    · try dsimp only
      repeat first | ((with_reducible first | refine sS ?_ | refine sC ?_); intro bC bR bU hC hR hU; simp only [go_sem, ↓reduceIte, f1, sa2, hc]; subst hC hR hU) | (with_reducible refine rN ?_; subst hbq) | (with_reducible refine iR ?_; refine rG (by simp only [compL, gtOf, nthDst]; exact rfl) ?_) | (with_reducible refine r1 ?_; clear hbq bq) | (with_reducible refine iL ?_; refine rL (by rw [Tryz.results37]) fin2 ?_; simp only [go_sem, ↓reduceIte, aPack, Option.some.injEq, exists_eq_left', f1, sa2, hc]) | with_reducible first | refine nS ?_ | refine rS fun bq hbq => ?_ | refine rR ?_
      exact ret_as (by rw [hc]; first | done | rfl) hq
/- fit, fitting, Fits of both sides. -/


theorem sizedS_small (t : Term) (h : (sizedF t == 0) = true) : t.size ≤ 4000 := by
  refine parts_small t fun hp => ?_
  unfold sizedF at h
  rw [if_pos hp] at h
  exact absurd h (by decide)
def fitErrS (vs : List Va) (t : Term) : Int := if sizedF t == 0 then (if fitsF vs t 0 then 0 else 6) else sizedF t
def fitErrsS (vs : List Va) : List Term → Int
  | [] => 0
  | t :: ts => if fitErrS vs t == 0 then fitErrsS vs ts else fitErrS vs t
theorem fittingS_am (vs : List Va) (hvs : vs.length ≤ 1000000) (tk : Tok) (l : List Term) (h : AHeap) (Q : AOut → AHeap → Prop) (hl : l.length ≤ 1000000000) (hq : Q (.ret (.int .i64 (if checkF vs == 0 then fitErrsS vs l else checkF vs))) h) : AmCalls Tryz.prog 57 [.agg [.list 8 (encVs vs) vs.length tk], .list 4 (encs l) l.length .none] h Q := by
  refine AmCalls.of_sem (fn := Tryz.f57) Tryz.func57 rfl (by kernel_rfl) (by rw [Tryz.ntmps57]; simp) (enters_of Tryz.func57 (by kernel_rfl) (by kernel_rfl)) ?_
  try dsimp only
  repeat first | ((with_reducible refine sS ?_); intro bC bR bU hC hR hU; simp only [go_sem, ↓reduceIte]; subst hC hR hU) | (with_reducible refine iR ?_; refine rG (by simp only [compL, gtOf, nthDst]; exact rfl) ?_) | with_reducible refine rS fun bq hbq => ?_
  intro a ha
  have fin : HLess (upd h a (some (.cells [.list 8 (encVs vs) vs.length tk] 24))) h := (HLess.refl h).new ha
  try dsimp only
  repeat first | ((with_reducible refine sS ?_); intro bC bR bU hC hR hU; simp only [go_sem, ↓reduceIte]; subst hC hR hU) | (with_reducible refine rN ?_; subst hbq) | (with_reducible refine iR ?_; refine rG (by simp only [compL, gtOf, nthDst]; exact rfl) ?_) | with_reducible first | refine nS ?_ | refine rS fun bq hbq => ?_
  refine check_am vs hvs tk _ _ ?_
  cases c0 : (checkF vs == 0)
  · rw [c0] at hq
    try dsimp only
    repeat first | ((with_reducible first | refine sS ?_ | refine sC ?_); intro bC bR bU hC hR hU; simp only [go_sem, ↓reduceIte, c0]; subst hC hR hU) | (with_reducible refine rN ?_; subst hbq) | (with_reducible refine iR ?_; refine rG (by simp only [compL, gtOf, nthDst]; exact rfl) ?_) | (with_reducible refine r1 ?_; clear hbq bq) | (with_reducible refine iL ?_; refine rL (by rw [Tryz.results57]) fin ?_; simp only [go_sem, ↓reduceIte, aPack, Option.some.injEq, exists_eq_left', c0]) | with_reducible first | refine nS ?_ | refine rS fun bq hbq => ?_ | refine rR ?_
    exact hq
  rw [c0] at hq
  simp only [if_true] at hq
  try dsimp only
  repeat first | ((with_reducible first | refine sS ?_ | refine sC ?_); intro bC bR bU hC hR hU; simp only [go_sem, ↓reduceIte, c0]; subst hC hR hU) | (with_reducible refine rN ?_; subst hbq) | (with_reducible refine iR ?_; refine rG (by simp only [compL, gtOf, nthDst]; exact rfl) ?_) | (with_reducible refine rB fun cq hcq => ?_; subst hcq) | with_reducible first | refine nS ?_ | refine rS fun bq hbq => ?_ | refine rK ?_
  refine run_loop (fun k τ h' => ∃ i : Nat, k + i = l.length ∧ τ 2 = .ptr a 0 ∧ τ 14 = .list 4 (encs l) l.length .none ∧ τ 15 = .int .i64 l.length ∧ τ 16 = .int .i64 i ∧ HLess h' h ∧ h' a = some (.cells [.list 8 (encVs vs) vs.length tk] 24) ∧ fitErrsS vs (l.drop i) = fitErrsS vs l) l.length ?_ ?_
  · exact ⟨0, rfl, rfl, rfl, rfl, rfl, fin, upd_same _ _ _, rfl⟩
  · intro c hc k τ h' hI
    obtain ⟨i, hk, f2, f14, f15, f16, hl', ma, hix⟩ := hI
    subst hc
    by_cases hi : i < l.length
    · obtain ⟨u, hu⟩ : ∃ u, l[i]? = some u := ⟨_, List.getElem?_eq_getElem hi⟩
      obtain ⟨r, hr⟩ := encs_at l i hu
      have hdrop : l.drop i = u :: l.drop (i + 1) := by
        rw [List.drop_eq_getElem_cons hi]
        rw [List.getElem?_eq_getElem hi] at hu; injection hu with hu; rw [hu]
      rw [hdrop, fitErrsS] at hix
      try dsimp only
      repeat first | ((with_reducible first | refine sS ?_ | refine sC ?_); intro bC bR bU hC hR hU; simp only [go_sem, ↓reduceIte, f2, f14, f15, f16, hi, hr]; subst hC hR hU) | (with_reducible refine rN ?_; subst hbq) | (with_reducible refine iR ?_; refine rG (by simp only [compL, gtOf, nthDst]; exact rfl) ?_) | (with_reducible refine rB fun cq hcq => ?_; subst hcq) | with_reducible first | refine nS ?_ | refine rS fun bq hbq => ?_ | refine rK ?_
      intro b hb
      have hba := ne_of_new hb ma
      have fin : HLess (upd h' b (some (.cells (cellsT u) 27))) h := hl'.new (hl'.none hb)
      try dsimp only
      repeat first | ((with_reducible refine sS ?_); intro bC bR bU hC hR hU; simp only [go_sem, ↓reduceIte, f2, f14, f15, f16, ma, hba]; subst hC hR hU) | (with_reducible refine rN ?_; subst hbq) | (with_reducible refine iR ?_; refine rG (by simp only [compL, gtOf, nthDst]; exact rfl) ?_) | with_reducible first | refine nS ?_ | refine rS fun bq hbq => ?_
      refine sized_am u _ _ ?_
      cases hs : (sizedF u == 0)
      · rw [show fitErrS vs u = sizedF u by simp only [fitErrS, hs]; rfl, hs] at hix
        try dsimp only
        repeat first | ((with_reducible first | refine sS ?_ | refine sC ?_); intro bC bR bU hC hR hU; simp only [go_sem, ↓reduceIte, f2, f14, f15, f16, ma, hba, hs]; subst hC hR hU) | (with_reducible refine rN ?_; subst hbq) | (with_reducible refine iR ?_; refine rG (by simp only [compL, gtOf, nthDst]; exact rfl) ?_) | (with_reducible refine r1 ?_; clear hbq bq) | (with_reducible refine iL ?_; refine rL (by rw [Tryz.results57]) fin ?_; simp only [go_sem, ↓reduceIte, aPack, Option.some.injEq, exists_eq_left', f2, f14, f15, f16, ma, hba, hs]) | with_reducible first | refine nS ?_ | refine rS fun bq hbq => ?_ | refine rR ?_ | refine r3 ?_ | refine r4 ?_
        exact ret_as (by rw [← hix]; rfl) hq
      · have hsz := sizedS_small u hs
        try dsimp only
        repeat first | ((with_reducible first | refine sS ?_ | refine sC ?_); intro bC bR bU hC hR hU; simp only [go_sem, ↓reduceIte, f2, f14, f15, f16, ma, hba, hs]; subst hC hR hU) | (with_reducible refine rN ?_; subst hbq) | (with_reducible refine iR ?_; refine rG (by simp only [compL, gtOf, nthDst]; exact rfl) ?_) | with_reducible first | refine nS ?_ | refine rS fun bq hbq => ?_ | refine rK ?_
        refine fits_am vs hvs tk u.size u 0 _ _ (Nat.le_refl _) (by decide) (by omega) ?_
        cases hf : fitsF vs u 0
        · rw [show fitErrS vs u = 6 by simp only [fitErrS, hs, hf]; rfl] at hix
          try dsimp only
          repeat first | ((with_reducible first | refine sS ?_ | refine sC ?_); intro bC bR bU hC hR hU; simp only [go_sem, ↓reduceIte, f2, f14, f15, f16, ma, hba, hs, hf]; subst hC hR hU) | (with_reducible refine rN ?_; subst hbq) | (with_reducible refine iR ?_; refine rG (by simp only [compL, gtOf, nthDst]; exact rfl) ?_) | (with_reducible refine r1 ?_; clear hbq bq) | (with_reducible refine iL ?_; refine rL (by rw [Tryz.results57]) fin ?_; simp only [go_sem, ↓reduceIte, aPack, Option.some.injEq, exists_eq_left', f2, f14, f15, f16, ma, hba, hs, hf]) | with_reducible first | refine nS ?_ | refine rS fun bq hbq => ?_ | refine rR ?_ | refine r3 ?_ | refine r4 ?_
          exact ret_as (by rw [← hix]; rfl) hq
        · rw [show fitErrS vs u = 0 by simp only [fitErrS, hs, hf]; rfl] at hix
          try dsimp only
          repeat first | ((with_reducible first | refine sS ?_ | refine sC ?_); intro bC bR bU hC hR hU; simp only [go_sem, ↓reduceIte, f2, f14, f15, f16, ma, hba, hs, hf, wrap_in (show -9223372036854775808 ≤ (i : Int) + 1 by omega) (show (i : Int) + 1 ≤ 9223372036854775807 by omega)]; subst hC hR hU) | (with_reducible refine rN ?_; subst hbq) | (with_reducible refine iR ?_; refine rG (by simp only [compL, gtOf, nthDst]; exact rfl) ?_) | with_reducible first | refine nS ?_ | refine rK ?_ | refine rE ?_
          refine run_loopN (m := k - 1) (by omega) ⟨i + 1, by omega, ?_⟩
          simp only [go_sem, ↓reduceIte, f2, f14, f15, f16, hba, ma]
          exact ⟨rfl, fin, hix⟩
    · rw [List.drop_eq_nil_of_le (by omega), fitErrsS] at hix
      try dsimp only
      repeat first | ((with_reducible first | refine sS ?_ | refine sC ?_); intro bC bR bU hC hR hU; simp only [go_sem, ↓reduceIte, f2, f14, f15, f16, hi]; subst hC hR hU) | (with_reducible refine rN ?_; subst hbq) | (with_reducible refine iR ?_; refine rG (by simp only [compL, gtOf, nthDst]; exact rfl) ?_) | (with_reducible refine x1 ?_; clear hbq bq) | (with_reducible refine iL ?_; refine rL (by rw [Tryz.results57]) hl' ?_; simp only [go_sem, ↓reduceIte, aPack, Option.some.injEq, exists_eq_left', f2, f14, f15, f16, hi]) | with_reducible first | refine nS ?_ | refine rS fun bq hbq => ?_ | refine rXx ?_ | refine rR ?_ | refine x3 ?_ | refine x4 ?_
      rw [hix]; exact hq
theorem build25_1 (t : Term) : aBuildSlice Tryz.prog 25 1 [(0, .agg (cellsT t))] = some (.list 4 (cellsT t) 1 .full) := build1 el_25 sz_27 ze_27 rfl rfl rfl (by decide)
theorem refFitS_am (vs : List Va) (hvs : vs.length ≤ 1000000) (tk : Tok) (t : Term) (h : AHeap) (Q : AOut → AHeap → Prop) (hq : Q (.ret (.int .i64 (fitErrS vs t))) h) : AmCalls Tryz.prog 62 [.agg [.list 8 (encVs vs) vs.length tk], enc t] h Q := by
  refine AmCalls.of_sem (fn := Tryz.f62) Tryz.func62 rfl (by kernel_rfl) (by rw [Tryz.ntmps62]; simp) (enters_of Tryz.func62 (by kernel_rfl) (by kernel_rfl)) ?_
  try dsimp only
  repeat first | ((with_reducible refine sS ?_); intro bC bR bU hC hR hU; simp only [go_sem, ↓reduceIte]; subst hC hR hU) | (with_reducible refine iR ?_; refine rG (by simp only [compL, gtOf, nthDst]; exact rfl) ?_) | with_reducible refine rS fun bq hbq => ?_
  intro a ha
  try dsimp only
  repeat (((with_reducible refine sS ?_); intro bC bR bU hC hR hU; simp only [go_sem, ↓reduceIte]; subst hC hR hU))
  intro b hb
  have e := fresh_if hb
  have fin : HLess (upd (upd h a (some (.cells [.list 8 (encVs vs) vs.length tk] 24))) b (some (.cells (cellsT t) 27))) h := (HLess.refl h).new ha |>.new e.2
  try dsimp only
  repeat first | ((with_reducible refine sS ?_); intro bC bR bU hC hR hU; simp only [go_sem, ↓reduceIte, e.1, e.1.symm]; subst hC hR hU) | (with_reducible refine rN ?_; subst hbq) | (with_reducible refine iR ?_; refine rG (by simp only [compL, gtOf, nthDst]; exact rfl) ?_) | with_reducible first | refine nS ?_ | refine rS fun bq hbq => ?_
  refine refSized_am t _ _ ?_
  rw [← sized_same]
  cases hs : (sizedF t == 0)
  · try dsimp only
    repeat first | ((with_reducible first | refine sS ?_ | refine sC ?_); intro bC bR bU hC hR hU; simp only [go_sem, ↓reduceIte, e.1, e.1.symm, hs]; subst hC hR hU) | (with_reducible refine rN ?_; subst hbq) | (with_reducible refine iR ?_; refine rG (by simp only [compL, gtOf, nthDst]; exact rfl) ?_) | (with_reducible refine r1 ?_; clear hbq bq) | (with_reducible refine iL ?_; refine rL (by rw [Tryz.results62]) fin ?_; simp only [go_sem, ↓reduceIte, aPack, Option.some.injEq, exists_eq_left', e.1, e.1.symm, hs]) | with_reducible first | refine nS ?_ | refine rS fun bq hbq => ?_ | refine rR ?_
    exact ret_as (by simp only [fitErrS, hs]; rfl) hq
  · have hsz := sizedS_small t hs
    try dsimp only
    repeat first | ((with_reducible first | refine sS ?_ | refine sC ?_); intro bC bR bU hC hR hU; simp only [go_sem, ↓reduceIte, e.1, e.1.symm, hs]; subst hC hR hU) | (with_reducible refine rN ?_; subst hbq) | (with_reducible refine iR ?_; refine rG (by simp only [compL, gtOf, nthDst]; exact rfl) ?_) | with_reducible first | refine nS ?_ | refine rS fun bq hbq => ?_ | refine rK ?_
    refine refFits_am vs hvs tk t.size t 0 _ _ (Nat.le_refl _) (by decide) (by omega) ?_
    cases hf : fitsF vs t 0
    · try dsimp only
      repeat first | ((with_reducible first | refine sS ?_ | refine sC ?_); intro bC bR bU hC hR hU; simp only [go_sem, ↓reduceIte, hf]; subst hC hR hU) | (with_reducible refine rN ?_; subst hbq) | (with_reducible refine iR ?_; refine rG (by simp only [compL, gtOf, nthDst]; exact rfl) ?_) | (with_reducible refine r1 ?_; clear hbq bq) | (with_reducible refine iL ?_; refine rL (by rw [Tryz.results62]) fin ?_; simp only [go_sem, ↓reduceIte, aPack, Option.some.injEq, exists_eq_left', hf]) | with_reducible first | refine nS ?_ | refine rS fun bq hbq => ?_ | refine rR ?_
      exact ret_as (by simp only [fitErrS, hs, hf]; rfl) hq
    · try dsimp only
      repeat first | ((with_reducible first | refine sS ?_ | refine sC ?_); intro bC bR bU hC hR hU; simp only [go_sem, ↓reduceIte, hf]; subst hC hR hU) | (with_reducible refine rN ?_; subst hbq) | (with_reducible refine iR ?_; refine rG (by simp only [compL, gtOf, nthDst]; exact rfl) ?_) | (with_reducible refine iL ?_; refine rL (by rw [Tryz.results62]) fin ?_; simp only [go_sem, ↓reduceIte, aPack, Option.some.injEq, exists_eq_left', hf]) | with_reducible first | refine nS ?_ | refine rS fun bq hbq => ?_ | refine rK ?_ | refine rR ?_
      exact ret_as (by simp only [fitErrS, hs, hf]; rfl) hq
theorem refFitsS_am (vs : List Va) (hvs : vs.length ≤ 1000000) (tk : Tok) (t : Term) (h : AHeap) (Q : AOut → AHeap → Prop) (hq : Q (.ret (.int .i64 (if checkF vs == 0 then fitErrS vs t else checkF vs))) h) : AmCalls Tryz.prog 38 [.agg [.list 8 (encVs vs) vs.length tk], enc t] h Q := by
  refine AmCalls.of_sem (fn := Tryz.f38) Tryz.func38 rfl (by kernel_rfl) (by rw [Tryz.ntmps38]; simp) (enters_of Tryz.func38 (by kernel_rfl) (by kernel_rfl)) ?_
  try dsimp only
  repeat first | ((with_reducible refine sS ?_); intro bC bR bU hC hR hU; simp only [go_sem, ↓reduceIte]; subst hC hR hU) | (with_reducible refine iR ?_; refine rG (by simp only [compL, gtOf, nthDst]; exact rfl) ?_) | with_reducible refine rS fun bq hbq => ?_
  intro a ha
  try dsimp only
  repeat (((with_reducible refine sS ?_); intro bC bR bU hC hR hU; simp only [go_sem, ↓reduceIte]; subst hC hR hU))
  intro b hb
  have e := fresh_if hb
  have fin : HLess (upd (upd h a (some (.cells [.list 8 (encVs vs) vs.length tk] 24))) b (some (.cells (cellsT t) 27))) h := (HLess.refl h).new ha |>.new e.2
  try dsimp only
  repeat first | ((with_reducible refine sS ?_); intro bC bR bU hC hR hU; simp only [go_sem, ↓reduceIte, e.1, e.1.symm]; subst hC hR hU) | (with_reducible refine rN ?_; subst hbq) | (with_reducible refine iR ?_; refine rG (by simp only [compL, gtOf, nthDst]; exact rfl) ?_) | with_reducible first | refine nS ?_ | refine rS fun bq hbq => ?_
  refine refCheck_am vs hvs tk _ _ ?_
  cases c0 : (checkF vs == 0)
  · rw [c0] at hq
    try dsimp only
    repeat first | ((with_reducible first | refine sS ?_ | refine sC ?_); intro bC bR bU hC hR hU; simp only [go_sem, ↓reduceIte, e.1, e.1.symm, c0]; subst hC hR hU) | (with_reducible refine rN ?_; subst hbq) | (with_reducible refine iR ?_; refine rG (by simp only [compL, gtOf, nthDst]; exact rfl) ?_) | (with_reducible refine r1 ?_; clear hbq bq) | (with_reducible refine iL ?_; refine rL (by rw [Tryz.results38]) fin ?_; simp only [go_sem, ↓reduceIte, aPack, Option.some.injEq, exists_eq_left', e.1, e.1.symm, c0]) | with_reducible first | refine nS ?_ | refine rS fun bq hbq => ?_ | refine rR ?_
    exact hq
  · rw [c0] at hq
    simp only [if_true] at hq
    try dsimp only
    repeat first | ((with_reducible first | refine sS ?_ | refine sC ?_); intro bC bR bU hC hR hU; simp only [go_sem, ↓reduceIte, e.1, e.1.symm, c0]; subst hC hR hU) | (with_reducible refine rN ?_; subst hbq) | (with_reducible refine iR ?_; refine rG (by simp only [compL, gtOf, nthDst]; exact rfl) ?_) | with_reducible first | refine nS ?_ | refine rS fun bq hbq => ?_ | refine rK ?_
    refine refFitS_am vs hvs tk t _ _ ?_
    try dsimp only
    repeat first | ((with_reducible refine sS ?_); intro bC bR bU hC hR hU; simp only [go_sem, ↓reduceIte, e.1, e.1.symm, c0]; subst hC hR hU) | (with_reducible refine rN ?_; subst hbq) | (with_reducible refine iL ?_; refine rL (by rw [Tryz.results38]) fin ?_; simp only [go_sem, ↓reduceIte, aPack, Option.some.injEq, exists_eq_left', e.1, e.1.symm, c0]) | with_reducible first | refine nS ?_ | refine rR ?_
    exact hq
/- Value of both sides. -/


def fitAll (vs : List Va) (t : Term) : Int := if checkF vs == 0 then fitErrS vs t else checkF vs
def ValPair (vs : List Va) (t o : Term) (e : Int) : Prop := (fitAll vs t ≠ 0 ∧ o = noTerm ∧ e = fitAll vs t) ∨ (fitAll vs t = 0 ∧ ∃ v, Good vs 0 t v ∧ o = valOut v ∧ e = valErr v)
theorem fitAll_iff {vs : List Va} {t : Term} : fitAll vs t = 0 ↔ checkF vs = 0 ∧ sizedF t = 0 ∧ fitsF vs t 0 = true := by
  unfold fitAll fitErrS
  constructor
  · intro h
    split at h
    · rename_i h1
      split at h
      · rename_i h2
        split at h
        · rename_i h3
          exact ⟨by simpa using h1, by simpa using h2, h3⟩
        · cases h
      · rename_i h2
        exact absurd h (by simpa using h2)
    · rename_i h1
      exact absurd h (by simpa using h1)
  · rintro ⟨h1, h2, h3⟩
    simp [h1, h2, h3]
theorem value_pair (vs : List Va) (t : Term) : ∃ o e, ValPair vs t o e := by
  by_cases h : fitAll vs t = 0
  · obtain ⟨h1, h2, h3⟩ := fitAll_iff.1 h
    obtain ⟨v, hv⟩ := has_value h1 (Int.le_refl 0) h3
    exact ⟨valOut v, valErr v, .inr ⟨h, v, hv, rfl, rfl⟩⟩
  · exact ⟨noTerm, fitAll vs t, .inl ⟨h, rfl, rfl⟩⟩
theorem sized_of {v : Term} (h1 : (v.size : Int) ≤ 4000) (h2 : dep v ≤ 100) : sizedF v = 0 := by
  unfold sizedF
  rw [if_neg, if_neg]
  · rw [(levels_dep v.size).1 v 100 (Nat.le_refl _)]; omega
  · intro h; have := (parts_big v 4000).1 h; omega
/-- What a value without an error is: it fits, has no solved variable, and is its own value. -/
theorem pair_again {vs : List Va} {t o : Term} (h : ValPair vs t o 0) : o.size ≤ 4000 ∧ fitsF vs o 0 = true ∧ normV vs o = true ∧ ValPair vs o o 0 := by
  rcases h with ⟨h1, _, h3⟩ | ⟨h1, v, ⟨g1, g2, g3⟩, rfl, he⟩
  · exact absurd h3.symm h1
  · have hs : (v.size : Int) ≤ 4000 ∧ dep v ≤ 100 := by
      unfold valErr at he
      split at he
      · cases he
      · split at he
        · cases he
        · omega
    have ho : valOut v = v := by unfold valOut; rw [← he]; rfl
    rw [ho]
    obtain ⟨c1, c2, c3⟩ := fitAll_iff.1 h1
    exact ⟨by omega, g2, g3, .inr ⟨fitAll_iff.2 ⟨c1, sized_of hs.1 hs.2, g2⟩, v, ⟨val_norm v.size v 0 (Nat.le_refl _) g2 g3, g2, g3⟩, ho.symm, he⟩⟩
theorem value27_am (vs : List Va) (hvs : vs.length ≤ 1000000) (tk : Tok) {t o : Term} {er : Int} (hv : ValPair vs t o er) (h : AHeap) (Q : AOut → AHeap → Prop) (hq : Q (.ret (.tuple [enc o, .int .i64 er])) h) :
    AmCalls Tryz.prog 27 [.agg [.list 8 (encVs vs) vs.length tk], enc t] h Q := by
  refine AmCalls.of_sem (fn := Tryz.f27) Tryz.func27 rfl (by kernel_rfl) (by rw [Tryz.ntmps27]; simp) (enters_of Tryz.func27 (by kernel_rfl) (by kernel_rfl)) ?_
  try dsimp only
  repeat first | ((with_reducible refine sS ?_); intro bC bR bU hC hR hU; simp only [go_sem, ↓reduceIte]; subst hC hR hU) | (with_reducible refine iR ?_; refine rG (by simp only [compL, gtOf, nthDst]; exact rfl) ?_) | with_reducible refine rS fun bq hbq => ?_
  intro a ha
  try dsimp only
  repeat (((with_reducible refine sS ?_); intro bC bR bU hC hR hU; simp only [go_sem, ↓reduceIte]; subst hC hR hU))
  intro b hb
  have e1 := fresh_if hb
  try dsimp only
  repeat (((with_reducible refine sS ?_); intro bC bR bU hC hR hU; simp only [go_sem, ↓reduceIte, e1.1, e1.1.symm]; subst hC hR hU))
  intro q hq'
  have e2 := fresh_if hq'
  have e3 := fresh_if e2.2
  have fin : HLess (upd (upd (upd h a (some (AObj.cells [.list 8 (encVs vs) vs.length tk] 24))) b (some (AObj.cells (cellsT t) 27))) q (some (AObj.cells [.int .i64 0, .int .i64 0, .str ⟨#[]⟩, .list 0 [] 0 .nil] 27))) h := (((HLess.refl h).new ha).new e1.2).new e3.2
  have sa : upd (upd (upd h a (some (AObj.cells [.list 8 (encVs vs) vs.length tk] 24))) b (some (AObj.cells (cellsT t) 27))) q (some (AObj.cells [.int .i64 0, .int .i64 0, .str ⟨#[]⟩, .list 0 [] 0 .nil] 27)) a = some (.cells [.list 8 (encVs vs) vs.length tk] 24) := by rw [upd_other _ _ e3.1.symm, upd_other _ _ e1.1.symm, upd_same]
  have sb : upd (upd (upd h a (some (AObj.cells [.list 8 (encVs vs) vs.length tk] 24))) b (some (AObj.cells (cellsT t) 27))) q (some (AObj.cells [.int .i64 0, .int .i64 0, .str ⟨#[]⟩, .list 0 [] 0 .nil] 27)) b = some (.cells (cellsT t) 27) := by rw [upd_other _ _ e2.1.symm, upd_same]
  have sq : upd (upd (upd h a (some (AObj.cells [.list 8 (encVs vs) vs.length tk] 24))) b (some (AObj.cells (cellsT t) 27))) q (some (AObj.cells [.int .i64 0, .int .i64 0, .str ⟨#[]⟩, .list 0 [] 0 .nil] 27)) q = some (AObj.cells [.int .i64 0, .int .i64 0, .str ⟨#[]⟩, .list 0 [] 0 .nil] 27) := upd_same _ _ _
  have hq0 : h q = Option.none := e3.2
  generalize upd (upd (upd h a (some (AObj.cells [.list 8 (encVs vs) vs.length tk] 24))) b (some (AObj.cells (cellsT t) 27))) q (some (AObj.cells [.int .i64 0, .int .i64 0, .str ⟨#[]⟩, .list 0 [] 0 .nil] 27)) = H at *
  try dsimp only
  repeat first | ((with_reducible refine sS ?_); intro bC bR bU hC hR hU; simp only [go_sem, ↓reduceIte, sa, sb, sq, build25_1]; subst hC hR hU) | (with_reducible refine rN ?_; subst hbq) | (with_reducible refine iR ?_; refine rG (by simp only [compL, gtOf, nthDst]; exact rfl) ?_) | with_reducible first | refine nS ?_ | refine rS fun bq hbq => ?_
  have e1 : encs [t] = cellsT t := by rw [encs_eq]; simp
  refine AmCalls.args (args' := [.agg [.list 8 (encVs vs) vs.length tk], .list 4 (encs [t]) ([t] : List Term).length .none]) (.cons (LeAV.refl _) (.cons (by rw [e1]; exact LeAV.list _ _ _ _) .nil)) (fittingS_am vs hvs tk [t] _ _ (by simp) ?_)
  have e4 : (if checkF vs == 0 then fitErrsS vs [t] else checkF vs) = fitAll vs t := by
    unfold fitAll
    rw [fitErrsS, fitErrsS]
    cases h1 : (fitErrS vs t == 0)
    · rfl
    · have : fitErrS vs t = 0 := by simpa using h1
      rw [this]; rfl
  rw [e4]
  rcases hv with ⟨h1, rfl, rfl⟩ | ⟨h1, v, hg, rfl, rfl⟩
  · have h2 : (fitAll vs t == 0) = false := by simpa using h1
    try dsimp only
    repeat first | ((with_reducible first | refine sS ?_ | refine sC ?_); intro bC bR bU hC hR hU; simp only [go_sem, ↓reduceIte, sa, sb, sq, h2, build27_00]; subst hC hR hU) | (with_reducible refine rN ?_; subst hbq) | (with_reducible refine iR ?_; refine rG (by simp only [compL, gtOf, nthDst]; exact rfl) ?_) | (with_reducible refine r1 ?_; clear hbq bq) | with_reducible first | refine nS ?_ | refine rS fun bq hbq => ?_ | refine rR ?_
    refine last_as (v := .tuple [enc noTerm, .int .i64 (fitAll vs t)]) (by rw [Tryz.results27]) (fin.new hq0) ?_ hq
    simp only [go_sem, ↓reduceIte, aPack, Option.some.injEq, exists_eq_left']
    exact LeAV.tuple (.cons le_zeroT (.cons (LeAV.refl _) .nil))
  · have h2 : (fitAll vs t == 0) = true := by simpa using h1
    try dsimp only
    repeat first | ((with_reducible first | refine sS ?_ | refine sC ?_); intro bC bR bU hC hR hU; simp only [go_sem, ↓reduceIte, sa, sb, sq, h2]; subst hC hR hU) | (with_reducible refine rN ?_; subst hbq) | (with_reducible refine iR ?_; refine rG (by simp only [compL, gtOf, nthDst]; exact rfl) ?_) | with_reducible first | refine nS ?_ | refine rS fun bq hbq => ?_ | refine rK ?_
    refine value_am vs hvs tk hg.1 _ _ ?_
    try dsimp only
    repeat first | ((with_reducible refine sS ?_); intro bC bR bU hC hR hU; simp only [go_sem, ↓reduceIte, sa, sb, sq, h2]; subst hC hR hU) | (with_reducible refine rN ?_; subst hbq) | (with_reducible refine iL ?_; refine rL (by rw [Tryz.results27]) (fin.new hq0) ?_; simp only [go_sem, ↓reduceIte, aPack, Option.some.injEq, exists_eq_left', sa, sb, sq, h2]) | with_reducible first | refine nS ?_ | refine rR ?_
    exact hq
theorem value40_am (vs : List Va) (hvs : vs.length ≤ 1000000) (tk : Tok) {t o : Term} {er : Int} (hv : ValPair vs t o er) (h : AHeap) (Q : AOut → AHeap → Prop) (hq : Q (.ret (.tuple [enc o, .int .i64 er])) h) :
    AmCalls Tryz.prog 40 [.agg [.list 8 (encVs vs) vs.length tk], enc t] h Q := by
  refine AmCalls.of_sem (fn := Tryz.f40) Tryz.func40 rfl (by kernel_rfl) (by rw [Tryz.ntmps40]; simp) (enters_of Tryz.func40 (by kernel_rfl) (by kernel_rfl)) ?_
  try dsimp only
  repeat first | ((with_reducible refine sS ?_); intro bC bR bU hC hR hU; simp only [go_sem, ↓reduceIte]; subst hC hR hU) | (with_reducible refine iR ?_; refine rG (by simp only [compL, gtOf, nthDst]; exact rfl) ?_) | with_reducible refine rS fun bq hbq => ?_
  intro a ha
  try dsimp only
  repeat (((with_reducible refine sS ?_); intro bC bR bU hC hR hU; simp only [go_sem, ↓reduceIte]; subst hC hR hU))
  intro b hb
  have e1 := fresh_if hb
  try dsimp only
  repeat (((with_reducible refine sS ?_); intro bC bR bU hC hR hU; simp only [go_sem, ↓reduceIte, e1.1, e1.1.symm]; subst hC hR hU))
  intro q hq'
  have e2 := fresh_if hq'
  have e3 := fresh_if e2.2
  have fin : HLess (upd (upd (upd h a (some (AObj.cells [.list 8 (encVs vs) vs.length tk] 24))) b (some (AObj.cells (cellsT t) 27))) q (some (AObj.cells [.int .i64 0, .int .i64 0, .str ⟨#[]⟩, .list 0 [] 0 .nil] 27))) h := (((HLess.refl h).new ha).new e1.2).new e3.2
  have sa : upd (upd (upd h a (some (AObj.cells [.list 8 (encVs vs) vs.length tk] 24))) b (some (AObj.cells (cellsT t) 27))) q (some (AObj.cells [.int .i64 0, .int .i64 0, .str ⟨#[]⟩, .list 0 [] 0 .nil] 27)) a = some (.cells [.list 8 (encVs vs) vs.length tk] 24) := by rw [upd_other _ _ e3.1.symm, upd_other _ _ e1.1.symm, upd_same]
  have sb : upd (upd (upd h a (some (AObj.cells [.list 8 (encVs vs) vs.length tk] 24))) b (some (AObj.cells (cellsT t) 27))) q (some (AObj.cells [.int .i64 0, .int .i64 0, .str ⟨#[]⟩, .list 0 [] 0 .nil] 27)) b = some (.cells (cellsT t) 27) := by rw [upd_other _ _ e2.1.symm, upd_same]
  have sq : upd (upd (upd h a (some (AObj.cells [.list 8 (encVs vs) vs.length tk] 24))) b (some (AObj.cells (cellsT t) 27))) q (some (AObj.cells [.int .i64 0, .int .i64 0, .str ⟨#[]⟩, .list 0 [] 0 .nil] 27)) q = some (AObj.cells [.int .i64 0, .int .i64 0, .str ⟨#[]⟩, .list 0 [] 0 .nil] 27) := upd_same _ _ _
  have hq0 : h q = Option.none := e3.2
  generalize upd (upd (upd h a (some (AObj.cells [.list 8 (encVs vs) vs.length tk] 24))) b (some (AObj.cells (cellsT t) 27))) q (some (AObj.cells [.int .i64 0, .int .i64 0, .str ⟨#[]⟩, .list 0 [] 0 .nil] 27)) = H at *
  try dsimp only
  repeat first | ((with_reducible refine sS ?_); intro bC bR bU hC hR hU; simp only [go_sem, ↓reduceIte, sa, sb, sq]; subst hC hR hU) | (with_reducible refine rN ?_; subst hbq) | (with_reducible refine iR ?_; refine rG (by simp only [compL, gtOf, nthDst]; exact rfl) ?_) | with_reducible first | refine nS ?_ | refine rS fun bq hbq => ?_
  refine refFitsS_am vs hvs tk t _ _ ?_
  rw [show (if checkF vs == 0 then fitErrS vs t else checkF vs) = fitAll vs t from rfl]
  rcases hv with ⟨h1, rfl, rfl⟩ | ⟨h1, v, hg, rfl, rfl⟩
  · have h2 : (fitAll vs t == 0) = false := by simpa using h1
    try dsimp only
    repeat first | ((with_reducible first | refine sS ?_ | refine sC ?_); intro bC bR bU hC hR hU; simp only [go_sem, ↓reduceIte, sa, sb, sq, h2, build27_00]; subst hC hR hU) | (with_reducible refine rN ?_; subst hbq) | (with_reducible refine iR ?_; refine rG (by simp only [compL, gtOf, nthDst]; exact rfl) ?_) | (with_reducible refine r1 ?_; clear hbq bq) | with_reducible first | refine nS ?_ | refine rS fun bq hbq => ?_ | refine rR ?_
    refine last_as (v := .tuple [enc noTerm, .int .i64 (fitAll vs t)]) (by rw [Tryz.results40]) (fin.new hq0) ?_ hq
    simp only [go_sem, ↓reduceIte, aPack, Option.some.injEq, exists_eq_left']
    exact LeAV.tuple (.cons le_zeroT (.cons (LeAV.refl _) .nil))
  · have h2 : (fitAll vs t == 0) = true := by simpa using h1
    try dsimp only
    repeat first | ((with_reducible first | refine sS ?_ | refine sC ?_); intro bC bR bU hC hR hU; simp only [go_sem, ↓reduceIte, sa, sb, sq, h2]; subst hC hR hU) | (with_reducible refine rN ?_; subst hbq) | (with_reducible refine iR ?_; refine rG (by simp only [compL, gtOf, nthDst]; exact rfl) ?_) | with_reducible first | refine nS ?_ | refine rS fun bq hbq => ?_ | refine rK ?_
    refine worth_am vs hvs tk hg.1 _ _ ?_
    try dsimp only
    repeat first | ((with_reducible refine sS ?_); intro bC bR bU hC hR hU; simp only [go_sem, ↓reduceIte, sa, sb, sq, h2]; subst hC hR hU) | (with_reducible refine rN ?_; subst hbq) | (with_reducible refine iL ?_; refine rL (by rw [Tryz.results40]) (fin.new hq0) ?_; simp only [go_sem, ↓reduceIte, aPack, Option.some.injEq, exists_eq_left', sa, sb, sq, h2]) | with_reducible first | refine nS ?_ | refine rR ?_
    exact hq
/- The free variables of a term: the reference's free; Contains of numbers. -/


theorem contains_drop {n y : Int} {l : List Int} {i : Nat} (h : l[i]? = some y) : (l.drop i).contains n = ((n == y) || (l.drop (i + 1)).contains n) := by
  obtain ⟨hi, he⟩ := List.getElem?_eq_some_iff.1 h
  rw [List.drop_eq_getElem_cons hi, he, List.contains_cons]
theorem index_am (l : List Int) (n : Int) (sz : Nat) (tok : Tok) (h : AHeap) (Q : AOut → AHeap → Prop) (hl : l.length ≤ 1000000000) (hsz : l = [] ∨ sz = 1) (hq : ∀ k : Int, decide (0 ≤ k) = l.contains n → Q (.ret (.int .i64 k)) h) : AmCalls Tryz.prog 135 [.list sz (nums l) l.length tok, .int .i64 n] h Q := by
  refine AmCalls.of_sem (fn := Tryz.f135) Tryz.func135 rfl (by kernel_rfl) (by rw [Tryz.ntmps135]; simp) (enters_of Tryz.func135 (by kernel_rfl) (by kernel_rfl)) ?_
  try dsimp only
  repeat first | ((with_reducible refine sS ?_); intro bC bR bU hC hR hU; simp only [go_sem, ↓reduceIte]; subst hC hR hU) | (with_reducible refine rN ?_; subst hbq) | (with_reducible refine iR ?_; refine rG (by simp only [compL, gtOf, nthDst]; exact rfl) ?_) | (with_reducible refine rB fun cq hcq => ?_; subst hcq) | with_reducible first | refine nS ?_ | refine rS fun bq hbq => ?_
  refine run_loop (fun k τ h' => ∃ i : Nat, k + i = l.length ∧ τ 0 = .list sz (nums l) l.length tok ∧ τ 1 = .int .i64 n ∧ τ 7 = .int .i64 l.length ∧ τ 8 = .int .i64 i ∧ h' = h ∧ (l.drop i).contains n = l.contains n) l.length ?_ ?_
  · exact ⟨0, rfl, rfl, rfl, rfl, rfl, rfl, rfl⟩
  · intro c hc k τ h' hI
    obtain ⟨i, hk, f0, f1, f7, f8, rfl, hix⟩ := hI
    subst hc
    by_cases hi : i < l.length
    · obtain ⟨y, hy⟩ : ∃ y, l[i]? = some y := ⟨_, List.getElem?_eq_getElem hi⟩
      have hs1 : sz = 1 := by
        rcases hsz with e | e
        · subst e; simp at hi
        · exact e
      subst hs1
      rw [contains_drop hy] at hix
      have d1 : (List.drop i (nums l)).head? = some (.int .i64 y) := by rw [List.head?_drop, List.getElem?_map, hy]; rfl
      cases hn : (n == y)
      · rw [hn, Bool.false_or] at hix
        try dsimp only
        repeat first | ((with_reducible first | refine sS ?_ | refine sC ?_); intro bC bR bU hC hR hU; simp only [go_sem, ↓reduceIte, f0, f1, f7, f8, hi, d1, hn, wrap_in (show -9223372036854775808 ≤ (i : Int) + 1 by omega) (show (i : Int) + 1 ≤ 9223372036854775807 by omega)]; subst hC hR hU) | (with_reducible refine rN ?_; subst hbq) | (with_reducible refine iR ?_; refine rG (by simp only [compL, gtOf, nthDst]; exact rfl) ?_) | (with_reducible refine rB fun cq hcq => ?_; subst hcq) | with_reducible first | refine nS ?_ | refine rS fun bq hbq => ?_ | refine rK ?_ | refine rE ?_
        refine run_loopN (m := k - 1) (by omega) ⟨i + 1, by omega, ?_⟩
        simp only [go_sem, ↓reduceIte, f0, f1, f7]
        exact ⟨rfl, hix⟩
      · rw [hn, Bool.true_or] at hix
        try dsimp only
        repeat first | ((with_reducible first | refine sS ?_ | refine sC ?_); intro bC bR bU hC hR hU; simp only [go_sem, ↓reduceIte, f0, f1, f7, f8, hi, d1, hn]; subst hC hR hU) | (with_reducible refine rN ?_; subst hbq) | (with_reducible refine iR ?_; refine rG (by simp only [compL, gtOf, nthDst]; exact rfl) ?_) | (with_reducible refine rB fun cq hcq => ?_; subst hcq) | (with_reducible refine r1 ?_; clear hbq bq) | (with_reducible refine iL ?_; refine rL (by rw [Tryz.results135]) (HLess.refl _) ?_; simp only [go_sem, ↓reduceIte, aPack, Option.some.injEq, exists_eq_left', f0, f1, f7, f8, hi, d1, hn]) | with_reducible first | refine nS ?_ | refine rS fun bq hbq => ?_ | refine rK ?_ | refine rR ?_ | refine r3 ?_ | refine r4 ?_
        exact hq _ (by rw [← hix]; exact decide_eq_true (by omega))
    · rw [List.drop_eq_nil_of_le (by omega)] at hix
      try dsimp only
      repeat first | ((with_reducible first | refine sS ?_ | refine sC ?_); intro bC bR bU hC hR hU; simp only [go_sem, ↓reduceIte, f0, f1, f7, f8, hi]; subst hC hR hU) | (with_reducible refine rN ?_; subst hbq) | (with_reducible refine iR ?_; refine rG (by simp only [compL, gtOf, nthDst]; exact rfl) ?_) | (with_reducible refine x1 ?_; clear hbq bq) | (with_reducible refine iL ?_; refine rL (by rw [Tryz.results135]) (HLess.refl _) ?_; simp only [go_sem, ↓reduceIte, aPack, Option.some.injEq, exists_eq_left', f0, f1, f7, f8, hi]) | with_reducible first | refine nS ?_ | refine rS fun bq hbq => ?_ | refine rXx ?_ | refine rR ?_ | refine x3 ?_ | refine x4 ?_
      exact hq _ (by rw [← hix]; rfl)
theorem contains_am (l : List Int) (n : Int) (sz : Nat) (tok : Tok) (h : AHeap) (Q : AOut → AHeap → Prop) (hl : l.length ≤ 1000000000) (hsz : l = [] ∨ sz = 1) (hq : Q (.ret (.bool (l.contains n))) h) : AmCalls Tryz.prog 94 [.list sz (nums l) l.length tok, .int .i64 n] h Q := by
  refine AmCalls.of_sem (fn := Tryz.f94) Tryz.func94 rfl (by kernel_rfl) (by rw [Tryz.ntmps94]; simp) (enters_of Tryz.func94 (by kernel_rfl) (by kernel_rfl)) ?_
  try dsimp only
  repeat first | ((with_reducible refine sS ?_); intro bC bR bU hC hR hU; simp only [go_sem, ↓reduceIte]; subst hC hR hU) | (with_reducible refine rN ?_; subst hbq) | (with_reducible refine iR ?_; refine rG (by simp only [compL, gtOf, nthDst]; exact rfl) ?_) | with_reducible first | refine nS ?_ | refine rS fun bq hbq => ?_
  refine index_am l n sz tok _ _ hl hsz fun k hk => ?_
  try dsimp only
  repeat first | ((with_reducible refine sS ?_); intro bC bR bU hC hR hU; simp only [go_sem, ↓reduceIte]; subst hC hR hU) | (with_reducible refine rN ?_; subst hbq) | (with_reducible refine iL ?_; refine rL (by rw [Tryz.results94]) (HLess.refl _) ?_; simp only [go_sem, ↓reduceIte, aPack, Option.some.injEq, exists_eq_left']) | with_reducible first | refine nS ?_ | refine rR ?_
  rw [show decide (k ≥ 0) = l.contains n from hk]
  exact hq
mutual
def freeF : Term → List Int → List Int
  | ⟨k, n, _, l⟩, out => if k == 4 then (if out.contains n then out else out ++ [n]) else freeL l out
def freeL : List Term → List Int → List Int
  | [], out => out
  | t :: ts, out => freeL ts (freeF t out)
end
theorem freeF_eq (t : Term) (out : List Int) : freeF t out = if t.kind == 4 then (if out.contains t.n then out else out ++ [t.n]) else freeL t.args out := by obtain ⟨k, n, s, l⟩ := t; rw [freeF]
theorem free_len : ∀ (s : Nat), (∀ (t : Term) (out : List Int), t.size ≤ s → (freeF t out).length ≤ out.length + t.size) ∧ (∀ (l : List Term) (out : List Int), sizes l ≤ s → (freeL l out).length ≤ out.length + sizes l) := by
  intro s
  induction s with
  | zero =>
    refine ⟨fun t out h => ?_, fun l out h => ?_⟩
    · obtain ⟨a, b, c, l⟩ := t; rw [Term.size] at h; omega
    · cases l with
      | nil => rw [freeL]; omega
      | cons t ts => obtain ⟨a, b, c, l⟩ := t; rw [sizes, Term.size] at h; omega
  | succ s ih =>
    have h1 : ∀ (t : Term) (out : List Int), t.size ≤ s + 1 → (freeF t out).length ≤ out.length + t.size := fun t out h => by
      obtain ⟨k, n, nm, l⟩ := t
      rw [Term.size] at h
      rw [freeF, Term.size]
      split
      · split
        · omega
        · rw [List.length_append]; simp
      · have := ih.2 l out (by omega); omega
    refine ⟨h1, fun l out h => ?_⟩
    cases l with
    | nil => rw [freeL]; omega
    | cons t ts =>
      rw [sizes] at h
      rw [freeL, sizes]
      have a := h1 t out (by omega)
      have ht : 1 ≤ t.size := by obtain ⟨a, b, c, l⟩ := t; rw [Term.size]; omega
      have b := ih.2 ts (freeF t out) (by omega)
      omega
theorem sizes_drop {l : List Term} {i : Nat} {u : Term} (h : l[i]? = some u) : sizes (l.drop i) = u.size + sizes (l.drop (i + 1)) := by
  obtain ⟨hi, he⟩ := List.getElem?_eq_some_iff.1 h
  rw [List.drop_eq_getElem_cons hi, he, sizes]
theorem refFree_am : ∀ (s : Nat) (t : Term) (out : List Int) (sz : Nat) (tok : Tok) (h0 h : AHeap) (Q : AOut → AHeap → Prop), t.size ≤ s → out.length + t.size ≤ 1000000000 → (out = [] ∨ sz = 1) → HLess h h0 → Grow 3 h0 h tok →
    (∀ h2 sz2 tok2, HLess h2 h0 → (freeF t out = [] ∨ sz2 = 1) → Grow 3 h0 h2 tok2 → Q (.ret (.list sz2 (nums (freeF t out)) (freeF t out).length tok2)) h2) → AmCalls Tryz.prog 95 [enc t, .list sz (nums out) out.length tok] h Q := by
  intro s
  induction s with
  | zero => intro t out sz tok h0 h Q ht; obtain ⟨a, b, c, l⟩ := t; rw [Term.size] at ht; omega
  | succ s ih =>
    intro t out sz tok h0 h Q ht hol hsz hl hg hq
    have hlen := length_args t
    have hts : t.size = 1 + sizes t.args := by obtain ⟨a, b, c, l⟩ := t; rw [Term.size]; show sizes l + 1 = 1 + sizes l; omega
    rw [freeF_eq] at hq
    refine AmCalls.of_sem (fn := Tryz.f95) Tryz.func95 rfl (by kernel_rfl) (by rw [Tryz.ntmps95]; simp) (enters_of Tryz.func95 (by kernel_rfl) (by kernel_rfl)) ?_
    try dsimp only
    repeat first | ((with_reducible refine sS ?_); intro bC bR bU hC hR hU; simp only [go_sem, ↓reduceIte]; subst hC hR hU) | (with_reducible refine iR ?_; refine rG (by simp only [compL, gtOf, nthDst]; exact rfl) ?_) | with_reducible refine rS fun bq hbq => ?_
    intro p hp
    have hl1 : HLess (upd h p (some (.cells (cellsT t) 27))) h0 := ((HLess.refl h).new hp).trans hl
    have hg1 := hg.new hp (.cells (cellsT t) 27)
    have sp : (upd h p (some (AObj.cells (cellsT t) 27))) p = some (.cells (cellsT t) 27) := upd_same _ _ _
    generalize upd h p (some (AObj.cells (cellsT t) 27)) = H at *
    cases k4 : (t.kind == 4)
    · simp only [k4, Bool.false_eq_true, if_false] at hq
      try dsimp only
      repeat first | ((with_reducible first | refine sS ?_ | refine sC ?_); intro bC bR bU hC hR hU; simp only [go_sem, ↓reduceIte, sp, k4]; subst hC hR hU) | (with_reducible refine rN ?_; subst hbq) | (with_reducible refine iR ?_; refine rG (by simp only [compL, gtOf, nthDst]; exact rfl) ?_) | (with_reducible refine rB fun cq hcq => ?_; subst hcq) | with_reducible first | refine nS ?_ | refine rS fun bq hbq => ?_ | refine rK ?_
      refine run_loop (fun k τ h' => ∃ (i : Nat) (out' : List Int) (sz' : Nat) (tok' : Tok), k + i = t.args.length ∧ freeL (t.args.drop i) out' = freeL t.args out ∧ out'.length + sizes (t.args.drop i) ≤ 1000000000 ∧ τ 1 = .list sz' (nums out') out'.length tok' ∧ τ 2 = .ptr p 0 ∧ τ 6 = .int .i64 i ∧ (out' = [] ∨ sz' = 1) ∧ HLess h' h0 ∧ Grow 3 h0 h' tok' ∧ h' p = some (.cells (cellsT t) 27)) t.args.length ?_ ?_
      · exact ⟨0, out, sz, tok, rfl, rfl, by rw [List.drop_zero]; omega, rfl, rfl, rfl, hsz, hl1, hg1, sp⟩
      · intro c hc k τ h' hI
        obtain ⟨i, out', sz', tok', hk, ho, hol', e1, e2, e5, hsz', hl', hg', mp⟩ := hI
        subst hc
        by_cases hi : i < t.args.length
        · obtain ⟨u, hu⟩ : ∃ u, t.args[i]? = some u := ⟨_, List.getElem?_eq_getElem hi⟩
          obtain ⟨r, hr⟩ := encs_at t.args i hu
          have hsu := size_arg t i hu
          have hfl := (free_len u.size).1 u out' (Nat.le_refl _)
          have hsd := sizes_drop hu
          have hdrop : t.args.drop i = u :: t.args.drop (i + 1) := by
            rw [List.drop_eq_getElem_cons hi]
            rw [List.getElem?_eq_getElem hi] at hu; injection hu with hu; rw [hu]
          rw [hdrop, freeL] at ho
          obtain ⟨h1, b1, b2, b3, b4⟩ := grow_base hg' hl'
          have np := b4 _ _ _ mp
          try dsimp only
          repeat first | ((with_reducible first | refine sS ?_ | refine sC ?_); intro bC bR bU hC hR hU; simp only [go_sem, ↓reduceIte, e1, e2, e5, mp, hi, hr]; subst hC hR hU) | (with_reducible refine rN ?_; subst hbq) | (with_reducible refine iR ?_; refine rG (by simp only [compL, gtOf, nthDst]; exact rfl) ?_) | (with_reducible refine rB fun cq hcq => ?_; subst hcq) | with_reducible first | refine nS ?_ | refine rS fun bq hbq => ?_ | refine rK ?_
          refine ih u out' sz' tok' h1 _ _ (by omega) (by omega) hsz' b1 b3 (fun h2 sz2 tok2 hl2 hs2 hg2 => ?_)
          have mp2 := hl2 _ _ np
          try dsimp only
          repeat first | ((with_reducible refine sS ?_); intro bC bR bU hC hR hU; simp only [go_sem, ↓reduceIte, e2, e5, wrap_in (show -9223372036854775808 ≤ (i : Int) + 1 by omega) (show (i : Int) + 1 ≤ 9223372036854775807 by omega)]; subst hC hR hU) | (with_reducible refine rN ?_; subst hbq) | (with_reducible refine iR ?_; refine rG (by simp only [compL, gtOf, nthDst]; exact rfl) ?_) | with_reducible first | refine nS ?_ | refine rE ?_
          refine run_loopN (m := k - 1) (by omega) ⟨i + 1, freeF u out', sz2, tok2, by omega, ho, by omega, ?_⟩
          simp only [go_sem, ↓reduceIte, e2]
          exact ⟨rfl, hs2, hl2.trans b2, hg2.low b2, mp2⟩
        · rw [List.drop_eq_nil_of_le (by omega), freeL] at ho
          rw [← ho] at hq
          try dsimp only
          repeat first | ((with_reducible first | refine sS ?_ | refine sC ?_); intro bC bR bU hC hR hU; simp only [go_sem, ↓reduceIte, e1, e2, e5, mp, hi]; subst hC hR hU) | (with_reducible refine rN ?_; subst hbq) | (with_reducible refine iR ?_; refine rG (by simp only [compL, gtOf, nthDst]; exact rfl) ?_) | (with_reducible refine x1 ?_; clear hbq bq) | (with_reducible refine iL ?_; refine rL (by rw [Tryz.results95]) (HLess.refl _) ?_; simp only [go_sem, ↓reduceIte, aPack, Option.some.injEq, exists_eq_left', e1, e2, e5, mp, hi]) | with_reducible first | refine nS ?_ | refine rS fun bq hbq => ?_ | refine rXx ?_ | refine rR ?_ | refine x3 ?_ | refine x4 ?_
          exact hq _ _ _ hl' hsz' hg'
    · simp only [k4, if_true] at hq
      try dsimp only
      repeat first | ((with_reducible first | refine sS ?_ | refine sC ?_); intro bC bR bU hC hR hU; simp only [go_sem, ↓reduceIte, sp, k4]; subst hC hR hU) | (with_reducible refine rN ?_; subst hbq) | (with_reducible refine iR ?_; refine rG (by simp only [compL, gtOf, nthDst]; exact rfl) ?_) | (with_reducible refine rB fun cq hcq => ?_; subst hcq) | with_reducible first | refine nS ?_ | refine rS fun bq hbq => ?_
      refine run_loop (fun k τ h' => ∃ i : Nat, k + i = out.length ∧ τ 1 = .list sz (nums out) out.length tok ∧ τ 2 = .ptr p 0 ∧ τ 5 = .int .i64 i ∧ h' = H ∧ (out.drop i).contains t.n = out.contains t.n) out.length ?_ ?_
      · exact ⟨0, rfl, rfl, rfl, rfl, rfl, rfl⟩
      · intro c hc k τ h' hI
        obtain ⟨i, hk, f1, f2, f5, rfl, hix⟩ := hI
        subst hc
        by_cases hi : i < out.length
        · obtain ⟨y, hy⟩ : ∃ y, out[i]? = some y := ⟨_, List.getElem?_eq_getElem hi⟩
          have hs1 : sz = 1 := by
            rcases hsz with e | e
            · subst e; simp at hi
            · exact e
          subst hs1
          rw [contains_drop hy] at hix
          have d1 : (List.drop i (nums out)).head? = some (.int .i64 y) := by rw [List.head?_drop, List.getElem?_map, hy]; rfl
          have hyn : (y == t.n) = (t.n == y) := Bool.beq_comm
          cases hn : (t.n == y)
          · rw [hn] at hyn
            rw [hn, Bool.false_or] at hix
            try dsimp only
            repeat first | ((with_reducible first | refine sS ?_ | refine sC ?_); intro bC bR bU hC hR hU; simp only [go_sem, ↓reduceIte, f1, f2, f5, hi]; subst hC hR hU) | (with_reducible refine rN ?_; subst hbq) | (with_reducible refine iR ?_; refine rG (by simp only [compL, gtOf, nthDst]; exact rfl) ?_) | (with_reducible refine rB fun cq hcq => ?_; subst hcq) | with_reducible first | refine nS ?_ | refine rS fun bq hbq => ?_ | refine rK ?_
            repeat with_reducible refine run_seq fun bq hbq => ?_
            refine run_draw (.take 0 (.take 1 (.take 2 (.take 3 (.take 4 (.take 5 (.take 6 (.done)))))))) (by kernel_rfl) (by simp only [compL, gtOf, nthDst]; exact rfl) ?_
            try dsimp only
            repeat first | ((first | (with_reducible first | refine sS ?_ | refine sC ?_) | (with_reducible refine iT ?_; refine sT rfl ?_)); intro bC bR bU hC hR hU; simp only [go_sem, ↓reduceIte, f1, f2, f5, hi, d1, sp, hyn, wrap_in (show -9223372036854775808 ≤ (i : Int) + 1 by omega) (show (i : Int) + 1 ≤ 9223372036854775807 by omega)]; subst hC hR hU) | (with_reducible refine rN ?_; subst hbq) | (with_reducible refine iR ?_; refine rG (by simp only [compL, gtOf, nthDst]; exact rfl) ?_) | with_reducible first | refine nS ?_ | refine nD ?_ | refine rK ?_ | refine rE ?_
            refine run_loopN (m := k - 1) (by omega) ⟨i + 1, by omega, ?_⟩
            simp only [go_sem, ↓reduceIte, f1, f2]
            exact ⟨rfl, hix⟩
          · rw [hn] at hyn
            rw [hn, Bool.true_or] at hix
            rw [← hix] at hq
            try dsimp only
            repeat first | ((with_reducible first | refine sS ?_ | refine sC ?_); intro bC bR bU hC hR hU; simp only [go_sem, ↓reduceIte, f1, f2, f5, hi]; subst hC hR hU) | (with_reducible refine rN ?_; subst hbq) | (with_reducible refine iR ?_; refine rG (by simp only [compL, gtOf, nthDst]; exact rfl) ?_) | (with_reducible refine rB fun cq hcq => ?_; subst hcq) | with_reducible first | refine nS ?_ | refine rS fun bq hbq => ?_ | refine rK ?_
            repeat with_reducible refine run_seq fun bq hbq => ?_
            refine run_draw (.take 0 (.take 1 (.take 2 (.take 3 (.take 4 (.take 5 (.take 6 (.done)))))))) (by kernel_rfl) (by simp only [compL, gtOf, nthDst]; exact rfl) ?_
            try dsimp only
            repeat first | ((first | (with_reducible first | refine sS ?_ | refine sC ?_) | (with_reducible refine iT ?_; refine sT rfl ?_)); intro bC bR bU hC hR hU; simp only [go_sem, ↓reduceIte, f1, f2, f5, hi, d1, sp, hyn]; subst hC hR hU) | (with_reducible refine rN ?_; subst hbq) | (with_reducible refine iR ?_; refine rG (by simp only [compL, gtOf, nthDst]; exact rfl) ?_) | (with_reducible refine r1 ?_; clear hbq bq) | (with_reducible refine iL ?_; refine rL (by rw [Tryz.results95]) (HLess.refl _) ?_; simp only [go_sem, ↓reduceIte, aPack, Option.some.injEq, exists_eq_left', f1, f2, f5, hi, d1, sp, hyn]) | with_reducible first | refine nS ?_ | refine nD ?_ | refine rS fun bq hbq => ?_ | refine rR ?_ | refine r3 ?_ | refine r4 ?_
            exact hq _ _ _ hl1 hsz hg1
        · rw [List.drop_eq_nil_of_le (by omega)] at hix
          rw [← hix] at hq
          simp only [List.contains_nil, Bool.false_eq_true, if_false] at hq
          try dsimp only
          repeat first | ((with_reducible first | refine sS ?_ | refine sC ?_); intro bC bR bU hC hR hU; simp only [go_sem, ↓reduceIte, f1, f2, f5, hi, sp, build_int]; subst hC hR hU) | (with_reducible refine rN ?_; subst hbq) | (with_reducible refine iR ?_; refine rG (by simp only [compL, gtOf, nthDst]; exact rfl) ?_) | (with_reducible refine x1 ?_; clear hbq bq) | with_reducible first | refine nS ?_ | refine rS fun bq hbq => ?_ | refine rXx ?_ | refine x3 ?_ | refine x4 ?_
          refine cAppend_list ?_
          simp only [go_sem, ↓reduceIte]
          intro w hw
          obtain ⟨h4, ea, hg4, hl4, keep⟩ := append_grow el_77 el_77 sz_3 by_3 ze_3 ⟨rfl, by decide⟩ hl1 hw (sz1 := sz) (n1 := out.length) (c1 := nums out) (c2 := [.int .i64 t.n]) (n2 := 1) (t2 := .full) hg1 (by rcases hsz with e | e <;> simp [e]) (sz2 := 1) rfl (by decide) (by omega)
          simp only [ea, go_sem, ↓reduceIte]
          try dsimp only
          repeat first | (with_reducible refine rN ?_; subst hbq) | (with_reducible refine r1 ?_; clear hbq bq) | (with_reducible refine iL ?_; refine rL (by rw [Tryz.results95]) (HLess.refl _) ?_; simp only [go_sem, ↓reduceIte, aPack, Option.some.injEq, exists_eq_left']) | with_reducible refine rR ?_
          have := hq h4 1 (.id w) hl4 (.inr rfl) hg4
          simpa [nums] using this
/- Loops over functions that never stop, whose own objects change; free variables of a value. -/


section
variable {σ : Type} (step : σ → Term → σ)
mutual
def allF : Term → σ → σ
  | ⟨k, n, nm, l⟩, s => allL l (step s ⟨k, n, nm, l⟩)
def allL : List Term → σ → σ
  | [], s => s
  | t :: ts, s => allL ts (allF t s)
end
theorem allF_eq (t : Term) (s : σ) : allF step t s = allL step t.args (step s t) := by
  obtain ⟨k, n, nm, l⟩ := t
  rw [allF]
end
/-- What is asked of the rounds of loop l that always goes on. Own s h h0: what the loop's own objects hold in h; none of them is in h0. -/
structure Turns {σ : Type} (l : Nat) (Own : σ → AHeap → AHeap → Prop) (step : σ → Term → σ) (ok : Term → Prop) : Prop where
  mono : ∀ s h h' h0, Own s h h0 → HLess h' h → Own s h' h0
  low : ∀ s h h1 h0, Own s h h1 → HLess h1 h0 → Own s h h0
  base : ∀ s h h0 p x, Own s h h0 → HLess h h0 → h p = Option.none → ∃ h1, HLess (upd h p (some x)) h1 ∧ h1 p = some x ∧ HLess h1 h0 ∧ Own s (upd h p (some x)) h1
  args : ∀ (t : Term) (i : Nat) (u : Term), ok t → t.args[i]? = some u → ok u
  round : ∀ h0 s u h' Q, ok u → Own s h' h0 → HLess h' h0 → (∀ h2, Own (step s u) h2 h0 → HLess h2 h0 → Q (.ret (.bool true)) h2) → AmRound Tryz.prog l [enc u] h' Q
theorem eachPartT_am {σ : Type} {l : Nat} {Own : σ → AHeap → AHeap → Prop} {step : σ → Term → σ} {ok : Term → Prop} (R : Turns l Own step ok) : ∀ (sz : Nat) (h0 : AHeap) (t : Term) (s : σ) (h : AHeap) (Q : AOut → AHeap → Prop), t.size ≤ sz → t.size ≤ 1000000000 → ok t → Own s h h0 → HLess h h0 →
    (∀ h2, Own (allF step t s) h2 h0 → HLess h2 h0 → Q (.ret (.bool true)) h2) → AmCalls Tryz.prog 134 [enc t, .yield l] h Q := by
  intro sz
  induction sz with
  | zero => intro h0 t s h Q ht; obtain ⟨a, b, c, l⟩ := t; rw [Term.size] at ht; omega
  | succ sz ih =>
    intro h0 t s h Q ht htb hok hO hl hq
    have hlen := length_args t
    rw [allF_eq] at hq
    refine AmCalls.of_sem (fn := Tryz.f134) Tryz.func134 rfl (by kernel_rfl) (by rw [Tryz.ntmps134]; simp) (enters_of Tryz.func134 (by kernel_rfl) (by kernel_rfl)) ?_
    try dsimp only
    repeat first | ((with_reducible refine sS ?_); intro bC bR bU hC hR hU; simp only [go_sem, ↓reduceIte]; subst hC hR hU) | (with_reducible refine iR ?_; refine rG (by simp only [compL, gtOf, nthDst]; exact rfl) ?_) | with_reducible refine rS fun bq hbq => ?_
    intro p hp
    obtain ⟨h1, b1, b2, b3, b4⟩ := R.base s h h0 p (.cells (cellsT t) 27) hO hl hp
    try dsimp only
    repeat first | ((with_reducible refine sS ?_); intro bC bR bU hC hR hU; simp only [go_sem, ↓reduceIte]; subst hC hR hU) | with_reducible refine nS ?_
    refine run_next ?_; subst hbq
    repeat with_reducible refine run_seq fun bq hbq => ?_
    refine run_regionN fun n ds rd => ?_
    simp only [amSeq, aWanted, amOp, aStep, aop, aEval, aPut, go_sem, ↓reduceIte]
    intro _ _
    have hrd : AmRound Tryz.prog l [enc t] (upd h p (some (.cells (cellsT t) 27))) fun o h' => o = .ret (.bool true) ∧ HLess h' h1 ∧ Own (step s t) h' h1 :=
      R.round h1 s t _ _ hok b4 b1 (fun h2 ho hl2 => ⟨rfl, hl2, ho⟩)
    refine aCall_yield ((hrd n).mono fun o h' n' ⟨ho, hl', hO'⟩ => ?_)
    subst ho
    simp only [go_sem, ↓reduceIte]
    intro _
    refine ⟨rfl, rfl, ?_⟩
    simp only [envAt]
    have mp := hl' _ _ b2
    try dsimp only
    repeat first | ((with_reducible first | refine sS ?_ | refine sC ?_); intro bC bR bU hC hR hU; simp only [go_sem, ↓reduceIte, mp]; subst hC hR hU) | (with_reducible refine rN ?_; subst hbq) | (with_reducible refine iR ?_; refine rG (by simp only [compL, gtOf, nthDst]; exact rfl) ?_) | (with_reducible refine rB fun cq hcq => ?_; subst hcq) | with_reducible first | refine nS ?_ | refine rS fun bq hbq => ?_ | refine rK ?_
    refine run_loop (fun k τ h' => ∃ (i : Nat) (s' : σ), k + i = t.args.length ∧ allL step (t.args.drop i) s' = allL step t.args (step s t) ∧ τ 1 = .yield l ∧ τ 12 = .list 4 (encs t.args) t.args.length .none ∧ τ 13 = .int .i64 t.args.length ∧ τ 14 = .int .i64 i ∧ Own s' h' h0 ∧ HLess h' h0) t.args.length ?_ ?_
    · refine ⟨0, step s t, rfl, rfl, ?_⟩
      simp only [go_sem, ↓reduceIte]
      exact ⟨rfl, R.low _ _ _ _ hO' b3, hl'.trans b3⟩
    · intro c hc k τ h' hI
      obtain ⟨i, s', hk, hix, f1, f12, f13, f14, hO2, hl2⟩ := hI
      subst hc
      by_cases hi : i < t.args.length
      · obtain ⟨u, hu⟩ : ∃ u, t.args[i]? = some u := ⟨_, List.getElem?_eq_getElem hi⟩
        obtain ⟨r, hr⟩ := encs_at t.args i hu
        have hsz := size_arg t i hu
        have hdrop : t.args.drop i = u :: t.args.drop (i + 1) := by
          rw [List.drop_eq_getElem_cons hi]
          rw [List.getElem?_eq_getElem hi] at hu; injection hu with hu; rw [hu]
        rw [hdrop, allL] at hix
        try dsimp only
        repeat first | ((with_reducible first | refine sS ?_ | refine sC ?_); intro bC bR bU hC hR hU; simp only [go_sem, ↓reduceIte, f1, f12, f13, f14, hi, hr]; subst hC hR hU) | (with_reducible refine rN ?_; subst hbq) | (with_reducible refine iR ?_; refine rG (by simp only [compL, gtOf, nthDst]; exact rfl) ?_) | (with_reducible refine rB fun cq hcq => ?_; subst hcq) | with_reducible first | refine nS ?_ | refine rS fun bq hbq => ?_ | refine rK ?_
        intro w hw
        try dsimp only
        repeat first | ((with_reducible refine sS ?_); intro bC bR bU hC hR hU; simp only [go_sem, ↓reduceIte, f1, f12, f13, f14]; subst hC hR hU) | (with_reducible refine rN ?_; subst hbq) | (with_reducible refine iR ?_; refine rG (by simp only [compL, gtOf, nthDst]; exact rfl) ?_) | with_reducible first | refine nS ?_ | refine rS fun bq hbq => ?_
        have hlw : HLess (upd h' w (some (.cells (cellsT u) 27))) h' := HLess.one hw
        refine ih h0 u s' _ _ (by omega) (by omega) (R.args t i u hok hu) (R.mono _ _ _ _ hO2 hlw) (hlw.trans hl2) (fun h4 hO4 hl4 => ?_)
        try dsimp only
        repeat first | ((with_reducible first | refine sS ?_ | refine sC ?_); intro bC bR bU hC hR hU; simp only [go_sem, ↓reduceIte, f1, f12, f13, f14, wrap_in (show -9223372036854775808 ≤ (i : Int) + 1 by omega) (show (i : Int) + 1 ≤ 9223372036854775807 by omega)]; subst hC hR hU) | (with_reducible refine rN ?_; subst hbq) | (with_reducible refine iR ?_; refine rG (by simp only [compL, gtOf, nthDst]; exact rfl) ?_) | with_reducible first | refine nS ?_ | refine rK ?_ | refine rE ?_
        refine run_loopN (m := k - 1) (by omega) ⟨i + 1, _, by omega, hix, ?_⟩
        simp only [go_sem, ↓reduceIte, f1, f12, f13, f14]
        exact ⟨rfl, hO4, hl4⟩
      · rw [List.drop_eq_nil_of_le (by omega), allL] at hix
        try dsimp only
        repeat first | ((with_reducible first | refine sS ?_ | refine sC ?_); intro bC bR bU hC hR hU; simp only [go_sem, ↓reduceIte, f1, f12, f13, f14, hi]; subst hC hR hU) | (with_reducible refine rN ?_; subst hbq) | (with_reducible refine iR ?_; refine rG (by simp only [compL, gtOf, nthDst]; exact rfl) ?_) | (with_reducible refine x1 ?_; clear hbq bq) | (with_reducible refine iL ?_; refine rL (by rw [Tryz.results134]) (HLess.refl _) ?_; simp only [go_sem, ↓reduceIte, aPack, Option.some.injEq, exists_eq_left', f1, f12, f13, f14, hi]) | with_reducible first | refine nS ?_ | refine rS fun bq hbq => ?_ | refine rXx ?_ | refine rR ?_ | refine x3 ?_ | refine x4 ?_
        rw [← hix] at hq
        exact hq _ hO2 hl2
theorem heads133T_am {σ : Type} {l : Nat} {Own : σ → AHeap → AHeap → Prop} {step : σ → Term → σ} {ok : Term → Prop} (R : Turns l Own step ok) (h0 : AHeap) (t : Term) (s : σ) (p : Nat) (h : AHeap) (Q : AOut → AHeap → Prop) (htb : t.size ≤ 1000000000) (hok : ok t) (hp : h p = some (.cells (cellsT t) 27)) (hO : Own s h h0) (hl : HLess h h0)
    (hq : ∀ h2, Own (allF step t s) h2 h0 → HLess h2 h0 → Q (.ret (.tuple [])) h2) : AmCalls Tryz.prog 133 [.yield l, .ptr p 0] h Q := by
  refine AmCalls.of_sem (fn := Tryz.f133) Tryz.func133 rfl (by kernel_rfl) (by rw [Tryz.ntmps133]; simp) (enters_of Tryz.func133 (by kernel_rfl) (by kernel_rfl)) ?_
  try dsimp only
  repeat first | ((with_reducible refine sS ?_); intro bC bR bU hC hR hU; simp only [go_sem, ↓reduceIte, hp]; subst hC hR hU) | (with_reducible refine iR ?_; refine rG (by simp only [compL, gtOf, nthDst]; exact rfl) ?_)
  refine eachPartT_am R t.size h0 t s _ _ (Nat.le_refl _) htb hok hO hl (fun h2 hO2 hl2 => ?_)
  try dsimp only
  repeat (with_reducible refine nS ?_)
  exact ⟨[], by rw [Tryz.results133]; rfl, _, _, WeakV.of (LeAV.refl _) (HLess.refl _), hq h2 hO2 hl2⟩

def stepFree (s : List Int) (t : Term) : List Int := if t.kind == 4 then (if s.contains t.n then s else s ++ [t.n]) else s
theorem all_simple : ∀ (l : List Term), (∀ u ∈ l, isSimpleF u = true) → ∀ s, allL stepFree l s = s
  | [], _, s => by rw [allL]
  | u :: l, h, s => by
    obtain ⟨h1, h2⟩ := simple_parts (h u List.mem_cons_self)
    have e : allF stepFree u s = s := by rw [allF_eq, h2, allL]; unfold stepFree; rw [h1]; rfl
    rw [allL, e]
    exact all_simple l (fun w hw => h w (List.mem_cons_of_mem _ hw)) s
theorem all_free {vs : List Va} : ∀ (sz : Nat), (∀ (v : Term) (d : Int) (s : List Int), v.size ≤ sz → fitsF vs v d = true → allF stepFree v s = freeF v s) ∧ (∀ (l : List Term) (d : Int) (s : List Int), sizes l ≤ sz → fitsL vs l d = true → allL stepFree l s = freeL l s) := by
  intro sz
  induction sz with
  | zero =>
    refine ⟨fun v d s h => ?_, fun l d s h _ => ?_⟩
    · obtain ⟨a, b, c, l⟩ := v; rw [Term.size] at h; omega
    · cases l with
      | nil => rw [allL, freeL]
      | cons t ts => obtain ⟨a, b, c, l⟩ := t; rw [sizes, Term.size] at h; omega
  | succ sz ih =>
    have h1 : ∀ (v : Term) (d : Int) (s : List Int), v.size ≤ sz + 1 → fitsF vs v d = true → allF stepFree v s = freeF v s := fun v d s h hf => by
      have hts : v.size = 1 + sizes v.args := by obtain ⟨a, b, c, l⟩ := v; rw [Term.size]; show sizes l + 1 = 1 + sizes l; omega
      have hf' := hf
      rw [fitsF_eq, Bool.and_eq_true] at hf'
      rw [allF_eq, freeF_eq]
      cases k4 : (v.kind == 4)
      · have e : stepFree s v = s := by unfold stepFree; rw [k4]; rfl
        rw [e]
        exact ih.2 v.args _ s (by omega) hf'.2
      · rw [all_simple v.args (fun u hu => ((pattern_args (fits_var hf k4).2.2).1 u hu).1)]
        unfold stepFree
        rw [k4, if_pos rfl, if_pos rfl]
    refine ⟨h1, fun l d s h hf => ?_⟩
    cases l with
    | nil => rw [allL, freeL]
    | cons t ts =>
      rw [fitsL, Bool.and_eq_true] at hf
      have ht : 1 ≤ t.size := by obtain ⟨a, b, c, l⟩ := t; rw [Term.size]; omega
      rw [sizes] at h
      rw [allL, freeL, h1 t d s (by omega) hf.1]
      exact ih.2 ts d _ (by omega) hf.2

def freeOut (o : Term) (er : Int) : List Int := if er == 0 then freeF o [] else []
theorem grow_base2 {E : TypeId} {h0 h : AHeap} {tok : Tok} (hg : Grow E h0 h tok) (hl : HLess h h0) : ∃ h1, HLess h h1 ∧ HLess h1 h0 ∧ Grow E h1 h tok ∧ ∀ q o, h q = some o → (∀ T, o ≠ .front T) → h1 q = some o := by
  rcases hg with e | ⟨f, ef, hf, hf0⟩
  · exact ⟨h, HLess.refl h, hl, .inl e, fun _ _ hq _ => hq⟩
  · refine ⟨upd h f Option.none, hless_none h f, hless_set hl hf0 _, .inr ⟨f, ef, hf, upd_same _ _ _⟩, fun q o hq ho => ?_⟩
    rw [upd_other _ _ (by intro e; subst e; rw [hq] at hf; injection hf with hf; exact ho _ hf)]; exact hq
theorem free41_am (vs : List Va) (hvs : vs.length ≤ 1000000) (tk : Tok) {t o : Term} {er : Int} (hv : ValPair vs t o er) (h : AHeap) (Q : AOut → AHeap → Prop) (hq : ∀ sz, (freeOut o er = [] ∨ sz = 1) → Q (.ret (.tuple [.list sz (nums (freeOut o er)) (freeOut o er).length .none, .int .i64 er])) h) :
    AmCalls Tryz.prog 41 [.agg [.list 8 (encVs vs) vs.length tk], enc t] h Q := by
  intro n0
  refine NCalls.of_semM (fn := Tryz.f41) Tryz.func41 rfl (by kernel_rfl) (by rw [Tryz.ntmps41]; simp) (enters_of Tryz.func41 (by kernel_rfl) (by kernel_rfl)) ?_
  refine NSem.seqN (fun τ h' => ∃ a b, τ 2 = .ptr a 0 ∧ τ 3 = .ptr b 0 ∧ HLess h' h ∧ h' a = some (.cells [.list 8 (encVs vs) vs.length tk] 24) ∧ h' b = some (.cells (cellsT t) 27)) ?_ fun τ h1 n1 hI => ?_
  · try dsimp only
    repeat first | ((with_reducible refine sS ?_); intro bC bR bU hC hR hU; simp only [go_sem, ↓reduceIte]; subst hC hR hU) | (with_reducible refine iR ?_; refine rG (by simp only [compL, gtOf, nthDst]; exact rfl) ?_)
    intro a ha
    try dsimp only
    repeat (((with_reducible refine sS ?_); intro bC bR bU hC hR hU; simp only [go_sem, ↓reduceIte]; subst hC hR hU))
    intro b hb
    have e1 := fresh_if hb
    try dsimp only
    repeat first | ((with_reducible refine sS ?_); intro bC bR bU hC hR hU; simp only [go_sem, ↓reduceIte]; subst hC hR hU) | with_reducible refine nS ?_
    refine only_end ⟨a, b, ?_⟩
    simp only [go_sem, ↓reduceIte, e1.1, e1.1.symm]
    exact ((HLess.refl h).new ha).new e1.2
  obtain ⟨a, b, f2, f3, hl1, ma, mb⟩ := hI
  refine NSem.seqN (fun τ h' => ∃ c, τ 6 = .ptr c 0 ∧ τ 7 = .int .i64 er ∧ HLess h' h ∧ h' c = some (.cells (cellsT o) 27)) ?_ fun τ h2 n2 hI => ?_
  · try dsimp only
    repeat first | ((with_reducible refine sS ?_); intro bC bR bU hC hR hU; simp only [go_sem, ↓reduceIte, f2, f3, ma, mb]; subst hC hR hU) | (with_reducible refine iR ?_; refine rG (by simp only [compL, gtOf, nthDst]; exact rfl) ?_)
    refine value27_am vs hvs tk hv _ _ ?_
    try dsimp only
    repeat (((with_reducible refine sS ?_); intro bC bR bU hC hR hU; simp only [go_sem, ↓reduceIte, f2, f3, ma, mb]; subst hC hR hU))
    intro c hc
    try dsimp only
    repeat first | ((with_reducible refine sS ?_); intro bC bR bU hC hR hU; simp only [go_sem, ↓reduceIte, f2, f3, ma, mb]; subst hC hR hU) | with_reducible refine nS ?_
    refine only_end ⟨c, ?_⟩
    simp only [go_sem, ↓reduceIte]
    exact hl1.new (hl1.none hc)
  clear f2 f3 ma mb
  obtain ⟨c, f6, f7, hl2, mc⟩ := hI
  refine .seq ?_
  refine NSem.seqN (fun τ h' => h' = h2 ∧ τ 6 = .ptr c 0 ∧ τ 7 = .int .i64 er ∧ τ 17 = .bool (!(er == 0))) ?_ fun τ h2' n2' hI => ?_
  · try dsimp only
    repeat first | ((with_reducible refine sS ?_); intro bC bR bU hC hR hU; simp only [go_sem, ↓reduceIte, f6, f7]; subst hC hR hU) | (with_reducible refine iR ?_; refine rG (by simp only [compL, gtOf, nthDst]; exact rfl) ?_) | with_reducible refine nS ?_
    refine only_end ⟨rfl, ?_⟩
    simp only [go_sem, ↓reduceIte, f6, f7]
  clear f6 f7
  obtain ⟨rfl, f6, f7, f17⟩ := hI
  cases he : (er == 0)
  · have f17 : τ 17 = .bool true := by rw [f17, he]; rfl
    refine .condT (by exact f17) ?_
    refine NSem.seqN (fun τ h' => h' = h2' ∧ τ 4 = .list 0 [] 0 .nil ∧ τ 5 = .int .i64 er) ?_ fun τ h2 n2 hI => .ret ?_
    · try dsimp only
      repeat first | ((with_reducible refine sS ?_); intro bC bR bU hC hR hU; simp only [go_sem, ↓reduceIte, f6, f7]; subst hC hR hU) | (with_reducible refine iR ?_; refine rG (by simp only [compL, gtOf, nthDst]; exact rfl) ?_) | with_reducible refine nS ?_
      refine only_end ⟨rfl, ?_⟩
      simp only [go_sem, ↓reduceIte, f7]
    · obtain ⟨rfl, f4, f5⟩ := hI
      refine ⟨[.list 0 [] 0 .nil, .int .i64 er], ?_, EndV.weak (WeakV.of (LeAV.tuple (.cons (LeAV.list _ _ _ _) (.cons (LeAV.refl _) .nil))) hl2) fun _ => ?_⟩
      · rw [Tryz.results41]
        simp only [go_sem, ↓reduceIte, f4, f5]
      · have := hq 0 (.inl (by unfold freeOut; rw [he]; rfl))
        rw [show freeOut o er = [] by unfold freeOut; rw [he]; rfl] at this
        exact this
  have f17 : τ 17 = .bool false := by rw [f17, he]; rfl
  refine .condF (by exact f17) (.skip ?_)
  show NSem Tryz.prog _ _ _ _
  obtain rfl : er = 0 := by simpa using he
  obtain ⟨hosz, hofit, honorm, _⟩ := pair_again hv
  refine NSem.seqN (fun τ h' => ∃ c8, τ 6 = .ptr c 0 ∧ τ 8 = .ptr c8 0 ∧ HLess h' h ∧ h' c8 = some (.cells [.list 0 [] 0 .nil] 77) ∧ h c8 = Option.none ∧ h' c = some (.cells (cellsT o) 27)) ?_ fun τ h3 n3 hI => ?_
  · try dsimp only
    repeat first | ((with_reducible refine sS ?_); intro bC bR bU hC hR hU; simp only [go_sem, ↓reduceIte, f6, f7]; subst hC hR hU) | (with_reducible refine iR ?_; refine rG (by simp only [compL, gtOf, nthDst]; exact rfl) ?_)
    intro c8 h8
    try dsimp only
    repeat (with_reducible refine nS ?_)
    have e := ne_of_new h8 mc
    refine only_end ⟨c8, ?_⟩
    simp only [go_sem, ↓reduceIte, f6, e, mc]
    exact ⟨hl2.new (hl2.none h8), hl2.none h8⟩
  clear f6 f7 f17
  obtain ⟨c8, f6, f8, hl3, m8, n8, mc⟩ := hI
  refine .seq ?_
  refine NSem.seqN (fun τ h' => ∃ ch, τ 8 = .ptr c8 0 ∧ τ 20 = .func (.func 133) [] [.ptr ch 0] ∧ HLess h' h ∧ h' c8 = some (.cells [.list 0 [] 0 .nil] 77) ∧ h' ch = some (.cells (cellsT o) 27) ∧ ch ≠ c8) ?_ fun τ h4 n4 hI => ?_
  · try dsimp only
    repeat first | ((with_reducible refine sS ?_); intro bC bR bU hC hR hU; simp only [go_sem, ↓reduceIte, f6, f8, mc]; subst hC hR hU) | (with_reducible refine iR ?_; refine rG (by simp only [compL, gtOf, nthDst]; exact rfl) ?_)
    refine heads_am o _ _ fun ch hch => ?_
    try dsimp only
    repeat (with_reducible refine nS ?_)
    have e := ne_of_new hch m8
    refine only_end ⟨ch, ?_⟩
    simp only [go_sem, ↓reduceIte, f8, e, m8]
    exact ⟨hl3.new (hl3.none hch), fun e2 => e e2.symm⟩
  clear f6 f8 mc m8 hl3
  obtain ⟨ch, f8, f20, hl4, m8, mch, hch8⟩ := hI
  refine .block (.hideRF fun asg bd hasg hbd => .of_fresh fun hfresh => ?_)
  have fD : h4 n4 = Option.none := hfresh _ (Nat.le_refl _)
  have fL : h4 (n4 + 1) = Option.none := hfresh _ (Nat.le_succ _)
  have hDL : n4 ≠ n4 + 1 := by omega
  refine NSem.rangeFunc rfl (f := 133) (first := []) (cap := [.ptr ch 0]) f20 ?_
  show NCalls Tryz.prog 133 [.yield (n4 + 1), .ptr ch 0] (upd (upd h4 n4 (some .defs)) (n4 + 1) (some (.loop .ready Option.none Tryz.f41.ntmps τ [21] asg bd n4))) (n4 + 2) _
  obtain ⟨L, hLdef⟩ : ∃ L, L = n4 + 1 := ⟨_, rfl⟩
  rw [← hLdef] at fL hDL ⊢
  let Own : List Int → AHeap → AHeap → Prop := fun s H h0 => H L = some (.loop .ready Option.none Tryz.f41.ntmps τ [21] asg bd n4) ∧ h0 L = Option.none ∧ h0 c8 = Option.none ∧ (s.Nodup ∧ s ⊆ (List.range vs.length).map Int.ofNat) ∧ ∃ sz tok, H c8 = some (.cells [.list sz (nums s) s.length tok] 77) ∧ (s = [] ∨ sz = 1) ∧ Grow 3 h0 H tok
  have hround : ∀ h0 s u h' Q, (∃ d, fitsF vs u d = true) → Own s h' h0 → HLess h' h0 → (∀ h2, Own (stepFree s u) h2 h0 → HLess h2 h0 → Q (.ret (.bool true)) h2) → AmRound Tryz.prog L [enc u] h' Q := by
    intro h0 s u h' Q hu hO hl0 hqT
    obtain ⟨d, hfu⟩ := hu
    obtain ⟨oL, n0L, n08, ⟨snd, ssub⟩, sz, tok, o8, hsz, hg⟩ := hO
    have hsl : s.length ≤ 1000000 := by
      have := snd.length_le_of_subset ssub
      rw [List.length_map, List.length_range] at this
      omega
    refine AmRound.of_sem (args := [enc u]) oL rfl ?_
    show AmSem _ asg _ (eupd τ 21 (enc u)) _
    rw [hasg]
    try dsimp only
    repeat first | ((with_reducible refine sS ?_); intro bC bR bU hC hR hU; simp only [go_sem, ↓reduceIte]; subst hC hR hU) | (with_reducible refine iR ?_; refine rG (by simp only [compL, gtOf, nthDst]; exact rfl) ?_)
    intro w hw
    have wL := ne_of_new hw oL
    have w8 := ne_of_new hw o8
    try dsimp only
    repeat first | ((with_reducible refine sS ?_); intro bC bR bU hC hR hU; simp only [go_sem, ↓reduceIte]; subst hC hR hU) | with_reducible refine nS ?_
    refine ⟨_, _, _, _, _, _, (upd_other _ _ wL).trans oL, ?_⟩
    obtain ⟨H2, hH2⟩ : ∃ H2, H2 = upd (upd h' w (some (.cells (cellsT u) 27))) L (some (.loop .busy Option.none Tryz.f41.ntmps τ [21] asg bd n4)) := ⟨_, rfl⟩
    rw [← hH2, hbd]
    have d8 : c8 ≠ L := by intro e; rw [e, oL] at o8; cases o8
    have dwL : w ≠ L := fun e => wL e.symm
    have sL : H2 L = some (.loop .busy Option.none Tryz.f41.ntmps τ [21] asg bd n4) := by rw [hH2, upd_same]
    have sw : H2 w = some (.cells (cellsT u) 27) := by rw [hH2, upd_other _ _ dwL, upd_same]
    have s8 : H2 c8 = some (.cells [.list sz (nums s) s.length tok] 77) := by rw [hH2, upd_other _ _ d8, upd_other _ _ w8]; exact o8
    have hl2 : HLess H2 h0 := by rw [hH2]; exact (hl0.new (hl0.none hw)).new n0L
    have hg2 : Grow 3 h0 H2 tok := by
      rcases hg with e | ⟨f, ef, hf, hf0⟩
      · exact .inl e
      · refine .inr ⟨f, ef, ?_, hf0⟩
        rw [hH2, upd_other _ _ (by intro e; rw [e, oL] at hf; cases hf), upd_other _ _ (ne_of_new hw hf)]; exact hf
    clear hH2
    have hgo : ∀ H3 sz3 tok3, HLess H3 h0 → H3 L = some (.loop .busy Option.none Tryz.f41.ntmps τ [21] asg bd n4) → H3 c8 = some (.cells [.list sz3 (nums (stepFree s u)) (stepFree s u).length tok3] 77) → ((stepFree s u) = [] ∨ sz3 = 1) → Grow 3 h0 H3 tok3 → ∀ τ', roundK L Q .normal τ' H3 := by
      intro H3 sz3 tok3 hl k0 k8 ks kg τ'
      have hsub : (stepFree s u).Nodup ∧ stepFree s u ⊆ (List.range vs.length).map Int.ofNat := by
        unfold stepFree
        cases k4 : (u.kind == 4)
        · exact ⟨snd, ssub⟩
        · rw [if_pos rfl]
          cases hc : s.contains u.n
          · have hv := fits_var hfu k4
            refine ⟨?_, ?_⟩
            · show (s ++ [u.n]).Nodup
              rw [List.nodup_append]
              refine ⟨snd, List.nodup_cons.2 ⟨List.not_mem_nil, List.nodup_nil⟩, fun a ha b hb => ?_⟩
              rw [List.mem_singleton] at hb
              subst hb
              intro e
              rw [e] at ha
              have := List.contains_iff_mem.2 ha
              rw [hc] at this; cases this
            · intro x hx
              rcases List.mem_append.1 hx with hx | hx
              · exact ssub hx
              · rw [List.mem_singleton] at hx
                subst hx
                exact List.mem_map.2 ⟨u.n.toNat, List.mem_range.2 (by omega), by show ((u.n.toNat : Nat) : Int) = u.n; omega⟩
          · exact ⟨snd, ssub⟩
      refine ⟨_, _, _, _, _, _, k0, hqT _ ⟨upd_same _ _ _, n0L, n08, hsub, sz3, tok3, (upd_other _ _ d8).trans k8, ks, ?_⟩ (hl.new n0L)⟩
      rcases kg with e | ⟨f, ef, hf, hf0⟩
      · exact .inl e
      · refine .inr ⟨f, ef, ?_, hf0⟩
        rw [upd_other _ _ (by intro e; rw [e, k0] at hf; cases hf)]; exact hf
    cases k4 : (u.kind == 4)
    · have hst : stepFree s u = s := by unfold stepFree; rw [k4]; rfl
      rw [hst] at hgo
      try dsimp only
      repeat first | ((with_reducible first | refine sS ?_ | refine sC ?_); intro bC bR bU hC hR hU; simp only [go_sem, ↓reduceIte, f8, sw, s8, k4]; subst hC hR hU) | (with_reducible refine rN ?_; subst hbq) | (with_reducible refine iR ?_; refine rG (by simp only [compL, gtOf, nthDst]; exact rfl) ?_) | (with_reducible refine rB fun cq hcq => ?_; subst hcq) | with_reducible first | refine nS ?_ | refine rS fun bq hbq => ?_ | refine rK ?_ | refine rE ?_
      exact hgo _ sz tok hl2 sL s8 hsz hg2 _
    try dsimp only
    repeat first | ((with_reducible refine sS ?_); intro bC bR bU hC hR hU; simp only [go_sem, ↓reduceIte, f8, sw, s8, k4]; subst hC hR hU) | (with_reducible refine iR ?_; refine rG (by simp only [compL, gtOf, nthDst]; exact rfl) ?_) | (with_reducible refine rB fun cq hcq => ?_; subst hcq) | with_reducible refine rS fun bq hbq => ?_
    refine contains_am s u.n sz tok _ _ (by omega) hsz ?_
    cases hc : s.contains u.n
    · have hst : stepFree s u = s ++ [u.n] := by unfold stepFree; rw [k4, hc]; rfl
      rw [hst] at hgo
      try dsimp only
      repeat first | ((with_reducible first | refine sS ?_ | refine sC ?_); intro bC bR bU hC hR hU; simp only [go_sem, ↓reduceIte, f8, sw, s8, k4, hc, build_int]; subst hC hR hU) | (with_reducible refine rN ?_; subst hbq) | (with_reducible refine iR ?_; refine rG (by simp only [compL, gtOf, nthDst]; exact rfl) ?_) | with_reducible refine nS ?_
      refine cAppend_list ?_
      simp only [go_sem, ↓reduceIte]
      intro w2 hw2
      obtain ⟨h1', b1, b2, b3, b4⟩ := grow_base2 hg2 hl2
      obtain ⟨h4', ea, hg4, hl4', keep⟩ := append_grow el_77 el_77 sz_3 by_3 ze_3 ⟨rfl, by decide⟩ b1 hw2 (sz1 := sz) (n1 := s.length) (c1 := nums s) (c2 := [.int .i64 u.n]) (n2 := 1) (t2 := .full) b3 (by rcases hsz with e | e <;> simp [e]) (sz2 := 1) rfl (by decide) (by omega)
      have k8 := keep _ _ _ s8
      have kL := hl4' _ _ (b4 _ _ sL (fun T e => by cases e))
      simp only [ea, f8, k8, go_sem, ↓reduceIte]
      try dsimp only
      repeat (with_reducible refine rE ?_)
      refine hgo _ 1 (.id w2) ((hl4'.trans b2).new n08) ((upd_other _ _ d8.symm).trans kL) ?_ (.inr rfl) ?_ _
      · rw [upd_same]; simp [nums]
      · have hg5 := hg4.low b2
        rcases hg5 with e | ⟨f, ef, hf, hf0⟩
        · exact .inl e
        · refine .inr ⟨f, ef, ?_, hf0⟩
          rw [upd_other _ _ (by intro e; rw [e, k8] at hf; cases hf)]; exact hf
    · have hst : stepFree s u = s := by unfold stepFree; rw [k4, hc]; rfl
      rw [hst] at hgo
      try dsimp only
      repeat first | ((with_reducible first | refine sS ?_ | refine sC ?_); intro bC bR bU hC hR hU; simp only [go_sem, ↓reduceIte, f8, sw, s8, k4, hc]; subst hC hR hU) | (with_reducible refine rN ?_; subst hbq) | with_reducible first | refine nS ?_ | refine rK ?_ | refine rE ?_
      exact hgo _ sz tok hl2 sL s8 hsz hg2 _
  have R : Turns L Own stepFree (fun u => ∃ d, fitsF vs u d = true) := by
    refine ⟨fun s H H' h0 hO hl => ?_, fun s H h1 h0 hO hl => ?_, fun s H h0 p x hO hl hp => ?_, fun t i u ht hu => ?_, hround⟩
    · obtain ⟨oL, n0L, n08, hs, sz, tok, o8, hsz, hg⟩ := hO
      refine ⟨hl _ _ oL, n0L, n08, hs, sz, tok, hl _ _ o8, hsz, ?_⟩
      rcases hg with e | ⟨f, ef, hf, hf0⟩
      · exact .inl e
      · exact .inr ⟨f, ef, hl _ _ hf, hf0⟩
    · obtain ⟨oL, n0L, n08, hs, sz, tok, o8, hsz, hg⟩ := hO
      exact ⟨oL, hl.none n0L, hl.none n08, hs, sz, tok, o8, hsz, hg.low hl⟩
    · obtain ⟨oL, n0L, n08, hs, sz, tok, o8, hsz, hg⟩ := hO
      have pL := ne_of_new hp oL
      have p8 := ne_of_new hp o8
      have hgn := hg.new hp x
      obtain ⟨h1, b1, b2, b3, b4⟩ := grow_base2 hgn (((HLess.refl H).new hp).trans hl)
      have h1p : (upd h1 p (some x)) p = some x := upd_same _ _ _
      have hp0 := hl.none hp
      have hfp : ∀ f, tok = .id f → f ≠ p := fun f hf e => by
        rcases hg with e2 | ⟨g, eg, hgf, _⟩
        · rcases e2 with e2 | e2 <;> rw [e2] at hf <;> cases hf
        · rw [eg] at hf; injection hf with hf; subst hf; subst e; rw [hp] at hgf; cases hgf
      refine ⟨fun j => if j = L ∨ j = c8 then Option.none else (upd h1 p (some x)) j, fun j y hj => ?_, ?_, fun j y hj => ?_, ?_⟩
      · dsimp only at hj
        split at hj
        · cases hj
        · by_cases ej : j = p
          · subst ej; rw [upd_same] at hj ⊢; exact hj
          · rw [upd_other _ _ ej] at hj; exact b1 _ _ hj
      · dsimp only
        rw [if_neg (fun e => e.elim (fun e => pL e.symm) (fun e => p8 e.symm))]; exact h1p
      · dsimp only
        have e1 : j ≠ L := fun e => by subst e; rw [n0L] at hj; cases hj
        have e2 : j ≠ c8 := fun e => by subst e; rw [n08] at hj; cases hj
        have e3 : j ≠ p := fun e => by subst e; rw [hp0] at hj; cases hj
        rw [if_neg (fun e => e.elim e1 e2), upd_other _ _ e3]
        exact b2 _ _ hj
      · refine ⟨by rw [upd_other _ _ pL]; exact oL, by dsimp only; rw [if_pos (.inl rfl)], by dsimp only; rw [if_pos (.inr rfl)], hs, sz, tok, by rw [upd_other _ _ p8]; exact o8, hsz, ?_⟩
        rcases b3 with e | ⟨f, ef, hf, hf0⟩
        · exact .inl e
        · refine .inr ⟨f, ef, hf, ?_⟩
          dsimp only
          split
          · rfl
          · rw [upd_other _ _ (hfp f ef)]; exact hf0
    · obtain ⟨d, hd⟩ := ht
      rw [fitsF_eq, Bool.and_eq_true] at hd
      exact ⟨_, (fitsL_iff _ _ _).1 hd.2 u (List.mem_of_getElem? hu)⟩
  have hL4 : ∀ {j : Nat} {x : AObj}, h4 j = some x → j ≠ L := by intro j x hj e; rw [e, fL] at hj; cases hj
  have hD4 : ∀ {j : Nat} {x : AObj}, h4 j = some x → j ≠ n4 := by intro j x hj e; rw [e, fD] at hj; cases hj
  have hhD : h n4 = Option.none := hl4.none fD
  have hhL : h L = Option.none := hl4.none fL
  have hHl : HLess (upd (upd h4 n4 (some .defs)) L (some (.loop .ready Option.none Tryz.f41.ntmps τ [21] asg bd n4))) (upd h n4 (some .defs)) := by
    intro j y hj
    have e1 : j ≠ L := by
      intro e; subst e
      rw [upd_other _ _ hDL.symm, hhL] at hj; cases hj
    rw [upd_other _ _ e1]
    by_cases e2 : j = n4
    · subst e2; rw [upd_same] at hj ⊢; exact hj
    · rw [upd_other _ _ e2] at hj ⊢; exact hl4 _ _ hj
  have call := heads133T_am R (upd h n4 (some .defs)) o [] ch (upd (upd h4 n4 (some .defs)) L (some (.loop .ready Option.none Tryz.f41.ntmps τ [21] asg bd n4)))
    (fun out h' => out = .ret (.tuple []) ∧ HLess h' (upd h n4 (some .defs)) ∧ Own (allF stepFree o []) h' (upd h n4 (some .defs)))
    (by omega) ⟨0, hofit⟩ (by rw [upd_other _ _ (hL4 mch), upd_other _ _ (hD4 mch)]; exact mch)
    ⟨upd_same _ _ _, by rw [upd_other _ _ hDL.symm]; exact hhL, by rw [upd_other _ _ (hD4 m8)]; exact n8, ⟨List.nodup_nil, List.nil_subset _⟩, 0, .nil, by rw [upd_other _ _ (hL4 m8), upd_other _ _ (hD4 m8)]; exact m8, .inl rfl, .inl (.inr rfl)⟩
    hHl (fun h2 hO hl => ⟨rfl, hl, hO⟩)
  rw [(all_free o.size).1 o 0 [] (Nat.le_refl _) hofit] at call
  refine (call (n4 + 2)).mono fun out h5 n5 hq5 => ?_
  obtain ⟨rfl, hl5, oL, n0L, n08, hs, sz, tok, o8, hsz, hg⟩ := hq5
  have e8 := hL4 m8
  have hDd : h5 n4 = some .defs := hl5 _ _ (upd_same _ _ _)
  refine ⟨.ready, Option.none, _, _, _, _, _, _, by rw [← hLdef]; exact oL, by decide, ?_⟩
  show NSem Tryz.prog _ _ _ _
  refine NSem.seqN (fun τ' h2 => h2 = upd h5 L Option.none ∧ τ' 4 = .list sz (nums (freeF o [])) (freeF o []).length tok ∧ τ' 5 = .int .i64 0) ?_ fun τ' h2 n2' hI => .ret ?_
  · rw [← hLdef]
    have o8' : upd h5 L Option.none c8 = some (.cells [.list sz (nums (freeF o [])) (freeF o []).length tok] 77) := by rw [upd_other _ _ e8]; exact o8
    try dsimp only
    repeat first | ((with_reducible refine sS ?_); intro bC bR bU hC hR hU; simp only [go_sem, ↓reduceIte, f8, o8']; subst hC hR hU) | (with_reducible refine iR ?_; refine rG (by simp only [compL, gtOf, nthDst]; exact rfl) ?_) | with_reducible refine nS ?_
    refine only_end ⟨rfl, ?_⟩
    simp only [go_sem, ↓reduceIte]
  · obtain ⟨rfl, f4, f5⟩ := hI
    have hfo : freeOut o 0 = freeF o [] := rfl
    rw [hfo] at hq
    refine ⟨by show upd h5 L Option.none n4 = _; rw [upd_other _ _ hDL]; exact hDd, [.list sz (nums (freeF o [])) (freeF o []).length tok, .int .i64 0], ?_, EndV.weak (WeakV.of (LeAV.tuple (.cons (LeAV.list _ _ _ _) (.cons (LeAV.refl _) .nil))) (show HLess (upd (upd h5 L Option.none) n4 Option.none) h from fun j y hj => ?_)) fun _ => hq sz hsz⟩
    · rw [Tryz.results41]
      simp only [go_sem, ↓reduceIte, f4, f5]
    · have e1 : j ≠ n4 := fun e => by subst e; rw [hhD] at hj; cases hj
      have e2 : j ≠ L := fun e => by subst e; rw [hhL] at hj; cases hj
      rw [upd_other _ _ e1, upd_other _ _ e2]
      exact hl5 _ _ (by rw [upd_other _ _ e1]; exact hj)
theorem free42_am (vs : List Va) (hvs : vs.length ≤ 1000000) (tk : Tok) {t o : Term} {er : Int} (hv : ValPair vs t o er) (h : AHeap) (Q : AOut → AHeap → Prop) (hq : ∀ sz tok h2, (freeOut o er = [] ∨ sz = 1) → HLess h2 h → Q (.ret (.tuple [.list sz (nums (freeOut o er)) (freeOut o er).length tok, .int .i64 er])) h2) :
    AmCalls Tryz.prog 42 [.agg [.list 8 (encVs vs) vs.length tk], enc t] h Q := by
  refine AmCalls.of_sem (fn := Tryz.f42) Tryz.func42 rfl (by kernel_rfl) (by rw [Tryz.ntmps42]; simp) (enters_of Tryz.func42 (by kernel_rfl) (by kernel_rfl)) ?_
  try dsimp only
  repeat first | ((with_reducible refine sS ?_); intro bC bR bU hC hR hU; simp only [go_sem, ↓reduceIte]; subst hC hR hU) | (with_reducible refine iR ?_; refine rG (by simp only [compL, gtOf, nthDst]; exact rfl) ?_) | with_reducible refine rS fun bq hbq => ?_
  intro a ha
  try dsimp only
  repeat (((with_reducible refine sS ?_); intro bC bR bU hC hR hU; simp only [go_sem, ↓reduceIte]; subst hC hR hU))
  intro b hb
  have e1 := fresh_if hb
  have fin : HLess (upd (upd h a (some (.cells [.list 8 (encVs vs) vs.length tk] 24))) b (some (.cells (cellsT t) 27))) h := ((HLess.refl h).new ha).new e1.2
  try dsimp only
  repeat first | ((with_reducible refine sS ?_); intro bC bR bU hC hR hU; simp only [go_sem, ↓reduceIte, e1.1, e1.1.symm]; subst hC hR hU) | (with_reducible refine rN ?_; subst hbq) | (with_reducible refine iR ?_; refine rG (by simp only [compL, gtOf, nthDst]; exact rfl) ?_) | with_reducible first | refine nS ?_ | refine rS fun bq hbq => ?_
  refine value40_am vs hvs tk hv _ _ ?_
  try dsimp only
  repeat (((with_reducible refine sS ?_); intro bC bR bU hC hR hU; simp only [go_sem, ↓reduceIte, e1.1, e1.1.symm]; subst hC hR hU))
  intro c hc
  have fin2 : HLess (upd (upd (upd h a (some (.cells [.list 8 (encVs vs) vs.length tk] 24))) b (some (.cells (cellsT t) 27))) c (some (.cells (cellsT o) 27))) h := fin.new (fin.none hc)
  cases he : (er == 0)
  · rw [show freeOut o er = [] by unfold freeOut; rw [he]; rfl] at hq
    try dsimp only
    repeat first | ((with_reducible first | refine sS ?_ | refine sC ?_); intro bC bR bU hC hR hU; simp only [go_sem, ↓reduceIte, he]; subst hC hR hU) | (with_reducible refine rN ?_; subst hbq) | (with_reducible refine iR ?_; refine rG (by simp only [compL, gtOf, nthDst]; exact rfl) ?_) | (with_reducible refine r1 ?_; clear hbq bq) | (with_reducible refine iL ?_; refine rL (by rw [Tryz.results42]) fin2 ?_; simp only [go_sem, ↓reduceIte, aPack, Option.some.injEq, exists_eq_left', he]) | with_reducible first | refine nS ?_ | refine rS fun bq hbq => ?_ | refine rR ?_
    exact hq 0 .nil _ (.inl rfl) (HLess.refl _)
  · rw [show freeOut o er = freeF o [] by unfold freeOut; rw [he]; rfl] at hq
    obtain rfl : er = 0 := by simpa using he
    obtain ⟨hosz, hofit, honorm, _⟩ := pair_again hv
    try dsimp only
    repeat first | ((with_reducible first | refine sS ?_ | refine sC ?_); intro bC bR bU hC hR hU; simp only [go_sem, ↓reduceIte, he]; subst hC hR hU) | (with_reducible refine rN ?_; subst hbq) | (with_reducible refine iR ?_; refine rG (by simp only [compL, gtOf, nthDst]; exact rfl) ?_) | with_reducible first | refine nS ?_ | refine rS fun bq hbq => ?_ | refine rK ?_
    refine refFree_am o.size o [] 0 .nil h _ _ (Nat.le_refl _) (by show 0 + o.size ≤ _; omega) (.inl rfl) fin2 (.inl (.inr rfl)) fun h2 sz2 tok2 hl2 hs2 hg2 => ?_
    try dsimp only
    repeat first | ((with_reducible refine sS ?_); intro bC bR bU hC hR hU; simp only [go_sem, ↓reduceIte]; subst hC hR hU) | (with_reducible refine rN ?_; subst hbq) | (with_reducible refine iL ?_; refine rL (by rw [Tryz.results42]) (HLess.refl _) ?_; simp only [go_sem, ↓reduceIte, aPack, Option.some.injEq, exists_eq_left']) | with_reducible first | refine nS ?_ | refine rR ?_
    exact hq sz2 tok2 h2 hs2 hl2
/- The law's few, Fewer, sameStrings, SameType. -/


def fewSF (vs : List Va) (l : List Term) : Bool := !decide ((vs.length : Int) > 12) && (vs.all (fun v => fewF v.t) && l.all fewF)
theorem fewS_am (vs : List Va) (tk : Tok) (l : List Term) (h : AHeap) (Q : AOut → AHeap → Prop) (hl : l.length ≤ 1000000000) (hq : Q (.ret (.bool (fewSF vs l))) h) : AmCalls Tryz.prog 14 [.agg [.list 8 (encVs vs) vs.length tk], .list 4 (encs l) l.length .none] h Q := by
  unfold fewSF at hq
  refine AmCalls.of_sem (fn := Tryz.f14) Tryz.func14 rfl (by kernel_rfl) (by rw [Tryz.ntmps14]; simp) (enters_of Tryz.func14 (by kernel_rfl) (by kernel_rfl)) ?_
  try dsimp only
  repeat first | ((with_reducible refine sS ?_); intro bC bR bU hC hR hU; simp only [go_sem, ↓reduceIte]; subst hC hR hU) | (with_reducible refine iR ?_; refine rG (by simp only [compL, gtOf, nthDst]; exact rfl) ?_) | with_reducible refine rS fun bq hbq => ?_
  intro a ha
  have fin : HLess (upd h a (some (.cells [.list 8 (encVs vs) vs.length tk] 24))) h := HLess.one ha
  have sa : (upd h a (some (AObj.cells [.list 8 (encVs vs) vs.length tk] 24))) a = some (.cells [.list 8 (encVs vs) vs.length tk] 24) := upd_same _ _ _
  cases c1 : decide ((vs.length : Int) > 12)
  case true =>
    try dsimp only
    repeat first | ((with_reducible first | refine sS ?_ | refine sC ?_); intro bC bR bU hC hR hU; simp only [go_sem, ↓reduceIte, c1]; subst hC hR hU) | (with_reducible refine rN ?_; subst hbq) | (with_reducible refine iR ?_; refine rG (by simp only [compL, gtOf, nthDst]; exact rfl) ?_) | (with_reducible refine r1 ?_; clear hbq bq) | (with_reducible refine iL ?_; refine rL (by rw [Tryz.results14]) fin ?_; simp only [go_sem, ↓reduceIte, aPack, Option.some.injEq, exists_eq_left', c1]) | with_reducible first | refine nS ?_ | refine rS fun bq hbq => ?_ | refine rR ?_
    exact ret_as (by rw [c1]; rfl) hq
  have hv12 : (vs.length : Int) ≤ 12 := by simpa using c1
  rw [c1, Bool.not_false, Bool.true_and] at hq
  try dsimp only
  repeat first | ((with_reducible first | refine sS ?_ | refine sC ?_); intro bC bR bU hC hR hU; simp only [go_sem, ↓reduceIte, c1]; subst hC hR hU) | (with_reducible refine rN ?_; subst hbq) | (with_reducible refine iR ?_; refine rG (by simp only [compL, gtOf, nthDst]; exact rfl) ?_) | (with_reducible refine rB fun cq hcq => ?_; subst hcq) | with_reducible first | refine nS ?_ | refine rS fun bq hbq => ?_ | refine rK ?_
  generalize upd h a (some (AObj.cells [.list 8 (encVs vs) vs.length tk] 24)) = H at *
  refine run_loop (fun k τ h' => ∃ i : Nat, k + i = vs.length ∧ τ 1 = .list 4 (encs l) l.length .none ∧ τ 2 = .ptr a 0 ∧ τ 5 = .int .i64 i ∧ h' = H ∧ (vs.drop i).all (fun v => fewF v.t) = vs.all (fun v => fewF v.t)) vs.length ?_ ?_
  · exact ⟨0, rfl, rfl, rfl, rfl, rfl, rfl⟩
  · intro c hc k τ h' hI
    obtain ⟨i, hk, f1, f2, f5, rfl, hix⟩ := hI
    subst hc
    by_cases hi : i < vs.length
    · obtain ⟨v, hv⟩ : ∃ v, vs[i]? = some v := ⟨_, List.getElem?_eq_getElem hi⟩
      obtain ⟨r, hr⟩ := encVs_at vs i hv
      have hr4 : List.drop (i * 8 + 4) (encVs vs) = .int .i64 v.t.kind :: .int .i64 v.t.n :: .str v.t.name :: .list 4 (encs v.t.args) v.t.args.length .none :: r := by rw [← List.drop_drop, hr]; rfl
      have hdrop : vs.drop i = v :: vs.drop (i + 1) := by
        rw [List.drop_eq_getElem_cons hi]
        rw [List.getElem?_eq_getElem hi] at hv; injection hv with hv; rw [hv]
      rw [hdrop, List.all_cons] at hix
      try dsimp only
      repeat first | ((with_reducible first | refine sS ?_ | refine sC ?_); intro bC bR bU hC hR hU; simp only [go_sem, ↓reduceIte, f1, f2, f5, sa, hi, hr4]; subst hC hR hU) | (with_reducible refine rN ?_; subst hbq) | (with_reducible refine iR ?_; refine rG (by simp only [compL, gtOf, nthDst]; exact rfl) ?_) | (with_reducible refine rB fun cq hcq => ?_; subst hcq) | with_reducible first | refine nS ?_ | refine rS fun bq hbq => ?_ | refine rK ?_
      refine fewT_am v.t _ _ ?_
      cases hf : fewF v.t
      · rw [hf, Bool.false_and] at hix
        rw [← hix] at hq
        try dsimp only
        repeat first | ((with_reducible first | refine sS ?_ | refine sC ?_); intro bC bR bU hC hR hU; simp only [go_sem, ↓reduceIte, f1, f2, f5, sa, hf]; subst hC hR hU) | (with_reducible refine rN ?_; subst hbq) | (with_reducible refine iR ?_; refine rG (by simp only [compL, gtOf, nthDst]; exact rfl) ?_) | (with_reducible refine r1 ?_; clear hbq bq) | (with_reducible refine iL ?_; refine rL (by rw [Tryz.results14]) fin ?_; simp only [go_sem, ↓reduceIte, aPack, Option.some.injEq, exists_eq_left', f1, f2, f5, sa, hf]) | with_reducible first | refine nS ?_ | refine rS fun bq hbq => ?_ | refine rR ?_ | refine r3 ?_ | refine r4 ?_
        exact hq
      · rw [hf, Bool.true_and] at hix
        try dsimp only
        repeat first | ((with_reducible first | refine sS ?_ | refine sC ?_); intro bC bR bU hC hR hU; simp only [go_sem, ↓reduceIte, f1, f2, f5, sa, hf, wrap_in (show -9223372036854775808 ≤ (i : Int) + 1 by omega) (show (i : Int) + 1 ≤ 9223372036854775807 by omega)]; subst hC hR hU) | (with_reducible refine rN ?_; subst hbq) | (with_reducible refine iR ?_; refine rG (by simp only [compL, gtOf, nthDst]; exact rfl) ?_) | with_reducible first | refine nS ?_ | refine rK ?_ | refine rE ?_
        refine run_loopN (m := k - 1) (by omega) ⟨i + 1, by omega, f1, f2, rfl, rfl, hix⟩
    · rw [List.drop_eq_nil_of_le (by omega), List.all_nil] at hix
      rw [← hix, Bool.true_and] at hq
      try dsimp only
      repeat first | ((with_reducible first | refine sS ?_ | refine sC ?_); intro bC bR bU hC hR hU; simp only [go_sem, ↓reduceIte, f1, f2, f5, sa, hi]; subst hC hR hU) | (with_reducible refine rN ?_; subst hbq) | (with_reducible refine iR ?_; refine rG (by simp only [compL, gtOf, nthDst]; exact rfl) ?_) | (with_reducible refine rB fun cq hcq => ?_; subst hcq) | (with_reducible refine x1 ?_; clear hbq bq) | with_reducible first | refine nS ?_ | refine rS fun bq hbq => ?_ | refine rXx ?_ | refine x3 ?_ | refine x4 ?_
      refine run_loop (fun k τ h2 => ∃ i : Nat, k + i = l.length ∧ τ 1 = .list 4 (encs l) l.length .none ∧ τ 6 = .int .i64 i ∧ HLess h2 h ∧ (l.drop i).all fewF = l.all fewF) l.length ?_ ?_
      · exact ⟨0, rfl, f1, rfl, fin, rfl⟩
      intro c hc k τ h2 hI
      clear f1 f2 f5 hix
      obtain ⟨i, hk, f1, f6, hl', hix⟩ := hI
      subst hc
      by_cases hi : i < l.length
      · obtain ⟨u, hu⟩ : ∃ u, l[i]? = some u := ⟨_, List.getElem?_eq_getElem hi⟩
        obtain ⟨r, hr⟩ := encs_at l i hu
        have hdrop : l.drop i = u :: l.drop (i + 1) := by
          rw [List.drop_eq_getElem_cons hi]
          rw [List.getElem?_eq_getElem hi] at hu; injection hu with hu; rw [hu]
        rw [hdrop, List.all_cons] at hix
        try dsimp only
        repeat first | ((with_reducible first | refine sS ?_ | refine sC ?_); intro bC bR bU hC hR hU; simp only [go_sem, ↓reduceIte, f1, f6, hi, hr]; subst hC hR hU) | (with_reducible refine rN ?_; subst hbq) | (with_reducible refine iR ?_; refine rG (by simp only [compL, gtOf, nthDst]; exact rfl) ?_) | (with_reducible refine rB fun cq hcq => ?_; subst hcq) | with_reducible first | refine nS ?_ | refine rS fun bq hbq => ?_ | refine rK ?_
        refine fewT_am u _ _ ?_
        cases hf : fewF u
        · rw [hf, Bool.false_and] at hix
          rw [← hix] at hq
          try dsimp only
          repeat first | ((with_reducible first | refine sS ?_ | refine sC ?_); intro bC bR bU hC hR hU; simp only [go_sem, ↓reduceIte, f1, f6, hf]; subst hC hR hU) | (with_reducible refine rN ?_; subst hbq) | (with_reducible refine iR ?_; refine rG (by simp only [compL, gtOf, nthDst]; exact rfl) ?_) | (with_reducible refine r1 ?_; clear hbq bq) | (with_reducible refine iL ?_; refine rL (by rw [Tryz.results14]) hl' ?_; simp only [go_sem, ↓reduceIte, aPack, Option.some.injEq, exists_eq_left', f1, f6, hf]) | with_reducible first | refine nS ?_ | refine rS fun bq hbq => ?_ | refine rR ?_ | refine r3 ?_ | refine r4 ?_
          exact hq
        · rw [hf, Bool.true_and] at hix
          try dsimp only
          repeat first | ((with_reducible first | refine sS ?_ | refine sC ?_); intro bC bR bU hC hR hU; simp only [go_sem, ↓reduceIte, f1, f6, hf, wrap_in (show -9223372036854775808 ≤ (i : Int) + 1 by omega) (show (i : Int) + 1 ≤ 9223372036854775807 by omega)]; subst hC hR hU) | (with_reducible refine rN ?_; subst hbq) | (with_reducible refine iR ?_; refine rG (by simp only [compL, gtOf, nthDst]; exact rfl) ?_) | with_reducible first | refine nS ?_ | refine rK ?_ | refine rE ?_
          refine run_loopN (m := k - 1) (by omega) ⟨i + 1, by omega, f1, rfl, hl', hix⟩
      · rw [List.drop_eq_nil_of_le (by omega), List.all_nil] at hix
        rw [← hix] at hq
        try dsimp only
        repeat first | ((with_reducible first | refine sS ?_ | refine sC ?_); intro bC bR bU hC hR hU; simp only [go_sem, ↓reduceIte, f1, f6, hi]; subst hC hR hU) | (with_reducible refine rN ?_; subst hbq) | (with_reducible refine iR ?_; refine rG (by simp only [compL, gtOf, nthDst]; exact rfl) ?_) | (with_reducible refine x1 ?_; clear hbq bq) | (with_reducible refine iL ?_; refine rL (by rw [Tryz.results14]) hl' ?_; simp only [go_sem, ↓reduceIte, aPack, Option.some.injEq, exists_eq_left', f1, f6, hi]) | with_reducible first | refine nS ?_ | refine rS fun bq hbq => ?_ | refine rXx ?_ | refine rR ?_ | refine x3 ?_ | refine x4 ?_
        exact hq
/- SameType, SameStore: of equal ones. -/


mutual
theorem sameF_refl : ∀ t : Term, sameF t t = true
  | ⟨k, n, s, l⟩ => by
    rw [sameF, sameL_refl l]
    simp
theorem sameL_refl : ∀ l : List Term, sameL l l = true
  | [] => by rw [sameL]
  | t :: l => by rw [sameL, sameF_refl t, sameL_refl l]; rfl
end
/- Fresh of the reference. -/


end Go.Proofs.YthkjmiejaoomcaaGreat.Am
