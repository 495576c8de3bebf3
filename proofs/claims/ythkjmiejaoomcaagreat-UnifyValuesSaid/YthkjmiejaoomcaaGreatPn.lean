/- Part of the proof of a law of layer 5: own texts, joined. -/
import Derived.Test.YthkjmiejaoomcaaGreatPl
import Derived.Test.YthkjmiejaoomcaaGreatPk
import Derived.Test.YthkjmiejaoomcaaGreatPm
import Derived.Test.YthkjmiejaoomcaaGreatPg
import Derived.Test.YthkjmiejaoomcaaGreatPb
set_option linter.unusedVariables false
set_option linter.unusedSimpArgs false
set_option linter.unnecessarySimpa false
namespace Go.Proofs.YthkjmiejaoomcaaGreat.Am
open Go Go.RowKit Go.Proofs
set_option linter.unusedVariables false
set_option linter.unusedSimpArgs false
set_option maxRecDepth 100000
set_option maxHeartbeats 1000000
attribute [local go_sem] cSeq cDr cOne cStays nthCO panK aKind gWanted panC cPanic cOp needsName cStep aop aEval argEnv List.getD_cons_zero List.getD_cons_succ AV.known AV.cells if_true if_false cond_true cond_false aPut true_and and_true ofConst ofLeaf true_imp false_imp true_imp' false_imp' btt btf
  aFieldAt aAssert aLoad aPick aBin aInt aShift aStr unSl aLen aBuiltin Option.map_some Option.map_none upd_same eupd_at Nat.reduceBEq List.drop_zero List.drop_succ_cons List.drop_nil List.take_succ_cons List.take_zero List.head?_cons List.length_cons List.length_nil Nat.reduceAdd Nat.reduceLeDiff Nat.reduceEqDiff List.map_cons List.map_nil Nat.zero_add Nat.add_zero reduceCtorEq Bool.false_eq_true
  aResL aRes1 true_implies false_implies implies_true forall_const and_self Bool.not_true Bool.not_false Bool.cond_self upd_if aExtract aNil aIface aMax aMin aNot List.getElem?_cons_zero List.getElem?_cons_succ aIndexAt aStore aSplice AV.flat List.all_cons List.all_nil Bool.and_true Bool.true_and Bool.and_false Bool.false_and Int.natCast_nonneg Int.ofNat_lt Int.toNat_natCast cCall Nat.le_add_left List.append_nil List.contains_cons List.contains_nil Bool.or_true Bool.or_false Bool.true_or Bool.false_or Nat.reduceBEq List.cons_append List.nil_append
  sz_1 by_1 ag_1 tk_1 ze_1 sz_3 by_3 ag_3 tk_3 ze_3 sz_4 by_4 ag_4 tk_4 ze_4 sz_9 by_9 ag_9 tk_9 ze_9
  sz_20 by_20 ag_20 tk_20 ze_20 sz_22 by_22 ag_22 tk_22 el_22 ze_22 sz_24 by_24 ag_24 tk_24 ze_24 fi_24_0 pl_24 sz_25 by_25
  ag_25 tk_25 el_25 ze_25 sz_27 by_27 ag_27 tk_27 ze_27 fi_27_0 fi_27_1 fi_27_2 fi_27_3 pl_27 sz_30 by_30 ag_30 tk_30 ze_30 sz_34
  by_34 ag_34 tk_34 ze_34 fi_34_0 fi_34_1 fi_34_2 fi_34_3 pl_34 sz_40 by_40 ag_40 tk_40 el_40 ze_40 sz_42 by_42 ag_42 tk_42 ze_42
  fi_42_0 fi_42_1 fi_42_2 pl_42 sz_52 by_52 ag_52 tk_52 ze_52 fi_52_0 fi_52_1 fi_52_2 fi_52_3 pl_52 sz_60 by_60 ag_60 tk_60 ze_60 fi_60_0
  fi_60_1 pl_60 sz_62 by_62 ag_62 tk_62 ze_62 fi_62_0 fi_62_1 fi_62_2 fi_62_3 pl_62 sz_68 by_68 ag_68 tk_68 ze_68 fi_68_0 fi_68_1 pl_68
  sz_70 by_70 ag_70 tk_70 el_70 ze_70 sz_77 by_77 ag_77 tk_77 el_77 ze_77 sz_80 by_80 ag_80 tk_80 ze_80 sz_83 by_83 ag_83
  tk_83 ze_83 fi_83_0 fi_83_1 pl_83 sz_95 by_95 ag_95 tk_95 ze_95 sz_97 by_97 ag_97 tk_97 ze_97 sz_99 by_99 ag_99 tk_99 mp_99
  ze_99 sz_101 by_101 ag_101 tk_101 ze_101 fi_101_0 fi_101_1 fi_101_2 pl_101 sz_104 by_104 ag_104 tk_104 ze_104 sz_106 by_106 ag_106 tk_106 ze_106
  fi_106_0 fi_106_1 fi_106_2 pl_106 sz_108 by_108 ag_108 tk_108 ze_108 sz_109 by_109 ag_109 tk_109 ze_109 sz_110 by_110 ag_110 tk_110 el_110 ze_110
  sz_112 by_112 ag_112 tk_112 ze_112 fi_112_0 fi_112_1 fi_112_2 fi_112_3 pl_112 sz_115 by_115 ag_115 tk_115 ze_115 fi_115_0 fi_115_1 pl_115 sz_121 by_121
  ag_121 tk_121 ze_121 sz_125 by_125 ag_125 tk_125 ze_125 sz_126 by_126 ag_126 tk_126 mp_126 ze_126 sz_128 by_128 ag_128 tk_128 ze_128 fi_128_0
  fi_128_1 fi_128_2 fi_128_3 pl_128 sz_136 by_136 ag_136 tk_136 el_136 ze_136 sz_140 by_140 ag_140 tk_140 mp_140 ze_140 sz_142 by_142 ag_142 tk_142
  ze_142 fi_142_0 fi_142_1 pl_142 sz_144 by_144 ag_144 tk_144 ze_144 sz_145 by_145 ag_145 tk_145 el_145 ze_145 sz_147 by_147 ag_147 tk_147 ze_147
  fi_147_0 fi_147_1 fi_147_2 fi_147_3 pl_147 sz_150 by_150 ag_150 tk_150 ze_150 pl_150 sz_152 by_152 ag_152 tk_152 ze_152 fi_152_0 pl_152 sz_156 by_156
  ag_156 tk_156 ze_156 sz_158 by_158 ag_158 tk_158 ze_158 fi_158_0 fi_158_1 fi_158_2 pl_158 sz_160 by_160 ag_160 tk_160 mp_160 ze_160 sz_162 by_162
  ag_162 tk_162 ze_162 sz_164 by_164 ag_164 tk_164 ze_164 fi_164_0 fi_164_1 fi_164_2 pl_164 sz_167 by_167 ag_167 tk_167 ze_167 fi_167_0 fi_167_1 pl_167
  sz_173 by_173 ag_173 tk_173 el_173 ze_173 sz_189 by_189 ag_189 tk_189 ze_189 sz_198 by_198 ag_198 tk_198 ze_198
  cStays_nil bne decide_true decide_false Nat.mul_one upd_twice beq_self_eq_true Int.reduceBEq Int.reduceLT Int.reduceLE
/- The reference's direct, Body, lams. -/


theorem grow_base {E : TypeId} {h0 h : AHeap} {tok : Tok} (hg : Grow E h0 h tok) (hl : HLess h h0) : ∃ h1, HLess h h1 ∧ HLess h1 h0 ∧ Grow E h1 h tok ∧ ∀ q cs T, h q = some (.cells cs T) → h1 q = some (.cells cs T) := by
  rcases hg with e | ⟨f, ef, hf, hf0⟩
  · exact ⟨h, HLess.refl h, hl, .inl e, fun _ _ _ hq => hq⟩
  · refine ⟨upd h f Option.none, hless_none h f, hless_set hl hf0 _, .inr ⟨f, ef, hf, upd_same _ _ _⟩, fun q cs T hq => ?_⟩
    rw [upd_other _ _ (by intro e; subst e; rw [hq] at hf; cases hf)]; exact hq
theorem Grow.low {E : TypeId} {h1 h0 h : AHeap} {tok : Tok} (hg : Grow E h1 h tok) (hl : HLess h1 h0) : Grow E h0 h tok := by
  rcases hg with e | ⟨f, ef, hf, hf0⟩
  · exact .inl e
  · exact .inr ⟨f, ef, hf, hl.none hf0⟩
theorem Grow.new {E : TypeId} {h0 h : AHeap} {tok : Tok} (hg : Grow E h0 h tok) {p : Nat} (hp : h p = Option.none) (x : AObj) : Grow E h0 (upd h p (some x)) tok := by
  rcases hg with e | ⟨f, ef, hf, hf0⟩
  · exact .inl e
  · exact .inr ⟨f, ef, by rw [upd_other _ _ (ne_of_new hp hf)]; exact hf, hf0⟩
abbrev nums (l : List Int) : List AV := l.map numAV
theorem directF_eq (t : Term) : directF t = if t.kind == 4 then [t.n] else directL t.args := by obtain ⟨k, n, s, l⟩ := t; rw [directF]
theorem build_int (n : Int) : aBuildSlice Tryz.prog 77 1 [(0, .int .i64 n)] = some (.list 1 [.int .i64 n] 1 .full) := build1 el_77 sz_3 ze_3 rfl rfl rfl (by decide)
theorem direct_am : ∀ (s : Nat) (t : Term) (out : List Int) (sz : Nat) (tok : Tok) (h0 h : AHeap) (Q : AOut → AHeap → Prop), t.size ≤ s → t.size ≤ 1000000000 → (out ++ directF t).length ≤ 1000000000 → (out = [] ∨ sz = 1) → HLess h h0 → Grow 3 h0 h tok →
    (∀ h2 sz2 tok2, HLess h2 h0 → (out ++ directF t = [] ∨ sz2 = 1) → Grow 3 h0 h2 tok2 → Q (.ret (.list sz2 (nums (out ++ directF t)) (out ++ directF t).length tok2)) h2) → AmCalls Tryz.prog 132 [enc t, .list sz (nums out) out.length tok] h Q := by
  intro s
  induction s with
  | zero => intro t out sz tok h0 h Q ht; obtain ⟨a, b, c, l⟩ := t; rw [Term.size] at ht; omega
  | succ s ih =>
    intro t out sz tok h0 h Q ht hts hol hsz hl hg hq
    have hlen := length_args t
    rw [directF_eq] at hq hol
    refine AmCalls.of_sem (fn := Tryz.f132) Tryz.func132 rfl (by kernel_rfl) (by rw [Tryz.ntmps132]; simp) (enters_of Tryz.func132 (by kernel_rfl) (by kernel_rfl)) ?_
    try dsimp only
    repeat first | ((with_reducible refine sS ?_); intro bC bR bU hC hR hU; simp only [go_sem, ↓reduceIte]; subst hC hR hU) | (with_reducible refine iR ?_; refine rG (by simp only [compL, gtOf, nthDst]; exact rfl) ?_) | with_reducible refine rS fun bq hbq => ?_
    intro p hp
    have hl1 : HLess (upd h p (some (.cells (cellsT t) 27))) h0 := ((HLess.refl h).new hp).trans hl
    have hg1 := hg.new hp (.cells (cellsT t) 27)
    have sp : (upd h p (some (AObj.cells (cellsT t) 27))) p = some (.cells (cellsT t) 27) := upd_same _ _ _
    generalize upd h p (some (AObj.cells (cellsT t) 27)) = H at *
    cases k4 : (t.kind == 4)
    · simp only [k4, Bool.false_eq_true, if_false] at hq hol
      try dsimp only
      repeat first | ((with_reducible first | refine sS ?_ | refine sC ?_); intro bC bR bU hC hR hU; simp only [go_sem, ↓reduceIte, sp, k4]; subst hC hR hU) | (with_reducible refine rN ?_; subst hbq) | (with_reducible refine iR ?_; refine rG (by simp only [compL, gtOf, nthDst]; exact rfl) ?_) | (with_reducible refine rB fun cq hcq => ?_; subst hcq) | with_reducible first | refine nS ?_ | refine rS fun bq hbq => ?_ | refine rK ?_
      refine run_loop (fun k τ h' => ∃ (i : Nat) (out' : List Int) (sz' : Nat) (tok' : Tok), k + i = t.args.length ∧ out' ++ directL (t.args.drop i) = out ++ directL t.args ∧ τ 1 = .list sz' (nums out') out'.length tok' ∧ τ 2 = .ptr p 0 ∧ τ 5 = .int .i64 i ∧ (out' = [] ∨ sz' = 1) ∧ HLess h' h0 ∧ Grow 3 h0 h' tok' ∧ h' p = some (.cells (cellsT t) 27)) t.args.length ?_ ?_
      · exact ⟨0, out, sz, tok, rfl, rfl, rfl, rfl, rfl, hsz, hl1, hg1, sp⟩
      · intro c hc k τ h' hI
        obtain ⟨i, out', sz', tok', hk, ho, e1, e2, e5, hsz', hl', hg', mp⟩ := hI
        subst hc
        by_cases hi : i < t.args.length
        · obtain ⟨u, hu⟩ : ∃ u, t.args[i]? = some u := ⟨_, List.getElem?_eq_getElem hi⟩
          obtain ⟨r, hr⟩ := encs_at t.args i hu
          have hsu := size_arg t i hu
          have hdrop : t.args.drop i = u :: t.args.drop (i + 1) := by
            rw [List.drop_eq_getElem_cons hi]
            rw [List.getElem?_eq_getElem hi] at hu; injection hu with hu; rw [hu]
          rw [hdrop, directL, ← List.append_assoc] at ho
          obtain ⟨h1, b1, b2, b3, b4⟩ := grow_base hg' hl'
          have np := b4 _ _ _ mp
          try dsimp only
          repeat first | ((with_reducible first | refine sS ?_ | refine sC ?_); intro bC bR bU hC hR hU; simp only [go_sem, ↓reduceIte, e1, e2, e5, mp, hi, hr]; subst hC hR hU) | (with_reducible refine rN ?_; subst hbq) | (with_reducible refine iR ?_; refine rG (by simp only [compL, gtOf, nthDst]; exact rfl) ?_) | (with_reducible refine rB fun cq hcq => ?_; subst hcq) | with_reducible first | refine nS ?_ | refine rS fun bq hbq => ?_ | refine rK ?_
          refine ih u out' sz' tok' h1 _ _ (by omega) (by omega) ?_ hsz' b1 b3 (fun h2 sz2 tok2 hl2 hs2 hg2 => ?_)
          · rw [← ho] at hol
            rw [List.length_append] at hol; omega
          · have mp2 := hl2 _ _ np
            try dsimp only
            repeat first | ((with_reducible refine sS ?_); intro bC bR bU hC hR hU; simp only [go_sem, ↓reduceIte, e2, e5, wrap_in (show -9223372036854775808 ≤ (i : Int) + 1 by omega) (show (i : Int) + 1 ≤ 9223372036854775807 by omega)]; subst hC hR hU) | (with_reducible refine rN ?_; subst hbq) | (with_reducible refine iR ?_; refine rG (by simp only [compL, gtOf, nthDst]; exact rfl) ?_) | with_reducible first | refine nS ?_ | refine rE ?_
            refine run_loopN (m := k - 1) (by omega) ⟨i + 1, out' ++ directF u, sz2, tok2, by omega, ho, ?_⟩
            simp only [go_sem, ↓reduceIte, e2]
            exact ⟨rfl, hs2, hl2.trans b2, hg2.low b2, mp2⟩
        · rw [List.drop_eq_nil_of_le (by omega), directL, List.append_nil] at ho
          rw [← ho] at hq
          try dsimp only
          repeat first | ((with_reducible first | refine sS ?_ | refine sC ?_); intro bC bR bU hC hR hU; simp only [go_sem, ↓reduceIte, e1, e2, e5, mp, hi]; subst hC hR hU) | (with_reducible refine rN ?_; subst hbq) | (with_reducible refine iR ?_; refine rG (by simp only [compL, gtOf, nthDst]; exact rfl) ?_) | (with_reducible refine x1 ?_; clear hbq bq) | (with_reducible refine iL ?_; refine rL (by rw [Tryz.results132]) (HLess.refl _) ?_; simp only [go_sem, ↓reduceIte, aPack, Option.some.injEq, exists_eq_left', e1, e2, e5, mp, hi]) | with_reducible first | refine nS ?_ | refine rS fun bq hbq => ?_ | refine rXx ?_ | refine rR ?_ | refine x3 ?_ | refine x4 ?_
          exact hq _ _ _ hl' hsz' hg'
    · simp only [k4, if_true] at hq hol
      rw [List.length_append] at hol
      simp only [List.length_singleton] at hol
      try dsimp only
      repeat first | ((with_reducible first | refine sS ?_ | refine sC ?_); intro bC bR bU hC hR hU; simp only [go_sem, ↓reduceIte, sp, k4, build_int]; subst hC hR hU) | (with_reducible refine rN ?_; subst hbq) | (with_reducible refine iR ?_; refine rG (by simp only [compL, gtOf, nthDst]; exact rfl) ?_) | with_reducible first | refine nS ?_ | refine rS fun bq hbq => ?_
      refine cAppend_list ?_
      simp only [go_sem, ↓reduceIte]
      intro w hw
      obtain ⟨h4, ea, hg4, hl4, keep⟩ := append_grow el_77 el_77 sz_3 by_3 ze_3 ⟨rfl, by decide⟩ hl1 hw (sz1 := sz) (n1 := out.length) (c1 := nums out) (c2 := [.int .i64 t.n]) (n2 := 1) (t2 := .full) hg1 (by rcases hsz with e | e <;> simp [e]) (sz2 := 1) rfl (by decide) (by omega)
      simp only [ea, go_sem, ↓reduceIte]
      try dsimp only
      repeat first | (with_reducible refine rN ?_; subst hbq) | (with_reducible refine r1 ?_; clear hbq bq) | (with_reducible refine iL ?_; refine rL (by rw [Tryz.results132]) (HLess.refl _) ?_; simp only [go_sem, ↓reduceIte, aPack, Option.some.injEq, exists_eq_left']) | with_reducible refine rR ?_
      have := hq h4 1 (.id w) hl4 (.inr rfl) hg4
      simpa [nums] using this
/- The reference's Body, lams. -/


def isLam1 (t : Term) : Bool := t.kind == 5 && (t.args.length : Int) == 1
def refBodyF : Nat → Term → Option Term
  | 0, t => some t
  | k + 1, t => if isLam1 t then refBodyF k (t.args.headD noTerm) else none
def bodyOut : Option Term → Term × Bool
  | some t => (t, t.kind != 5)
  | none => (⟨0, 0, noNameS, []⟩, false)
def lamsF : Nat → Term → Bool
  | 0, _ => true
  | k + 1, t => !(t.kind != 5 || (t.n != 0 || (!(t.name.toList == noNameS.toList) || (t.args.length : Int) != 1))) && lamsF k (t.args.headD noTerm)
theorem lam1_one {t : Term} (h : isLam1 t = true) : ∃ u, t.args = [u] := by
  unfold isLam1 at h
  simp only [Bool.and_eq_true, beq_iff_eq] at h
  have : t.args.length = 1 := by omega
  match hl : t.args, this with
  | [u], _ => exact ⟨u, rfl⟩
theorem build27_00 : aBuild Tryz.prog 27 [] = some (.agg [.int .i64 0, .int .i64 0, .str noNameS, .list 0 [] 0 .nil]) := by
  simp only [aBuild, ze_27, pl_27, aFill]
  rfl
theorem le_zero : LeAV (.tuple [.agg [.int .i64 0, .int .i64 0, .str noNameS, .list 0 [] 0 .nil], .bool false]) (.tuple [enc (bodyOut none).1, .bool (bodyOut none).2]) := by
  refine LeAV.tuple (.cons (LeAV.agg (.cons (LeAV.refl _) (.cons (LeAV.refl _) (.cons (LeAV.refl _) (.cons ?_ .nil))))) (.cons (LeAV.refl _) .nil))
  show LeAV _ (.list 4 (encs []) 0 .none)
  rw [encs_nil]
  exact LeAV.nil _ _ _
theorem refBody_am (t : Term) (n : Nat) (h : AHeap) (Q : AOut → AHeap → Prop) (hn : n ≤ 1000000000) (hq : Q (.ret (.tuple [enc (bodyOut (refBodyF n t)).1, .bool (bodyOut (refBodyF n t)).2])) h) : AmCalls Tryz.prog 88 [enc t, .int .i64 n] h Q := by
  have hq : ∀ v, LeAV v (.tuple [enc (bodyOut (refBodyF n t)).1, .bool (bodyOut (refBodyF n t)).2]) → ∃ v1 v', AOut.ret v = .ret v1 ∧ LeAV v1 v' ∧ Q (.ret v') h := fun v hv => ⟨v, _, rfl, hv, hq⟩
  refine AmCalls.weak ?_
  refine AmCalls.of_sem (fn := Tryz.f88) Tryz.func88 rfl (by kernel_rfl) (by rw [Tryz.ntmps88]; simp) (enters_of Tryz.func88 (by kernel_rfl) (by kernel_rfl)) ?_
  try dsimp only
  repeat first | ((with_reducible refine sS ?_); intro bC bR bU hC hR hU; simp only [go_sem, ↓reduceIte]; subst hC hR hU) | (with_reducible refine iR ?_; refine rG (by simp only [compL, gtOf, nthDst]; exact rfl) ?_) | with_reducible refine rS fun bq hbq => ?_
  intro p hp
  try dsimp only
  repeat (((with_reducible refine sS ?_); intro bC bR bU hC hR hU; simp only [go_sem, ↓reduceIte]; subst hC hR hU))
  intro q hq'
  have e1 := fresh_if hq'
  try dsimp only
  repeat first | ((with_reducible refine sS ?_); intro bC bR bU hC hR hU; simp only [go_sem, ↓reduceIte]; subst hC hR hU) | (with_reducible refine rN ?_; subst hbq) | (with_reducible refine iR ?_; refine rG (by simp only [compL, gtOf, nthDst]; exact rfl) ?_) | (with_reducible refine rB fun cq hcq => ?_; subst hcq) | with_reducible first | refine nS ?_ | refine rS fun bq hbq => ?_
  refine run_loop (fun k τ h' => ∃ (i : Nat) (u : Term), k + i = n ∧ refBodyF k u = refBodyF n t ∧ τ 1 = .int .i64 n ∧ τ 2 = .ptr p 0 ∧ τ 4 = .ptr q 0 ∧ τ 6 = .int .i64 i ∧ HLess h' h ∧ h' p = some (.cells (cellsT u) 27) ∧ h' q = some (.cells [.int .i64 0, .int .i64 0, .str noNameS, .list 0 [] 0 .nil] 27)) n ?_ ?_
  · refine ⟨0, t, rfl, ?_⟩
    simp only [go_sem, ↓reduceIte, e1.1, e1.1.symm]
    exact ⟨rfl, (HLess.refl h).new hp |>.new e1.2⟩
  · intro c hc k τ h' hI
    obtain ⟨i, u, hk, hix, f1, f2, f4, f6, hl, lp, lq⟩ := hI
    subst hc
    by_cases hi : i < n
    · obtain ⟨k', rfl⟩ : ∃ k', k = k' + 1 := ⟨k - 1, by omega⟩
      rw [refBodyF] at hix
      cases k5 : (u.kind == 5)
      · have h1 : isLam1 u = false := by simp only [isLam1, k5]; rfl
        rw [h1] at hix
        try dsimp only
        repeat first | ((with_reducible first | refine sS ?_ | refine sC ?_); intro bC bR bU hC hR hU; simp only [go_sem, ↓reduceIte, f1, f2, f4, f6, hi, lp, lq, k5, build27_00]; subst hC hR hU) | (with_reducible refine rN ?_; subst hbq) | (with_reducible refine iR ?_; refine rG (by simp only [compL, gtOf, nthDst]; exact rfl) ?_) | (with_reducible refine rB fun cq hcq => ?_; subst hcq) | (with_reducible refine r1 ?_; clear hbq bq) | (with_reducible refine iL ?_; refine rL (by rw [Tryz.results88]) (hless_set hl e1.2 _) ?_; simp only [go_sem, ↓reduceIte, aPack, Option.some.injEq, exists_eq_left', f1, f2, f4, f6, hi, lp, lq, k5, build27_00]) | with_reducible first | refine nS ?_ | refine rS fun bq hbq => ?_ | refine rK ?_ | refine rR ?_ | refine r3 ?_ | refine r4 ?_
        exact hq _ (by rw [← hix]; exact le_zero)
      cases l1 : ((u.args.length : Int) == 1)
      · have h1 : isLam1 u = false := by simp only [isLam1, k5, l1]; rfl
        rw [h1] at hix
        try dsimp only
        repeat first | ((with_reducible first | refine sS ?_ | refine sC ?_); intro bC bR bU hC hR hU; simp only [go_sem, ↓reduceIte, f1, f2, f4, f6, hi, lp, lq, k5, l1, build27_00]; subst hC hR hU) | (with_reducible refine rN ?_; subst hbq) | (with_reducible refine iR ?_; refine rG (by simp only [compL, gtOf, nthDst]; exact rfl) ?_) | (with_reducible refine rB fun cq hcq => ?_; subst hcq) | (with_reducible refine r1 ?_; clear hbq bq) | (with_reducible refine iL ?_; refine rL (by rw [Tryz.results88]) (hless_set hl e1.2 _) ?_; simp only [go_sem, ↓reduceIte, aPack, Option.some.injEq, exists_eq_left', f1, f2, f4, f6, hi, lp, lq, k5, l1, build27_00]) | with_reducible first | refine nS ?_ | refine rS fun bq hbq => ?_ | refine rK ?_ | refine rR ?_ | refine r3 ?_ | refine r4 ?_
        exact hq _ (by rw [← hix]; exact le_zero)
      have h1 : isLam1 u = true := by simp only [isLam1, k5, l1]; rfl
      rw [h1] at hix
      obtain ⟨w, hw⟩ := lam1_one h1
      try dsimp only
      repeat first | ((with_reducible first | refine sS ?_ | refine sC ?_); intro bC bR bU hC hR hU; simp only [go_sem, ↓reduceIte, f1, f2, f4, f6, hi, lp, lq, k5, hw, show (((1 : Nat) : Int) == 1) = true from rfl, Int.le_refl, Int.toNat_zero, Nat.zero_mul, show ((0 : Int) < ((1 : Nat) : Int)) = True from eq_true (by decide), encs_cons, encs_nil, wrap_in (show -9223372036854775808 ≤ (i : Int) + 1 by omega) (show (i : Int) + 1 ≤ 9223372036854775807 by omega)]; subst hC hR hU) | (with_reducible refine rN ?_; subst hbq) | (with_reducible refine iR ?_; refine rG (by simp only [compL, gtOf, nthDst]; exact rfl) ?_) | (with_reducible refine rB fun cq hcq => ?_; subst hcq) | with_reducible first | refine nS ?_ | refine rS fun bq hbq => ?_ | refine rK ?_ | refine rE ?_
      rw [hw] at hix
      refine run_loopN (m := k') (by omega) ⟨i + 1, w, by omega, hix, ?_⟩
      simp only [go_sem, ↓reduceIte, f1, f2, f4, e1.1, e1.1.symm, lq]
      exact ⟨rfl, hless_set hl hp _⟩
    · have : k = 0 := by omega
      subst this
      rw [refBodyF] at hix
      try dsimp only
      repeat first | ((with_reducible first | refine sS ?_ | refine sC ?_); intro bC bR bU hC hR hU; simp only [go_sem, ↓reduceIte, f1, f2, f4, f6, hi, lp, lq]; subst hC hR hU) | (with_reducible refine rN ?_; subst hbq) | (with_reducible refine iR ?_; refine rG (by simp only [compL, gtOf, nthDst]; exact rfl) ?_) | (with_reducible refine x1 ?_; clear hbq bq) | with_reducible first | refine nS ?_ | refine rS fun bq hbq => ?_ | refine rXx ?_ | refine x3 ?_ | refine x4 ?_
      repeat with_reducible refine run_seq fun bq hbq => ?_
      refine run_draw (.take 0 (.take 1 (.take 2 (.take 3 (.one 4 [2] (.take 5 (.done))))))) (by kernel_rfl) (by simp only [compL, gtOf, nthDst]; exact rfl) ?_
      cases k5 : (u.kind == 5)
      all_goals
        try dsimp only
        repeat first | ((first | (with_reducible refine iT ?_; refine sT rfl ?_) | (with_reducible refine iO ?_; refine sO rfl ?_)); intro bC bR bU hC hR hU; simp only [go_sem, ↓reduceIte, f1, f2, f4, f6, hi, lp, lq, k5, e1.1, e1.1.symm]; subst hC hR hU) | (with_reducible refine rN ?_; subst hbq) | (with_reducible refine iL ?_; refine rL (by rw [Tryz.results88]) (hless_set hl e1.2 _) ?_; simp only [go_sem, ↓reduceIte, aPack, Option.some.injEq, exists_eq_left', f1, f2, f4, f6, hi, lp, lq, k5, e1.1, e1.1.symm]) | with_reducible first | refine nD ?_ | refine rR ?_
        exact hq _ (by rw [← hix]; simp only [bodyOut, bne, k5]; exact LeAV.refl _)
theorem lams_am (t : Term) (n : Nat) (h : AHeap) (Q : AOut → AHeap → Prop) (hn : n ≤ 1000000000) (hq : Q (.ret (.bool (lamsF n t))) h) : AmCalls Tryz.prog 89 [enc t, .int .i64 n] h Q := by
  refine AmCalls.of_sem (fn := Tryz.f89) Tryz.func89 rfl (by kernel_rfl) (by rw [Tryz.ntmps89]; simp) (enters_of Tryz.func89 (by kernel_rfl) (by kernel_rfl)) ?_
  try dsimp only
  repeat first | ((with_reducible refine sS ?_); intro bC bR bU hC hR hU; simp only [go_sem, ↓reduceIte]; subst hC hR hU) | (with_reducible refine iR ?_; refine rG (by simp only [compL, gtOf, nthDst]; exact rfl) ?_) | with_reducible refine rS fun bq hbq => ?_
  intro p hp
  try dsimp only
  repeat first | ((with_reducible refine sS ?_); intro bC bR bU hC hR hU; simp only [go_sem, ↓reduceIte]; subst hC hR hU) | (with_reducible refine rN ?_; subst hbq) | (with_reducible refine iR ?_; refine rG (by simp only [compL, gtOf, nthDst]; exact rfl) ?_) | (with_reducible refine rB fun cq hcq => ?_; subst hcq) | with_reducible first | refine nS ?_ | refine rS fun bq hbq => ?_
  refine run_loop (fun k τ h' => ∃ (i : Nat) (u : Term), k + i = n ∧ lamsF k u = lamsF n t ∧ τ 1 = .int .i64 n ∧ τ 2 = .ptr p 0 ∧ τ 5 = .int .i64 i ∧ HLess h' h ∧ h' p = some (.cells (cellsT u) 27)) n ?_ ?_
  · refine ⟨0, t, rfl, ?_⟩
    simp only [go_sem, ↓reduceIte]
    exact ⟨rfl, HLess.one hp⟩
  · intro c hc k τ h' hI
    obtain ⟨i, u, hk, hix, f1, f2, f5, hl, lp⟩ := hI
    subst hc
    by_cases hi : i < n
    · obtain ⟨k', rfl⟩ : ∃ k', k = k' + 1 := ⟨k - 1, by omega⟩
      rw [lamsF] at hix
      have hst : (u.kind != 5 || (u.n != 0 || (!(u.name.toList == noNameS.toList) || (u.args.length : Int) != 1))) = true → Q (.ret (.bool false)) h := fun e => by
        rw [e, Bool.not_true, Bool.false_and] at hix; rw [← hix] at hq; exact hq
      cases k5 : (u.kind == 5)
      · try dsimp only
        repeat first | ((with_reducible first | refine sS ?_ | refine sC ?_); intro bC bR bU hC hR hU; simp only [go_sem, ↓reduceIte, f1, f2, f5, hi, lp, k5]; subst hC hR hU) | (with_reducible refine rN ?_; subst hbq) | (with_reducible refine iR ?_; refine rG (by simp only [compL, gtOf, nthDst]; exact rfl) ?_) | (with_reducible refine rB fun cq hcq => ?_; subst hcq) | (with_reducible refine r1 ?_; clear hbq bq) | (with_reducible refine iL ?_; refine rL (by rw [Tryz.results89]) (hl) ?_; simp only [go_sem, ↓reduceIte, aPack, Option.some.injEq, exists_eq_left', f1, f2, f5, hi, lp, k5]) | with_reducible first | refine nS ?_ | refine rS fun bq hbq => ?_ | refine rK ?_ | refine rR ?_ | refine r3 ?_ | refine r4 ?_
        exact hst (by simp only [bne, k5]; rfl)
      cases n0 : (u.n == 0)
      · try dsimp only
        repeat first | ((with_reducible first | refine sS ?_ | refine sC ?_); intro bC bR bU hC hR hU; simp only [go_sem, ↓reduceIte, f1, f2, f5, hi, lp, k5, n0]; subst hC hR hU) | (with_reducible refine rN ?_; subst hbq) | (with_reducible refine iR ?_; refine rG (by simp only [compL, gtOf, nthDst]; exact rfl) ?_) | (with_reducible refine rB fun cq hcq => ?_; subst hcq) | (with_reducible refine r1 ?_; clear hbq bq) | (with_reducible refine iL ?_; refine rL (by rw [Tryz.results89]) (hl) ?_; simp only [go_sem, ↓reduceIte, aPack, Option.some.injEq, exists_eq_left', f1, f2, f5, hi, lp, k5, n0]) | with_reducible first | refine nS ?_ | refine rS fun bq hbq => ?_ | refine rK ?_ | refine rR ?_ | refine r3 ?_ | refine r4 ?_
        exact hst (by simp only [bne, k5, n0]; rfl)
      cases nm : (u.name.toList == noNameS.toList)
      · try dsimp only
        repeat first | ((with_reducible first | refine sS ?_ | refine sC ?_); intro bC bR bU hC hR hU; simp only [go_sem, ↓reduceIte, f1, f2, f5, hi, lp, k5, n0, nm]; subst hC hR hU) | (with_reducible refine rN ?_; subst hbq) | (with_reducible refine iR ?_; refine rG (by simp only [compL, gtOf, nthDst]; exact rfl) ?_) | (with_reducible refine rB fun cq hcq => ?_; subst hcq) | (with_reducible refine r1 ?_; clear hbq bq) | (with_reducible refine iL ?_; refine rL (by rw [Tryz.results89]) (hl) ?_; simp only [go_sem, ↓reduceIte, aPack, Option.some.injEq, exists_eq_left', f1, f2, f5, hi, lp, k5, n0, nm]) | with_reducible first | refine nS ?_ | refine rS fun bq hbq => ?_ | refine rK ?_ | refine rR ?_ | refine r3 ?_ | refine r4 ?_
        exact hst (by simp only [bne, k5, n0, nm]; rfl)
      cases l1 : ((u.args.length : Int) == 1)
      · try dsimp only
        repeat first | ((with_reducible first | refine sS ?_ | refine sC ?_); intro bC bR bU hC hR hU; simp only [go_sem, ↓reduceIte, f1, f2, f5, hi, lp, k5, n0, nm, l1]; subst hC hR hU) | (with_reducible refine rN ?_; subst hbq) | (with_reducible refine iR ?_; refine rG (by simp only [compL, gtOf, nthDst]; exact rfl) ?_) | (with_reducible refine rB fun cq hcq => ?_; subst hcq) | (with_reducible refine r1 ?_; clear hbq bq) | (with_reducible refine iL ?_; refine rL (by rw [Tryz.results89]) (hl) ?_; simp only [go_sem, ↓reduceIte, aPack, Option.some.injEq, exists_eq_left', f1, f2, f5, hi, lp, k5, n0, nm, l1]) | with_reducible first | refine nS ?_ | refine rS fun bq hbq => ?_ | refine rK ?_ | refine rR ?_ | refine r3 ?_ | refine r4 ?_
        exact hst (by simp only [bne, k5, n0, nm, l1]; rfl)
      have hb : (u.kind != 5 || (u.n != 0 || (!(u.name.toList == noNameS.toList) || (u.args.length : Int) != 1))) = false := by simp only [bne, k5, n0, nm, l1]; rfl
      rw [hb, Bool.not_false, Bool.true_and] at hix
      obtain ⟨w, hw⟩ := lam1_one (t := u) (by simp only [isLam1, k5, l1]; rfl)
      try dsimp only
      repeat first | ((with_reducible first | refine sS ?_ | refine sC ?_); intro bC bR bU hC hR hU; simp only [go_sem, ↓reduceIte, f1, f2, f5, hi, lp, k5, n0, nm, hw, show (((1 : Nat) : Int) == 1) = true from rfl, Int.le_refl, Int.toNat_zero, Nat.zero_mul, show ((0 : Int) < ((1 : Nat) : Int)) = True from eq_true (by decide), encs_cons, encs_nil, wrap_in (show -9223372036854775808 ≤ (i : Int) + 1 by omega) (show (i : Int) + 1 ≤ 9223372036854775807 by omega)]; subst hC hR hU) | (with_reducible refine rN ?_; subst hbq) | (with_reducible refine iR ?_; refine rG (by simp only [compL, gtOf, nthDst]; exact rfl) ?_) | (with_reducible refine rB fun cq hcq => ?_; subst hcq) | with_reducible first | refine nS ?_ | refine rS fun bq hbq => ?_ | refine rK ?_ | refine rE ?_
      rw [hw] at hix
      refine run_loopN (m := k') (by omega) ⟨i + 1, w, by omega, hix, ?_⟩
      simp only [go_sem, ↓reduceIte, f1, f2]
      exact ⟨rfl, hless_set hl hp _⟩
    · have : k = 0 := by omega
      subst this
      rw [lamsF] at hix
      rw [← hix] at hq
      try dsimp only
      repeat first | ((with_reducible first | refine sS ?_ | refine sC ?_); intro bC bR bU hC hR hU; simp only [go_sem, ↓reduceIte, f1, f2, f5, hi, lp]; subst hC hR hU) | (with_reducible refine rN ?_; subst hbq) | (with_reducible refine iR ?_; refine rG (by simp only [compL, gtOf, nthDst]; exact rfl) ?_) | (with_reducible refine x1 ?_; clear hbq bq) | (with_reducible refine iL ?_; refine rL (by rw [Tryz.results89]) (hl) ?_; simp only [go_sem, ↓reduceIte, aPack, Option.some.injEq, exists_eq_left', f1, f2, f5, hi, lp]) | with_reducible first | refine nS ?_ | refine rS fun bq hbq => ?_ | refine rXx ?_ | refine rR ?_ | refine x3 ?_ | refine x4 ?_
      exact hq
/- The reference's round. -/


theorem append_grow2 {P : Program} {tS tX E : TypeId} {z b : Nat} {zv : Value} (hS : telem P tS = some E) (hX : telem P tX = some E) (hz : tsz P E = some z) (hb : tbytes P E = some b) (hv : tzero P E = some zv) (hc : zv.cells.size = z ∧ 0 < b)
    {h0 h : AHeap} {p : Nat} (hl : HLess h h0) (hp : h p = Option.none) {sz1 sz2 n1 n2 : Nat} {c1 c2 : List AV} {t t2 : Tok} (hg : Grow E h0 h t) (h1 : n1 = 0 ∨ sz1 = z) (h2 : sz2 = z) (hn : n2 ≠ 0) (hm : (n1 + n2) * b ≤ 70368744177664) :
    ∃ h2, aAppend P tS tX (.list sz1 c1 n1 t) (.list sz2 c2 n2 t2) h p = some (.list z (c1 ++ c2) (n1 + n2) (.id p), h2) ∧ Grow E h0 h2 (.id p) ∧ HLess h2 h0 ∧ ∀ q o, h q = some o → t ≠ .id q → h2 q = some o := by
  have hp0 := hl.none hp
  rcases hg with (rfl | rfl) | ⟨f, rfl, hf, hf0⟩
  · refine ⟨upd h p (some (.front E)), ?_, .inr ⟨p, rfl, upd_same _ _ _, hp0⟩, hl.new hp0, fun q o hq _ => ?_⟩
    · simp only [aAppend, hS, hX, hz, hb, hv]
      rw [if_pos ⟨h1, .inr h2, hc.2, hm, hc.1⟩, if_neg hn]
    · rw [upd_other _ _ (ne_of_new hp hq)]; exact hq
  · refine ⟨upd h p (some (.front E)), ?_, .inr ⟨p, rfl, upd_same _ _ _, hp0⟩, hl.new hp0, fun q o hq _ => ?_⟩
    · simp only [aAppend, hS, hX, hz, hb, hv]
      rw [if_pos ⟨h1, .inr h2, hc.2, hm, hc.1⟩, if_neg hn]
    · rw [upd_other _ _ (ne_of_new hp hq)]; exact hq
  · refine ⟨upd (upd h f Option.none) p (some (.front E)), ?_, .inr ⟨p, rfl, upd_same _ _ _, hp0⟩, (hl.new hf0).new hp0, fun q o hq hne => ?_⟩
    · simp only [aAppend, hS, hX, hz, hb, hv]
      rw [if_pos ⟨h1, .inr h2, hc.2, hm, hc.1⟩, if_neg hn]
      simp only [hf]
      rw [if_pos ⟨trivial, hn⟩]
    · have : q ≠ f := by intro e; subst e; exact hne rfl
      rw [upd_other _ _ (ne_of_new hp hq), upd_other _ _ this]; exact hq
theorem put_map {α : Type} (f : α → AV) (y : α) : ∀ (l : List α) (k : Nat), k < l.length → (l.map f).take k ++ (f y :: (l.map f).drop (k + 1)) = (l.set k y).map f
  | [], k, h => absurd h (Nat.not_lt_zero _)
  | x :: l, 0, _ => by simp
  | x :: l, k + 1, h => by
    rw [List.map_cons, List.take_succ_cons, List.drop_succ_cons, List.cons_append, put_map f y l k (by simpa using h), List.set_cons_succ, List.map_cons]
/-- A list of numbers in the array of lists. -/
structure UC where
  sz : Nat
  l : List Int
  tok : Tok
def ucAV (c : UC) : AV := .list c.sz (nums c.l) c.l.length c.tok
/-- What the heap has in round. -/
structure KSt (S U L : Nat) (h0 : AHeap) (st : List Bool) (us : List UC) (lf td : List Int) (szT : Nat) (tokT : Tok) (h : AHeap) : Prop where
  less : HLess h h0
  hS : h S = some (.cells (st.map AV.bool) 4)
  hU : h U = some (.cells (us.map ucAV) 77)
  hL : h L = some (.cells (nums lf) 3)
  own : ∀ (x : Nat) (c : UC), us[x]? = some c → (c.l = [] ∨ c.sz = 1) ∧ Grow 3 h0 h c.tok
  ownT : (td = [] ∨ szT = 1) ∧ Grow 3 h0 h tokT
  sep : ∀ (x y : Nat) (c d : UC) (f : Nat), us[x]? = some c → us[y]? = some d → c.tok = .id f → d.tok = .id f → x = y
  sepT : ∀ (x : Nat) (c : UC) (f : Nat), us[x]? = some c → c.tok = .id f → tokT ≠ .id f
theorem Grow.less {E : TypeId} {h0 h h2 : AHeap} {tok : Tok} (hg : Grow E h0 h tok) (hl : HLess h2 h) : Grow E h0 h2 tok := by
  rcases hg with e | ⟨f, ef, hf, hf0⟩
  · exact .inl e
  · exact .inr ⟨f, ef, hl _ _ hf, hf0⟩
theorem KSt.mono {S U L : Nat} {h0 h h2 : AHeap} {st : List Bool} {us : List UC} {lf td : List Int} {szT : Nat} {tokT : Tok} (k : KSt S U L h0 st us lf td szT tokT h) (hl : HLess h2 h) : KSt S U L h0 st us lf td szT tokT h2 :=
  ⟨hl.trans k.less, hl _ _ k.hS, hl _ _ k.hU, hl _ _ k.hL, fun x c hc => ⟨(k.own x c hc).1, (k.own x c hc).2.less hl⟩, ⟨k.ownT.1, k.ownT.2.less hl⟩, k.sep, k.sepT⟩
theorem Grow.upd {E : TypeId} {h0 h : AHeap} {tok : Tok} (hg : Grow E h0 h tok) {p : Nat} {cs : List AV} {T : TypeId} (hp : h p = some (.cells cs T)) (x : Option AObj) : Grow E h0 (upd h p x) tok := by
  rcases hg with e | ⟨f, ef, hf, hf0⟩
  · exact .inl e
  · exact .inr ⟨f, ef, by rw [upd_other _ _ (by intro e; subst e; rw [hp] at hf; cases hf)]; exact hf, hf0⟩
/-- left is written. -/
theorem KSt.left {S U L : Nat} {h0 h : AHeap} {st : List Bool} {us : List UC} {lf td : List Int} {szT : Nat} {tokT : Tok} (k : KSt S U L h0 st us lf td szT tokT h) (hne : S ≠ L ∧ U ≠ L) (hL0 : h0 L = Option.none) (lf' : List Int) : KSt S U L h0 st us lf' td szT tokT (upd h L (some (.cells (nums lf') 3))) :=
  ⟨hless_set k.less hL0 _, by rw [upd_other _ _ hne.1]; exact k.hS, by rw [upd_other _ _ hne.2]; exact k.hU, upd_same _ _ _, fun x c hc => ⟨(k.own x c hc).1, (k.own x c hc).2.upd k.hL _⟩, ⟨k.ownT.1, k.ownT.2.upd k.hL _⟩, k.sep, k.sepT⟩
/-- settled is written. -/
theorem KSt.settle {S U L : Nat} {h0 h : AHeap} {st : List Bool} {us : List UC} {lf td : List Int} {szT : Nat} {tokT : Tok} (k : KSt S U L h0 st us lf td szT tokT h) (hne : U ≠ S ∧ L ≠ S) (hS0 : h0 S = Option.none) (st' : List Bool) : KSt S U L h0 st' us lf td szT tokT (upd h S (some (.cells (st'.map AV.bool) 4))) :=
  ⟨hless_set k.less hS0 _, upd_same _ _ _, by rw [upd_other _ _ hne.1]; exact k.hU, by rw [upd_other _ _ hne.2]; exact k.hL, fun x c hc => ⟨(k.own x c hc).1, (k.own x c hc).2.upd k.hS _⟩, ⟨k.ownT.1, k.ownT.2.upd k.hS _⟩, k.sep, k.sepT⟩
theorem Grow.keep {E : TypeId} {h0 h h2 : AHeap} {t tok : Tok} (hg : Grow E h0 h tok) (keep : ∀ q o, h q = some o → t ≠ .id q → h2 q = some o) (hne : ∀ f, tok = .id f → t ≠ .id f) : Grow E h0 h2 tok := by
  rcases hg with e | ⟨f, ef, hf, hf0⟩
  · exact .inl e
  · exact .inr ⟨f, ef, keep _ _ hf (hne f ef), hf0⟩
theorem Grow.notCells {E : TypeId} {h0 h : AHeap} {t : Tok} (hg : Grow E h0 h t) {q : Nat} {cs : List AV} {T : TypeId} (hq : h q = some (.cells cs T)) : t ≠ .id q := by
  intro e
  rcases hg with e2 | ⟨f, ef, hf, _⟩
  · rcases e2 with e2 | e2 <;> rw [e2] at e <;> cases e
  · rw [ef] at e; injection e with e; subst e; rw [hq] at hf; cases hf
/-- todo grows. -/
theorem KSt.todo {S U L : Nat} {h0 h h2 : AHeap} {st : List Bool} {us : List UC} {lf td : List Int} {szT : Nat} {tokT : Tok} (k : KSt S U L h0 st us lf td szT tokT h) {w : Nat} (hw : h w = Option.none) (hl : HLess h2 h0) (hg : Grow 3 h0 h2 (.id w)) (keep : ∀ q o, h q = some o → tokT ≠ .id q → h2 q = some o) (td' : List Int) : KSt S U L h0 st us lf td' 1 (.id w) h2 := by
  have hnew : ∀ (x : Nat) (c : UC), us[x]? = some c → c.tok ≠ .id w := fun x c hc e => by
    rcases (k.own x c hc).2 with e2 | ⟨f, ef, hf, _⟩
    · rcases e2 with e2 | e2 <;> rw [e2] at e <;> cases e
    · rw [ef] at e; injection e with e; subst e; rw [hw] at hf; cases hf
  exact ⟨hl, keep _ _ k.hS (k.ownT.2.notCells k.hS), keep _ _ k.hU (k.ownT.2.notCells k.hU), keep _ _ k.hL (k.ownT.2.notCells k.hL), fun x c hc => ⟨(k.own x c hc).1, (k.own x c hc).2.keep keep (fun f ef => k.sepT x c f hc ef)⟩, ⟨.inr rfl, hg⟩, k.sep, fun x c f hc ef e => hnew x c hc (by injection e with e; subst e; exact ef)⟩
/-- A list of uses grows. -/
theorem KSt.use {S U L : Nat} {h0 h h2 : AHeap} {st : List Bool} {us : List UC} {lf td : List Int} {szT : Nat} {tokT : Tok} (k : KSt S U L h0 st us lf td szT tokT h) (hne : S ≠ U ∧ L ≠ U) (hU0 : h0 U = Option.none) {x : Nat} {c : UC} (hx : us[x]? = some c) {w : Nat} (hw : h w = Option.none) (hl : HLess h2 h0) (hg : Grow 3 h0 h2 (.id w)) (keep : ∀ q o, h q = some o → c.tok ≠ .id q → h2 q = some o) (m : List Int) :
    KSt S U L h0 st (us.set x ⟨1, m, .id w⟩) lf td szT tokT (upd h2 U (some (.cells ((us.set x ⟨1, m, .id w⟩).map ucAV) 77))) := by
  have hc := k.own x c hx
  have hU2 := keep _ _ k.hU (hc.2.notCells k.hU)
  have hnew : ∀ t, Grow 3 h0 h t → t ≠ .id w := fun t ht e => by
    rcases ht with e2 | ⟨f, ef, hf, _⟩
    · rcases e2 with e2 | e2 <;> rw [e2] at e <;> cases e
    · rw [ef] at e; injection e with e; subst e; rw [hw] at hf; cases hf
  have get : ∀ (y : Nat) (d : UC), (us.set x ⟨1, m, .id w⟩)[y]? = some d → (x = y ∧ d = ⟨1, m, .id w⟩) ∨ (x ≠ y ∧ us[y]? = some d) := fun y d hd => by
    rw [List.getElem?_set] at hd
    split at hd
    · rename_i e
      split at hd
      · injection hd with hd; exact .inl ⟨e, hd.symm⟩
      · cases hd
    · rename_i e; exact .inr ⟨e, hd⟩
  refine ⟨hless_set hl hU0 _, ?_, upd_same _ _ _, ?_, fun y d hd => ?_, ⟨k.ownT.1, ?_⟩, fun y z d e f hd he ed ee => ?_, fun y d f hd ed => ?_⟩
  · rw [upd_other _ _ hne.1]; exact keep _ _ k.hS (hc.2.notCells k.hS)
  · rw [upd_other _ _ hne.2]; exact keep _ _ k.hL (hc.2.notCells k.hL)
  · rcases get y d hd with ⟨_, rfl⟩ | ⟨hxy, hd⟩
    · exact ⟨.inr rfl, hg.upd hU2 _⟩
    · exact ⟨(k.own y d hd).1, ((k.own y d hd).2.keep keep (fun f ef e => hxy (k.sep x y c d f hx hd e ef))).upd hU2 _⟩
  · exact (k.ownT.2.keep keep (fun f ef e => k.sepT x c f hx e ef)).upd hU2 _
  · rcases get y d hd with ⟨h1, rfl⟩ | ⟨h1, hd⟩ <;> rcases get z e he with ⟨h2, rfl⟩ | ⟨h2, he⟩
    · rw [← h1, ← h2]
    · simp only at ed
      exact absurd (ed ▸ ee : e.tok = .id w) (hnew _ (k.own z e he).2)
    · simp only at ee
      exact absurd (ee ▸ ed : d.tok = .id w) (hnew _ (k.own y d hd).2)
    · exact k.sep y z d e f hd he ed ee
  · rcases get y d hd with ⟨h1, rfl⟩ | ⟨h1, hd⟩
    · simp only at ed
      intro e
      exact hnew _ k.ownT.2 (e.trans ed.symm)
    · exact k.sepT y d f hd ed
/- The reference's round: the walk. -/


theorem zeros_rep (x : AV) (n : Nat) : aZeros [x] 1 n = List.replicate n x := by
  unfold aZeros
  rw [Nat.mul_one, List.eq_replicate_iff]
  refine ⟨by simp, fun y hy => ?_⟩
  obtain ⟨i, _, rfl⟩ := List.mem_map.1 hy
  rw [Nat.mod_one]; rfl
theorem make145n (n : Nat) (hn : n ≤ 1000000) (h : AHeap) (p : Nat) : aMakeSlice Tryz.prog 145 (.int .i64 n) (.int .i64 n) h p = some (.sl p 0 n, upd h p (some (.cells ((List.replicate n false).map AV.bool) 4))) := by
  simp only [aMakeSlice, el_145, sz_4, by_4, ze_4]
  rw [if_pos ⟨trivial, by omega, by omega, by decide, rfl⟩, Int.toNat_natCast, List.map_replicate]
  show some (_, upd h p (some (.cells (aZeros [AV.bool false] 1 n) 4))) = _
  rw [zeros_rep]
theorem make173n (n : Nat) (hn : n ≤ 1000000) (h : AHeap) (p : Nat) : aMakeSlice Tryz.prog 173 (.int .i64 n) (.int .i64 n) h p = some (.sl p 0 n, upd h p (some (.cells ((List.replicate n (⟨0, [], .nil⟩ : UC)).map ucAV) 77))) := by
  simp only [aMakeSlice, el_173, sz_77, by_77, ze_77]
  rw [if_pos ⟨trivial, by omega, by omega, by decide, rfl⟩, Int.toNat_natCast, List.map_replicate]
  show some (_, upd h p (some (.cells (aZeros [AV.list 0 [] 0 .nil] 1 n) 77))) = _
  rw [zeros_rep]
  rfl
theorem make77n (n : Nat) (hn : n ≤ 1000000) (h : AHeap) (p : Nat) : aMakeSlice Tryz.prog 77 (.int .i64 n) (.int .i64 n) h p = some (.sl p 0 n, upd h p (some (.cells (nums (List.replicate n 0)) 3))) := by
  simp only [aMakeSlice, el_77, sz_3, by_3, ze_3]
  rw [if_pos ⟨trivial, by omega, by omega, by decide, rfl⟩, Int.toNat_natCast]
  show some (_, upd h p (some (.cells (aZeros [AV.int .i64 0] 1 n) 3))) = some (_, upd h p (some (.cells (List.map numAV (List.replicate n 0)) 3)))
  rw [zeros_rep, List.map_replicate]
mutual
theorem direct_len : ∀ t : Term, (directF t).length ≤ t.size
  | ⟨k, n, s, l⟩ => by
    rw [directF, Term.size]
    split
    · simp
    · have := directL_len l; omega
theorem directL_len : ∀ l : List Term, (directL l).length ≤ sizes l
  | [] => by rw [directL]; simp
  | t :: l => by
    rw [directL, sizes, List.length_append]
    have h1 := direct_len t
    have h2 := directL_len l
    omega
end
structure KInv (vs : List Va) (tk : Tok) (a S U L : Nat) (h0 : AHeap) (c : Nat → Nat → Nat) (b B : Nat) (st : List Bool) (us : List UC) (lf td : List Int) (szT : Nat) (tokT : Tok) (τ : Env) (h : AHeap) : Prop where
  k : KSt S U L h0 st us lf td szT tokT h
  uses : UsesOk (us.map UC.l) c b
  ulen : us.length = vs.length
  bound : ∀ (x : Nat) (c : UC), us[x]? = some c → c.l.length ≤ B
  t1 : τ 1 = .ptr a 0
  t3 : τ 3 = .sl S 0 vs.length
  t4 : τ 4 = .sl U 0 vs.length
  t5 : τ 5 = .sl L 0 vs.length
  t6 : τ 6 = .list szT (nums td) td.length tokT
def Sizes (vs : List Va) : Prop := ∀ n, (valAt vs n).is = true → (valAt vs n).t.size ≤ 4000
theorem round_am (vs : List Va) (hvs : vs.length ≤ 1000000) (hp : PlainVals vs) (hsz : Sizes vs) (tk : Tok) (h : AHeap) (Q : AOut → AHeap → Prop) (hq : Q (.ret (.bool (circlesF vs))) h) : AmCalls Tryz.prog 92 [.agg [.list 8 (encVs vs) vs.length tk]] h Q := by
  refine AmCalls.of_sem (fn := Tryz.f92) Tryz.func92 rfl (by kernel_rfl) (by rw [Tryz.ntmps92]; simp) (enters_of Tryz.func92 (by kernel_rfl) (by kernel_rfl)) ?_
  try dsimp only
  repeat first | ((with_reducible refine sS ?_); intro bC bR bU hC hR hU; simp only [go_sem, ↓reduceIte]; subst hC hR hU) | (with_reducible refine iR ?_; refine rG (by simp only [compL, gtOf, nthDst]; exact rfl) ?_) | with_reducible refine rS fun bq hbq => ?_
  intro a ha
  try dsimp only
  repeat first | ((with_reducible refine sS ?_); intro bC bR bU hC hR hU; simp only [go_sem, ↓reduceIte, make145n vs.length hvs, make173n vs.length hvs, make77n vs.length hvs]; subst hC hR hU) | (with_reducible refine rN ?_; subst hbq) | (with_reducible refine iR ?_; refine rG (by simp only [compL, gtOf, nthDst]; exact rfl) ?_) | with_reducible first | refine nS ?_ | refine rS fun bq hbq => ?_
  intro S hS
  have e1 := fresh_if hS
  try dsimp only
  repeat first | ((with_reducible refine sS ?_); intro bC bR bU hC hR hU; simp only [go_sem, ↓reduceIte, make145n vs.length hvs, make173n vs.length hvs, make77n vs.length hvs, e1.1, e1.1.symm]; subst hC hR hU) | (with_reducible refine rN ?_; subst hbq) | (with_reducible refine iR ?_; refine rG (by simp only [compL, gtOf, nthDst]; exact rfl) ?_) | with_reducible first | refine nS ?_ | refine rS fun bq hbq => ?_
  intro U hU
  have e2 := fresh_if hU
  have e3 := fresh_if e2.2
  try dsimp only
  repeat first | ((with_reducible refine sS ?_); intro bC bR bU hC hR hU; simp only [go_sem, ↓reduceIte, make145n vs.length hvs, make173n vs.length hvs, make77n vs.length hvs, e1.1, e1.1.symm, e2.1, e2.1.symm, e3.1, e3.1.symm]; subst hC hR hU) | (with_reducible refine rN ?_; subst hbq) | (with_reducible refine iR ?_; refine rG (by simp only [compL, gtOf, nthDst]; exact rfl) ?_) | with_reducible first | refine nS ?_ | refine rS fun bq hbq => ?_
  intro L hL
  have e4 := fresh_if hL
  have e5 := fresh_if e4.2
  have e6 := fresh_if e5.2
  try dsimp only
  repeat first | ((with_reducible refine sS ?_); intro bC bR bU hC hR hU; simp only [go_sem, ↓reduceIte, make145n vs.length hvs, make173n vs.length hvs, make77n vs.length hvs, e1.1, e1.1.symm, e2.1, e2.1.symm, e3.1, e3.1.symm]; subst hC hR hU) | (with_reducible refine rN ?_; subst hbq) | (with_reducible refine iR ?_; refine rG (by simp only [compL, gtOf, nthDst]; exact rfl) ?_) | with_reducible first | refine nS ?_ | refine rS fun bq hbq => ?_
  have finH : HLess (upd (upd (upd (upd h a (some (.cells [.list 8 (encVs vs) vs.length tk] 24))) S (some (.cells ((List.replicate vs.length false).map AV.bool) 4))) U (some (.cells ((List.replicate vs.length (⟨0, [], .nil⟩ : UC)).map ucAV) 77))) L (some (.cells (nums (List.replicate vs.length 0)) 3))) (upd h a (some (.cells [.list 8 (encVs vs) vs.length tk] 24))) := by
    refine ((HLess.refl _).new ?_ |>.new ?_ |>.new ?_)
    · rw [upd_other _ _ e1.1]; exact e1.2
    · rw [upd_other _ _ e3.1]; exact e3.2
    · rw [upd_other _ _ e6.1]; exact e6.2
  have fin0 : HLess (upd h a (some (.cells [.list 8 (encVs vs) vs.length tk] 24))) h := HLess.one ha
  have h0S : (upd h a (some (AObj.cells [.list 8 (encVs vs) vs.length tk] 24))) S = Option.none := by rw [upd_other _ _ e1.1]; exact e1.2
  have h0U : (upd h a (some (AObj.cells [.list 8 (encVs vs) vs.length tk] 24))) U = Option.none := by rw [upd_other _ _ e3.1]; exact e3.2
  have h0L : (upd h a (some (AObj.cells [.list 8 (encVs vs) vs.length tk] 24))) L = Option.none := by rw [upd_other _ _ e6.1]; exact e6.2
  have h0a : (upd h a (some (AObj.cells [.list 8 (encVs vs) vs.length tk] 24))) a = some (AObj.cells [.list 8 (encVs vs) vs.length tk] 24) := upd_same _ _ _
  have K0 : KSt S U L (upd h a (some (.cells [.list 8 (encVs vs) vs.length tk] 24))) (List.replicate vs.length false) (List.replicate vs.length ⟨0, [], .nil⟩) (List.replicate vs.length 0) [] 0 .nil (upd (upd (upd (upd h a (some (.cells [.list 8 (encVs vs) vs.length tk] 24))) S (some (.cells ((List.replicate vs.length false).map AV.bool) 4))) U (some (.cells ((List.replicate vs.length (⟨0, [], .nil⟩ : UC)).map ucAV) 77))) L (some (.cells (nums (List.replicate vs.length 0)) 3))) := by
    have hrep : ∀ (x : Nat) (c : UC), (List.replicate vs.length (⟨0, [], .nil⟩ : UC))[x]? = some c → c = ⟨0, [], .nil⟩ := fun x c hc => by
      rw [List.getElem?_replicate] at hc; split at hc
      · injection hc with hc; exact hc.symm
      · cases hc
    refine ⟨finH, ?_, ?_, upd_same _ _ _, fun x c hc => ?_, ⟨.inl rfl, .inl (.inr rfl)⟩, fun x y c d f hc _ e _ => ?_, fun x c f hc e => ?_⟩
    · rw [upd_other _ _ e5.1.symm, upd_other _ _ e2.1.symm, upd_same]
    · rw [upd_other _ _ e4.1.symm, upd_same]
    · rw [hrep x c hc]; exact ⟨.inl rfl, .inl (.inr rfl)⟩
    · rw [hrep x c hc] at e; cases e
    · rw [hrep x c hc] at e; cases e
  generalize (upd (upd (upd (upd h a (some (AObj.cells [.list 8 (encVs vs) vs.length tk] 24))) S (some (.cells ((List.replicate vs.length false).map AV.bool) 4))) U (some (.cells ((List.replicate vs.length (⟨0, [], .nil⟩ : UC)).map ucAV) 77))) L (some (.cells (nums (List.replicate vs.length 0)) 3))) = H at *
  generalize (upd h a (some (AObj.cells [.list 8 (encVs vs) vs.length tk] 24))) = h0 at *
  refine run_cutS (fun τ h' => ∃ st us lf td szT tokT, KInv vs tk a S U L h0 (use1 vs vs.length) vs.length (vs.length * 4000) st us lf td szT tokT τ h' ∧ Ph1 vs vs.length st lf td) ?_ fun τ h' hI => ?_
  · repeat with_reducible refine run_seq fun bq hbq => ?_
    refine run_block fun cq hcq => ?_
    subst hcq
    refine run_loop (fun k τ h' => ∃ (i : Nat) (st : List Bool) (us : List UC) (lf td : List Int) (szT : Nat) (tokT : Tok), k + i = vs.length ∧ KInv vs tk a S U L h0 (use1 vs i) i (i * 4000) st us lf td szT tokT τ h' ∧ Ph1 vs i st lf td ∧ τ 7 = .int .i64 i) vs.length ?_ ?_
    · refine ⟨0, List.replicate vs.length false, List.replicate vs.length ⟨0, [], .nil⟩, List.replicate vs.length 0, [], 0, .nil, rfl, ⟨K0, ?_, by simp, fun x c hc => ?_, ?_, ?_, ?_, ?_, ?_⟩, ph1_start vs, rfl⟩
      · rw [List.map_replicate]; exact use_start vs
      · rw [List.getElem?_replicate] at hc; split at hc
        · injection hc with hc; subst hc; exact Nat.zero_le _
        · cases hc
      all_goals rfl
    · intro c hcc k τ h' hI
      obtain ⟨i, st, us, lf, td, szT, tokT, hk, KI, hph, f7⟩ := hI
      subst hcc
      have la := KI.k.less _ _ h0a
      have f1 := KI.t1
      have f3 := KI.t3
      have f4 := KI.t4
      have f5 := KI.t5
      have f6 := KI.t6
      by_cases hi : i < vs.length
      · obtain ⟨v, hv⟩ : ∃ v, vs[i]? = some v := ⟨_, List.getElem?_eq_getElem hi⟩
        obtain ⟨r, hr⟩ := encVs_at vs i hv
        have hva : valAt vs (i : Int) = v := by rw [valAt, Int.toNat_natCast, List.getD_eq_getElem?_getD, hv]; rfl
        have hr3 : List.drop (i * 8 + 3) (encVs vs) = .bool v.is :: (List.drop 4 (cellsV v) ++ r) := by rw [← List.drop_drop, hr]; rfl
        have hr4 : List.drop (i * 8 + 4) (encVs vs) = .int .i64 v.t.kind :: .int .i64 v.t.n :: .str v.t.name :: .list 4 (encs v.t.args) v.t.args.length .none :: r := by rw [← List.drop_drop, hr]; rfl
        try dsimp only
        repeat first | ((with_reducible first | refine sS ?_ | refine sC ?_); intro bC bR bU hC hR hU; simp only [go_sem, ↓reduceIte, f1, f7, la, hi, hr3]; subst hC hR hU) | (with_reducible refine rN ?_; subst hbq) | (with_reducible refine iR ?_; refine rG (by simp only [compL, gtOf, nthDst]; exact rfl) ?_) | with_reducible first | refine nS ?_ | refine rS fun bq hbq => ?_ | refine rK ?_
        repeat with_reducible refine run_seq fun bq hbq => ?_
        refine run_block fun cq hcq => ?_
        subst hcq
        repeat with_reducible refine run_seq fun bq hbq => ?_
        refine run_region (by simp only [compL, gtOf, nthDst]; exact rfl) ?_
        try dsimp only
        repeat first | ((with_reducible refine sS ?_); intro bC bR bU hC hR hU; simp only [go_sem, ↓reduceIte, f1, f7, la, hi, hr3]; subst hC hR hU) | with_reducible refine nS ?_
        refine run_next ?_; subst hbq
        repeat with_reducible refine run_seq fun bq hbq => ?_
        refine run_cutS (fun τ h' => ∃ us' lf', KInv vs tk a S U L h0 (use1 vs (i + 1 : Nat)) (i + 1) ((i + 1) * 4000) st us' lf' td szT tokT τ h' ∧ lf' = (if (valAt vs i).is then lf.set i ((dl vs i).length : Int) else lf) ∧ τ 7 = .int .i64 i) ?_ fun τ h' hI => ?_
        · cases hvi : v.is
          · try dsimp only
            repeat first | ((with_reducible refine sC ?_); intro bC bR bU hC hR hU; simp only [go_sem, ↓reduceIte, f1, f7, la, hi, hr3, hr, hvi]; subst hC hR hU) | with_reducible refine rK ?_
            refine run_endcut ?_
            refine ⟨us, lf, ⟨KI.k, use_outer vs i ?_, KI.ulen, fun x c hc => Nat.le_trans (KI.bound x c hc) (by omega), f1, f3, f4, f5, f6⟩, by rw [hva, hvi]; rfl, f7⟩
            have hdl : dl vs i = [] := by unfold dl; rw [hva, hvi]; rfl
            rw [hdl]
            exact use_inner vs i KI.uses
          · have hdl : dl vs i = directF v.t := by unfold dl; rw [hva, hvi]; rfl
            have hs4 : v.t.size ≤ 4000 := by have := hsz i (by rw [hva]; exact hvi); rw [hva] at this; exact this
            have hlen4 := direct_len v.t
            try dsimp only
            repeat first | ((with_reducible first | refine sS ?_ | refine sC ?_); intro bC bR bU hC hR hU; simp only [go_sem, ↓reduceIte, f1, f7, la, hi, hr, hr3, hr4, hvi]; subst hC hR hU) | (with_reducible refine iR ?_; refine rG (by simp only [compL, gtOf, nthDst]; exact rfl) ?_) | with_reducible refine rS fun bq hbq => ?_
            refine direct_am v.t.size v.t [] 0 .nil h' h' _ (Nat.le_refl _) (by omega) (by rw [List.nil_append]; omega) (.inl rfl) (HLess.refl _) (.inl (.inr rfl)) (fun h2 sz2 tok2 hl2 hs2 hg2 => ?_)
            rw [List.nil_append, ← hdl] at hs2 ⊢
            have hlen5 : (dl vs i).length ≤ 4000 := by rw [hdl]; omega
            have K2 := KI.k.mono hl2
            clear hg2
            have hL2 := K2.hL
            have l1 : (i + 1 ≤ (nums lf).length) = True := eq_true (by rw [List.length_map, hph.lel]; omega)
            have l2 : (i < vs.length) = True := eq_true hi
            have hput : List.take i (nums lf) ++ AV.int .i64 ((dl vs i).length : Int) :: List.drop (i + 1) (nums lf) = nums (lf.set i ((dl vs i).length : Int)) := put_map numAV ((dl vs i).length : Int) lf i (by rw [hph.lel]; exact hi)
            have K3 := K2.left ⟨e5.1.symm, e4.1.symm⟩ h0L (lf.set i ((dl vs i).length : Int))
            try dsimp only
            repeat first | ((with_reducible refine sS ?_); intro bC bR bU hC hR hU; simp only [go_sem, ↓reduceIte, f1, f3, f4, f5, f6, f7, hL2, l1, l2, hput]; subst hC hR hU) | (with_reducible refine rN ?_; subst hbq) | (with_reducible refine iR ?_; refine rG (by simp only [compL, gtOf, nthDst]; exact rfl) ?_) | (with_reducible refine rB fun cq hcq => ?_; subst hcq) | with_reducible first | refine nS ?_ | refine rS fun bq hbq => ?_
            generalize upd h2 L (some (AObj.cells (nums (lf.set i ((dl vs i).length : Int))) 3)) = H3 at *
            refine run_loop (fun k τ h' => ∃ (kk : Nat) (us' : List UC), k + kk = (dl vs i).length ∧ KInv vs tk a S U L h0 (use2 vs i ((dl vs i).take kk)) (i + 1) (i * 4000 + kk) st us' (lf.set i ((dl vs i).length : Int)) td szT tokT τ h' ∧ τ 7 = .int .i64 i ∧ τ 8 = .list sz2 (nums (dl vs i)) (dl vs i).length tok2 ∧ τ 9 = .int .i64 kk) (dl vs i).length ?_ ?_
            · exact ⟨0, us, rfl, ⟨K3, use_inner vs i KI.uses, KI.ulen, KI.bound, f1, f3, f4, f5, f6⟩, f7, rfl, rfl⟩
            · intro c hcc k2 τ h' hI
              clear f1 f3 f4 f5 f6 f7 hL2 l1 l2 hput K3 K2
              obtain ⟨kk, us', hk2, KI2, f7, f8, f9⟩ := hI
              subst hcc
              have f1 := KI2.t1
              have f3 := KI2.t3
              have f4 := KI2.t4
              have f5 := KI2.t5
              have f6 := KI2.t6
              by_cases hkk : kk < (dl vs i).length
              · obtain ⟨x, hx⟩ : ∃ x, (dl vs i)[kk]? = some x := ⟨_, List.getElem?_eq_getElem hkk⟩
                have hxr := hp.low i x (mem_dl.1 (List.mem_of_getElem? hx))
                obtain ⟨xn, rfl⟩ : ∃ xn : Nat, x = xn := ⟨x.toNat, by omega⟩
                have hxn : xn < vs.length := by omega
                obtain ⟨uc, huc⟩ : ∃ uc, us'[xn]? = some uc := ⟨_, List.getElem?_eq_getElem (by rw [KI2.ulen]; exact hxn)⟩
                have d1 : (List.drop kk (nums (dl vs i))).head? = some (.int .i64 xn) := by rw [List.head?_drop, List.getElem?_map, hx]; rfl
                have d2 : (List.drop xn (us'.map ucAV)).head? = some (.list uc.sz (nums uc.l) uc.l.length uc.tok) := by rw [List.head?_drop, List.getElem?_map, huc]; rfl
                have hU2 := KI2.k.hU
                have l3 : (xn < vs.length) = True := eq_true hxn
                have l4 : (xn + 1 ≤ (us'.map ucAV).length) = True := eq_true (by rw [List.length_map, KI2.ulen]; omega)
                try dsimp only
                repeat first | ((with_reducible first | refine sS ?_ | refine sC ?_); intro bC bR bU hC hR hU; simp only [go_sem, ↓reduceIte, f1, f3, f4, f5, f6, f7, f8, f9, hkk]; subst hC hR hU) | (with_reducible refine rN ?_; subst hbq) | (with_reducible refine iR ?_; refine rG (by simp only [compL, gtOf, nthDst]; exact rfl) ?_) | (with_reducible refine rB fun cq hcq => ?_; subst hcq) | with_reducible first | refine nS ?_ | refine rS fun bq hbq => ?_ | refine rK ?_
                repeat with_reducible refine run_seq fun bq hbq => ?_
                refine run_draw (.take 0 (.take 1 (.take 2 (.take 3 (.take 4 (.take 5 (.take 6 (.take 7 (.take 8 (.take 9 (.take 10 (.take 11 (.take 12 (.take 13 (.one 14 [9, 4] (.take 15 (.one 16 [] (.done)))))))))))))))))) (by kernel_rfl) (by simp only [compL, gtOf, nthDst]; exact rfl) ?_
                have l5 : (sz2 = 1) = True := eq_true (hs2.resolve_left (fun e => by rw [e] at hkk; simp at hkk))
                try dsimp only
                repeat (((first | (with_reducible refine iT ?_; refine sT rfl ?_) | (with_reducible refine iO ?_; refine sO rfl ?_)); intro bC bR bU hC hR hU; simp only [go_sem, ↓reduceIte, f1, f3, f4, f5, f6, f7, f8, f9, hkk, d1, d2, hU2, l3, l4, l5, build_int]; subst hC hR hU))
                refine cAppend_list ?_
                simp only [go_sem, ↓reduceIte]
                intro w hw
                have hown := KI2.k.own xn uc huc
                have hbd := KI2.bound xn uc huc
                obtain ⟨h4, ea, hg4, hl4, keep⟩ := append_grow2 el_77 el_77 sz_3 by_3 ze_3 ⟨rfl, by decide⟩ KI2.k.less hw (sz1 := uc.sz) (n1 := uc.l.length) (c1 := nums uc.l) (c2 := [.int .i64 i]) (n2 := 1) (t2 := .full) hown.2 (by rcases hown.1 with e | e <;> simp [e]) (sz2 := 1) rfl (by decide) (by omega)
                have hU4 := keep _ _ hU2 (hown.2.notCells hU2)
                have hnum : nums uc.l ++ [AV.int .i64 (i : Int)] = nums (uc.l ++ [(i : Int)]) := by simp [nums]
                have K4 := KI2.k.use ⟨e2.1.symm, e4.1⟩ h0U huc hw hl4 hg4 keep (uc.l ++ [(i : Int)])
                have hput : List.take xn (us'.map ucAV) ++ AV.list 1 (nums uc.l ++ [AV.int .i64 (i : Int)]) (uc.l.length + 1) (.id w) :: List.drop (xn + 1) (us'.map ucAV) = (us'.set xn ⟨1, uc.l ++ [(i : Int)], .id w⟩).map ucAV := by
                  rw [← put_map ucAV ⟨1, uc.l ++ [(i : Int)], .id w⟩ us' xn (by rw [KI2.ulen]; exact hxn)]
                  congr 2
                  simp [ucAV, nums]
                simp only [ea, go_sem, ↓reduceIte]
                try dsimp only
                simp only [go_sem, ↓reduceIte, l3, hU4, l4, hput]
                try dsimp only
                repeat first | ((with_reducible refine sS ?_); intro bC bR bU hC hR hU; simp only [go_sem, ↓reduceIte, f1, f3, f4, f5, f6, f7, f8, f9, hkk, wrap_in (show -9223372036854775808 ≤ (kk : Int) + 1 by omega) (show (kk : Int) + 1 ≤ 9223372036854775807 by omega)]; subst hC hR hU) | (with_reducible refine rN ?_; subst hbq) | (with_reducible refine iR ?_; refine rG (by simp only [compL, gtOf, nthDst]; exact rfl) ?_) | with_reducible first | refine nS ?_ | refine rE ?_
                refine run_loopN (m := k2 - 1) (by omega) ⟨kk + 1, us'.set xn ⟨1, uc.l ++ [(i : Int)], .id w⟩, by omega, ⟨K4, ?_, by rw [List.length_set]; exact KI2.ulen, fun y d hd => ?_, f1, f3, f4, f5, f6⟩, f7, f8, rfl⟩
                · have hu := use_step vs i _ xn KI2.uses (m := uc.l) (by rw [List.getElem?_map, huc]; rfl)
                  rw [List.map_set, List.take_add_one, hx]
                  exact hu
                · rw [List.getElem?_set] at hd
                  split at hd
                  · split at hd
                    · injection hd with hd
                      subst hd
                      simp only [List.length_append, List.length_singleton]
                      omega
                    · cases hd
                  · have := KI2.bound y d hd; omega
              · have : k2 = 0 := by omega
                subst this
                try dsimp only
                repeat first | ((with_reducible first | refine sS ?_ | refine sC ?_); intro bC bR bU hC hR hU; simp only [go_sem, ↓reduceIte, f1, f3, f4, f5, f6, f7, f8, f9, hkk]; subst hC hR hU) | (with_reducible refine rN ?_; subst hbq) | (with_reducible refine iR ?_; refine rG (by simp only [compL, gtOf, nthDst]; exact rfl) ?_) | (with_reducible refine x1 ?_; clear hbq bq) | with_reducible first | refine nS ?_ | refine rS fun bq hbq => ?_ | refine rXx ?_ | refine x3 ?_ | refine x4 ?_
                refine run_endcut ?_
                refine ⟨us', _, ⟨KI2.k, use_outer vs i ?_, KI2.ulen, fun x c hc => Nat.le_trans (KI2.bound x c hc) (by omega), f1, f3, f4, f5, f6⟩, by rw [hva, hvi]; rfl, f7⟩
                have hu := KI2.uses
                rw [List.take_of_length_le (by omega)] at hu
                exact hu
        · clear f1 f3 f4 f5 f6 f7 la
          obtain ⟨us', lf', KI2, hlf, f7⟩ := hI
          subst hbq
          have f1 := KI2.t1
          have f3 := KI2.t3
          have f4 := KI2.t4
          have f5 := KI2.t5
          have f6 := KI2.t6
          have hL2 := KI2.k.hL
          have hS2 := KI2.k.hS
          have hlen : lf'.length = vs.length := by
            rw [hlf]; split
            · rw [List.length_set]; exact hph.lel
            · exact hph.lel
          have hli : lf'[i]? = some ((dl vs i).length : Int) := by
            rw [hlf]
            cases hvi : (valAt vs i).is
            · simp only [Bool.false_eq_true, if_false]
              rw [hph.lfs i hi, if_neg (by omega)]
              unfold dl; rw [hvi]; rfl
            · simp only [if_true]
              rw [List.getElem?_set, if_pos rfl, if_pos (by rw [hph.lel]; exact hi)]
          have d1 : (List.drop i (nums lf')).head? = some (.int .i64 ((dl vs i).length : Int)) := by rw [List.head?_drop, List.getElem?_map, hli]; rfl
          have l2 : (i < vs.length) = True := eq_true hi
          have tdl : td.length ≤ 1000000 := by
            rw [← hph.num]
            have := List.count_le_length (a := true) (l := st)
            rw [hph.len] at this
            omega
          cases h0c : (((dl vs i).length : Int) == 0)
          · have hd : dl vs i ≠ [] := by intro e; rw [e] at h0c; cases h0c
            try dsimp only
            repeat first | ((with_reducible first | refine sS ?_ | refine sC ?_); intro bC bR bU hC hR hU; simp only [go_sem, ↓reduceIte, f1, f3, f4, f5, f6, f7, hL2, d1, l2, h0c, wrap_in (show -9223372036854775808 ≤ (i : Int) + 1 by omega) (show (i : Int) + 1 ≤ 9223372036854775807 by omega)]; subst hC hR hU) | (with_reducible refine rN ?_; subst hbq) | (with_reducible refine iR ?_; refine rG (by simp only [compL, gtOf, nthDst]; exact rfl) ?_) | with_reducible first | refine nS ?_ | refine rS fun bq hbq => ?_ | refine rK ?_ | refine rE ?_
            refine run_loopN (m := k - 1) (by omega) ⟨i + 1, st, us', lf', td, szT, tokT, by omega, ⟨KI2.k, KI2.uses, KI2.ulen, KI2.bound, f1, f3, f4, f5, f6⟩, ph1_more vs i hi hph hlf hd, rfl⟩
          · have hd : dl vs i = [] := List.eq_nil_of_length_eq_zero (by simp only [beq_iff_eq] at h0c; omega)
            try dsimp only
            repeat first | ((with_reducible first | refine sS ?_ | refine sC ?_); intro bC bR bU hC hR hU; simp only [go_sem, ↓reduceIte, f1, f3, f4, f5, f6, f7, hL2, d1, l2, h0c, build_int]; subst hC hR hU) | (with_reducible refine rN ?_; subst hbq) | (with_reducible refine iR ?_; refine rG (by simp only [compL, gtOf, nthDst]; exact rfl) ?_) | with_reducible first | refine nS ?_ | refine rS fun bq hbq => ?_
            refine cAppend_list ?_
            simp only [go_sem, ↓reduceIte]
            intro w hw
            have hown := KI2.k.ownT
            obtain ⟨h4, ea, hg4, hl4, keep⟩ := append_grow2 el_77 el_77 sz_3 by_3 ze_3 ⟨rfl, by decide⟩ KI2.k.less hw (sz1 := szT) (n1 := td.length) (c1 := nums td) (c2 := [.int .i64 i]) (n2 := 1) (t2 := .full) hown.2 (by rcases hown.1 with e | e <;> simp [e]) (sz2 := 1) rfl (by decide) (by omega)
            have K4 := KI2.k.todo hw hl4 hg4 keep (td ++ [(i : Int)])
            have hS4 := K4.hS
            have hnum : AV.list 1 (nums td ++ [AV.int .i64 (i : Int)]) (td.length + 1) (.id w) = .list 1 (nums (td ++ [(i : Int)])) (td ++ [(i : Int)]).length (.id w) := by simp [nums]
            have l4 : (i + 1 ≤ (st.map AV.bool).length) = True := eq_true (by rw [List.length_map, hph.len]; omega)
            have hput : List.take i (st.map AV.bool) ++ AV.bool true :: List.drop (i + 1) (st.map AV.bool) = (st.set i true).map AV.bool := put_map AV.bool true st i (by rw [hph.len]; exact hi)
            have K5 := K4.settle ⟨e2.1, e5.1⟩ h0S (st.set i true)
            simp only [ea, go_sem, ↓reduceIte]
            try dsimp only
            repeat first | ((with_reducible refine sS ?_); intro bC bR bU hC hR hU; simp only [go_sem, ↓reduceIte, f1, f3, f4, f5, f6, f7, hS4, l2, l4, hput, wrap_in (show -9223372036854775808 ≤ (i : Int) + 1 by omega) (show (i : Int) + 1 ≤ 9223372036854775807 by omega)]; subst hC hR hU) | (with_reducible refine rN ?_; subst hbq) | (with_reducible refine iR ?_; refine rG (by simp only [compL, gtOf, nthDst]; exact rfl) ?_) | with_reducible first | refine nS ?_ | refine rE ?_
            refine run_loopN (m := k - 1) (by omega) ⟨i + 1, st.set i true, us', lf', td ++ [(i : Int)], 1, .id w, by omega, ⟨K5, KI2.uses, KI2.ulen, KI2.bound, f1, f3, f4, f5, hnum⟩, ph1_settle vs i hi hph hlf hd, rfl⟩
      · have : k = 0 := by omega
        subst this
        have hin : i = vs.length := by omega
        subst hin
        try dsimp only
        repeat first | ((with_reducible first | refine sS ?_ | refine sC ?_); intro bC bR bU hC hR hU; simp only [go_sem, ↓reduceIte, f1, f7, la, hi]; subst hC hR hU) | (with_reducible refine rN ?_; subst hbq) | (with_reducible refine iR ?_; refine rG (by simp only [compL, gtOf, nthDst]; exact rfl) ?_) | (with_reducible refine x1 ?_; clear hbq bq) | with_reducible first | refine nS ?_ | refine rS fun bq hbq => ?_ | refine rXx ?_ | refine x3 ?_ | refine x4 ?_
        refine run_endcut ?_
        exact ⟨st, us, lf, td, szT, tokT, ⟨KI.k, KI.uses, KI.ulen, KI.bound, f1, f3, f4, f5, f6⟩, hph⟩
  · obtain ⟨st, us, lf, td, szT, tokT, KI, hph1⟩ := hI
    subst hbq
    have hph := ph2_start vs hph1
    have f1 := KI.t1
    have f3 := KI.t3
    have f4 := KI.t4
    have f5 := KI.t5
    have f6 := KI.t6
    try dsimp only
    repeat first | ((with_reducible refine sS ?_); intro bC bR bU hC hR hU; simp only [go_sem, ↓reduceIte, f1, f3, f4, f5, f6]; subst hC hR hU) | (with_reducible refine rN ?_; subst hbq) | (with_reducible refine iR ?_; refine rG (by simp only [compL, gtOf, nthDst]; exact rfl) ?_) | (with_reducible refine rB fun cq hcq => ?_; subst hcq) | with_reducible first | refine nS ?_ | refine rS fun bq hbq => ?_
    refine run_loop (fun k τ h' => ∃ (m : Nat) (st : List Bool) (lf td : List Int) (szT : Nat) (tokT : Tok), k + m = vs.length ∧ m ≤ td.length ∧ KInv vs tk a S U L h0 (use1 vs vs.length) vs.length (vs.length * 4000) st us lf td szT tokT τ h' ∧ Ph2 vs (td.take m) [] st lf td ∧ τ 10 = .int .i64 m) vs.length ?_ ?_
    · exact ⟨0, st, lf, td, szT, tokT, rfl, Nat.zero_le _, ⟨KI.k, KI.uses, KI.ulen, KI.bound, f1, f3, f4, f5, f6⟩, hph, rfl⟩
    · intro c hcc k τ h' hI
      clear f1 f3 f4 f5 f6 hph hph1 KI
      obtain ⟨m, st, lf, td, szT, tokT, hk, hm, KI, hph, f10⟩ := hI
      subst hcc
      have la := KI.k.less _ _ h0a
      have f1 := KI.t1
      have f3 := KI.t3
      have f4 := KI.t4
      have f5 := KI.t5
      have f6 := KI.t6
      have tdl : td.length ≤ vs.length := by
        rw [← hph.num, ← hph.len]
        exact List.count_le_length
      by_cases hmt : m < td.length
      · obtain ⟨x, hx⟩ : ∃ x, td[m]? = some x := ⟨_, List.getElem?_eq_getElem hmt⟩
        have hxr := (hph.acc x (List.mem_of_getElem? hx)).2
        obtain ⟨xn, rfl⟩ : ∃ xn : Nat, x = xn := ⟨x.toNat, by omega⟩
        have hxn : xn < vs.length := by omega
        obtain ⟨uc, huc⟩ : ∃ uc, us[xn]? = some uc := ⟨_, List.getElem?_eq_getElem (by rw [KI.ulen]; exact hxn)⟩
        have hucl : (us.map UC.l)[((xn : Nat) : Int).toNat]? = some uc.l := by rw [Int.toNat_natCast, List.getElem?_map, huc]; rfl
        have hph2 := ph2_take hph hx KI.uses hucl
        have hucr := (KI.uses _ _ hucl).2
        have hucb := KI.bound xn uc huc
        have huco := (KI.k.own xn uc huc).1
        have d1 : (List.drop m (nums td)).head? = some (.int .i64 xn) := by rw [List.head?_drop, List.getElem?_map, hx]; rfl
        have d2 : (List.drop xn (us.map ucAV)).head? = some (.list uc.sz (nums uc.l) uc.l.length uc.tok) := by rw [List.head?_drop, List.getElem?_map, huc]; rfl
        have hU2 := KI.k.hU
        have l3 : (xn < vs.length) = True := eq_true hxn
        have l5 : (szT = 1) = True := eq_true (KI.k.ownT.1.resolve_left (fun e => by rw [e] at hmt; simp at hmt))
        try dsimp only
        repeat first | ((with_reducible first | refine sS ?_ | refine sC ?_); intro bC bR bU hC hR hU; simp only [go_sem, ↓reduceIte, f1, f3, f4, f5, f6, f10, hmt, d1, d2, hU2, l3, l5, wrap_in (show -9223372036854775808 ≤ (m : Int) + 1 by omega) (show (m : Int) + 1 ≤ 9223372036854775807 by omega)]; subst hC hR hU) | (with_reducible refine rN ?_; subst hbq) | (with_reducible refine iR ?_; refine rG (by simp only [compL, gtOf, nthDst]; exact rfl) ?_) | (with_reducible refine rB fun cq hcq => ?_; subst hcq) | with_reducible first | refine nS ?_ | refine rS fun bq hbq => ?_ | refine rK ?_
        refine run_loop (fun k τ h' => ∃ (kk : Nat) (st : List Bool) (lf ex : List Int) (szT : Nat) (tokT : Tok), k + kk = uc.l.length ∧ KInv vs tk a S U L h0 (use1 vs vs.length) vs.length (vs.length * 4000) st us lf (td ++ ex) szT tokT τ h' ∧ Ph2 vs (td.take (m + 1)) (uc.l.drop kk) st lf (td ++ ex) ∧ τ 10 = .int .i64 (m + 1 : Nat) ∧ τ 11 = .list uc.sz (nums uc.l) uc.l.length uc.tok ∧ τ 12 = .int .i64 kk) uc.l.length ?_ ?_
        · exact ⟨0, st, lf, [], szT, tokT, rfl, ⟨by rw [List.append_nil]; exact KI.k, KI.uses, KI.ulen, KI.bound, f1, f3, f4, f5, by rw [List.append_nil]; exact f6⟩, by rw [List.append_nil]; exact hph2, rfl, rfl, rfl⟩
        · intro c hcc k2 τ h' hI
          clear f1 f3 f4 f5 f6 f10 la hU2 l5 KI hph hph2
          obtain ⟨kk, st, lf, ex, szT, tokT, hk2, KI, hph, f10, f11, f12⟩ := hI
          subst hcc
          have f1 := KI.t1
          have f3 := KI.t3
          have f4 := KI.t4
          have f5 := KI.t5
          have f6 := KI.t6
          by_cases hkk : kk < uc.l.length
          · obtain ⟨y, hy⟩ : ∃ y, uc.l[kk]? = some y := ⟨_, List.getElem?_eq_getElem hkk⟩
            have hyr := hucr y (List.mem_of_getElem? hy)
            obtain ⟨yn, rfl⟩ : ∃ yn : Nat, y = yn := ⟨y.toNat, by omega⟩
            have hyn : yn < vs.length := by omega
            have hdrop : uc.l.drop kk = (yn : Int) :: uc.l.drop (kk + 1) := by
              rw [List.drop_eq_getElem_cons hkk]
              rw [List.getElem?_eq_getElem hkk] at hy; injection hy with hy; rw [hy]
            rw [hdrop] at hph
            obtain ⟨v, b, hlv, hsb, hyes, hno⟩ := ph2_step hp hph (by omega) (by omega)
            rw [Int.toNat_natCast] at hlv hsb hyes hno
            have d3 : (List.drop kk (nums uc.l)).head? = some (.int .i64 yn) := by rw [List.head?_drop, List.getElem?_map, hy]; rfl
            have d4 : (List.drop yn (nums lf)).head? = some (.int .i64 ((v : Int) + 1)) := by rw [List.head?_drop, List.getElem?_map, hlv]; rfl
            have hvb : (v : Int) ≤ 5000000000 := by
              have h1 := hph.lfs yn hyn
              rw [hlv] at h1
              injection h1 with h1
              have h2 := List.countP_le_length (p := fun y => !(td.take (m + 1)).contains y) (l := dl vs yn)
              have h3 : (dl vs yn).length ≤ 4000 := by
                unfold dl
                split
                · rename_i hi
                  exact Nat.le_trans (direct_len _) (hsz _ hi)
                · simp
              have h4 := List.count_le_length (a := (yn : Int)) (l := (yn : Int) :: uc.l.drop (kk + 1))
              rw [← hdrop, List.length_drop] at h4
              rw [← hdrop] at h1
              omega
            have hwr : IntKind.i64.wrap ((v : Int) + 1 - 1) = (v : Int) := by rw [wrap_in (by omega) (by omega)]; omega
            have l3 : (yn < vs.length) = True := eq_true hyn
            have l5 : (uc.sz = 1) = True := eq_true (huco.resolve_left (fun e => by rw [e] at hkk; simp at hkk))
            have l6 : (yn + 1 ≤ (nums lf).length) = True := eq_true (by rw [List.length_map, hph.lel]; omega)
            have hL2 := KI.k.hL
            have hput : List.take yn (nums lf) ++ AV.int .i64 (v : Int) :: List.drop (yn + 1) (nums lf) = nums (lf.set yn (v : Int)) := put_map numAV (v : Int) lf yn (by rw [hph.lel]; exact hyn)
            have K3 := KI.k.left ⟨e5.1.symm, e4.1.symm⟩ h0L (lf.set yn (v : Int))
            have d5 : (List.drop yn (nums (lf.set yn (v : Int)))).head? = some (.int .i64 (v : Int)) := by rw [List.head?_drop, List.getElem?_map, List.getElem?_set, if_pos rfl, if_pos (by rw [hph.lel]; exact hyn)]; rfl
            have d6 : (List.drop yn (st.map AV.bool)).head? = some (.bool b) := by rw [List.head?_drop, List.getElem?_map, hsb]; rfl
            try dsimp only
            repeat first | ((with_reducible first | refine sS ?_ | refine sC ?_); intro bC bR bU hC hR hU; simp only [go_sem, ↓reduceIte, f1, f3, f4, f5, f6, f10, f11, f12, hkk, d3, d4, l3, l5, l6, hL2, hwr, hput]; subst hC hR hU) | (with_reducible refine rN ?_; subst hbq) | (with_reducible refine iR ?_; refine rG (by simp only [compL, gtOf, nthDst]; exact rfl) ?_) | (with_reducible refine rB fun cq hcq => ?_; subst hcq) | with_reducible first | refine nS ?_ | refine rS fun bq hbq => ?_ | refine rK ?_
            generalize upd h' L (some (AObj.cells (nums (lf.set yn (v : Int))) 3)) = H5 at *
            have hS5 := K3.hS
            have l7 : (yn + 1 ≤ (st.map AV.bool).length) = True := eq_true (by rw [List.length_map, hph.len]; omega)
            simp only [d5, Option.map_some]
            cases v0 : ((v : Int) == 0)
            case false =>
              have hv : v ≠ 0 := by intro e; subst e; cases v0
              try dsimp only
              repeat first | ((with_reducible first | refine sS ?_ | refine sC ?_); intro bC bR bU hC hR hU; simp only [go_sem, ↓reduceIte, f1, f3, f4, f5, f6, f10, f11, f12, v0, wrap_in (show -9223372036854775808 ≤ (kk : Int) + 1 by omega) (show (kk : Int) + 1 ≤ 9223372036854775807 by omega)]; subst hC hR hU) | (with_reducible refine rN ?_; subst hbq) | (with_reducible refine iR ?_; refine rG (by simp only [compL, gtOf, nthDst]; exact rfl) ?_) | with_reducible first | refine nS ?_ | refine rK ?_ | refine rE ?_
              refine run_loopN (m := k2 - 1) (by omega) ⟨kk + 1, st, lf.set yn (v : Int), ex, szT, tokT, by omega, ⟨K3, KI.uses, KI.ulen, KI.bound, f1, f3, f4, f5, f6⟩, hno (.inr hv), f10, f11, rfl⟩
            have hv : v = 0 := by simp only [beq_iff_eq] at v0; omega
            cases b
            case true =>
              try dsimp only
              repeat first | ((with_reducible first | refine sS ?_ | refine sC ?_); intro bC bR bU hC hR hU; simp only [go_sem, ↓reduceIte, f1, f3, f4, f5, f6, f10, f11, f12, v0, hkk, d3, l3, l5, hS5, d6, wrap_in (show -9223372036854775808 ≤ (kk : Int) + 1 by omega) (show (kk : Int) + 1 ≤ 9223372036854775807 by omega)]; subst hC hR hU) | (with_reducible refine rN ?_; subst hbq) | (with_reducible refine iR ?_; refine rG (by simp only [compL, gtOf, nthDst]; exact rfl) ?_) | with_reducible first | refine nS ?_ | refine rK ?_ | refine rE ?_
              refine run_loopN (m := k2 - 1) (by omega) ⟨kk + 1, st, lf.set yn (v : Int), ex, szT, tokT, by omega, ⟨K3, KI.uses, KI.ulen, KI.bound, f1, f3, f4, f5, f6⟩, hno (.inl rfl), f10, f11, rfl⟩
            have hput2 : List.take yn (st.map AV.bool) ++ AV.bool true :: List.drop (yn + 1) (st.map AV.bool) = (st.set yn true).map AV.bool := put_map AV.bool true st yn (by rw [hph.len]; exact hyn)
            have K6 := K3.settle ⟨e2.1, e5.1⟩ h0S (st.set yn true)
            try dsimp only
            repeat first | ((with_reducible first | refine sS ?_ | refine sC ?_); intro bC bR bU hC hR hU; simp only [go_sem, ↓reduceIte, f1, f3, f4, f5, f6, f10, f11, f12, v0, hkk, d3, l3, l5, l7, hS5, d6, hput2, build_int]; subst hC hR hU) | (with_reducible refine rN ?_; subst hbq) | (with_reducible refine iR ?_; refine rG (by simp only [compL, gtOf, nthDst]; exact rfl) ?_) | with_reducible first | refine nS ?_ | refine rS fun bq hbq => ?_
            generalize upd H5 S (some (AObj.cells ((st.set yn true).map AV.bool) 4)) = H6 at *
            refine cAppend_list ?_
            simp only [go_sem, ↓reduceIte]
            intro w hw
            have hown := K6.ownT
            have tdl2 : (td ++ ex).length ≤ vs.length := by
              rw [← hph.num, ← hph.len]
              exact List.count_le_length
            obtain ⟨h4, ea, hg4, hl4, keep⟩ := append_grow2 el_77 el_77 sz_3 by_3 ze_3 ⟨rfl, by decide⟩ K6.less hw (sz1 := szT) (n1 := (td ++ ex).length) (c1 := nums (td ++ ex)) (c2 := [.int .i64 yn]) (n2 := 1) (t2 := .full) hown.2 (by rcases hown.1 with e | e; exact .inl (by rw [e]; rfl); exact .inr e) (sz2 := 1) rfl (by decide) (by omega)
            have K7 := K6.todo hw hl4 hg4 keep (td ++ (ex ++ [(yn : Int)]))
            have hnum : AV.list 1 (nums (td ++ ex) ++ [AV.int .i64 (yn : Int)]) ((td ++ ex).length + 1) (.id w) = .list 1 (nums (td ++ (ex ++ [(yn : Int)]))) (td ++ (ex ++ [(yn : Int)])).length (.id w) := by simp [nums, Nat.add_assoc]
            have hphN := hyes rfl hv
            rw [List.append_assoc] at hphN
            simp only [ea, go_sem, ↓reduceIte]
            try dsimp only
            repeat first | ((with_reducible refine sS ?_); intro bC bR bU hC hR hU; simp only [go_sem, ↓reduceIte, f1, f3, f4, f5, f6, f10, f11, f12, wrap_in (show -9223372036854775808 ≤ (kk : Int) + 1 by omega) (show (kk : Int) + 1 ≤ 9223372036854775807 by omega)]; subst hC hR hU) | (with_reducible refine rN ?_; subst hbq) | (with_reducible refine iR ?_; refine rG (by simp only [compL, gtOf, nthDst]; exact rfl) ?_) | with_reducible first | refine nS ?_ | refine rE ?_
            refine run_loopN (m := k2 - 1) (by omega) ⟨kk + 1, st.set yn true, lf.set yn (v : Int), ex ++ [(yn : Int)], 1, .id w, by omega, ⟨K7, KI.uses, KI.ulen, KI.bound, f1, f3, f4, f5, hnum⟩, hphN, f10, f11, rfl⟩
          · have : k2 = 0 := by omega
            subst this
            rw [List.drop_eq_nil_of_le (by omega)] at hph
            try dsimp only
            repeat first | ((with_reducible first | refine sS ?_ | refine sC ?_); intro bC bR bU hC hR hU; simp only [go_sem, ↓reduceIte, f1, f3, f4, f5, f6, f10, f11, f12, hkk]; subst hC hR hU) | (with_reducible refine rN ?_; subst hbq) | (with_reducible refine iR ?_; refine rG (by simp only [compL, gtOf, nthDst]; exact rfl) ?_) | (with_reducible refine x1 ?_; clear hbq bq) | with_reducible first | refine nS ?_ | refine rS fun bq hbq => ?_ | refine rE ?_ | refine rXx ?_ | refine x3 ?_ | refine x4 ?_
            have htk : (td ++ ex).take (m + 1) = td.take (m + 1) := by rw [List.take_append_of_le_length (by omega)]
            refine run_loopN (m := k - 1) (by omega) ⟨m + 1, st, lf, td ++ ex, szT, tokT, by omega, by rw [List.length_append]; omega, ⟨KI.k, KI.uses, KI.ulen, KI.bound, f1, f3, f4, f5, f6⟩, by rw [htk]; exact hph, f10⟩
      · have hme : m = td.length := by omega
        subst hme
        have hend := ph2_end hp (st := st) (lf := lf) (td := td) (by rw [List.take_length] at hph; exact hph)
        have fin2 : HLess h' h := KI.k.less.trans fin0
        rw [← hend] at hq
        have hlt : decide (td.length < td.length) = false := decide_eq_false (Nat.lt_irrefl _)
        try dsimp only
        repeat first | ((with_reducible first | refine sS ?_ | refine sC ?_); intro bC bR bU hC hR hU; simp only [go_sem, ↓reduceIte, f1, f3, f4, f5, f6, f10, la, hlt]; subst hC hR hU) | (with_reducible refine rN ?_; subst hbq) | (with_reducible refine iR ?_; refine rG (by simp only [compL, gtOf, nthDst]; exact rfl) ?_) | (with_reducible refine x1 ?_; clear hbq bq) | (with_reducible refine iL ?_; refine rL (by rw [Tryz.results92]) fin2 ?_; simp only [go_sem, ↓reduceIte, aPack, Option.some.injEq, exists_eq_left', f1, f3, f4, f5, f6, f10, la, hlt]) | with_reducible first | refine nS ?_ | refine rS fun bq hbq => ?_ | refine rXx ?_ | refine rR ?_ | refine x3 ?_ | refine x4 ?_
        exact hq
/- fit; few; fitting. -/


/- within. -/


/- Closed. -/


/- The matcher's match. -/


/-! ### sizes -/
abbrev MSt := List (Int × Term)
/-- The matcher x, whose map is object m, over a heap h0. -/
def Matcher (x m : Nat) (pars : Int) (h0 : AHeap) (es : MSt) (h : AHeap) : Prop :=
  HLess h h0 ∧ h x = some (.cells [.int .i64 pars, .map m] 142) ∧ (∃ raw c, h m = some (.map raw c) ∧ MapRel enc es raw) ∧ ∀ e ∈ es, e.2.size ≤ 1000000000
theorem Matcher.mono {x m : Nat} {pars : Int} {h0 : AHeap} {es : MSt} {h h2 : AHeap} (k : Matcher x m pars h0 es h) (hl : HLess h2 h) : Matcher x m pars h0 es h2 := by
  obtain ⟨h1, h3, ⟨raw, c, h4, h5⟩, h6⟩ := k
  exact ⟨hl.trans h1, hl _ _ h3, ⟨raw, c, hl _ _ h4, h5⟩, h6⟩
/- The reference's match. -/


abbrev RSt := List (Option Term)
def tcell : Option Term → List AV
  | some t => cellsT t
  | none => [.int .i64 0, .int .i64 0, .str noName, .list 0 [] 0 .nil]
def icell (o : Option Term) : AV := .bool o.isSome
/-- The reference's matcher x: which parameters are there, and what they stand for, in the objects bi and bt. -/
structure RMatcher (x bi bt : Nat) (mv : AV) (pars : Int) (h0 : AHeap) (st : RSt) (h : AHeap) : Prop where
  less : HLess h h0
  obj : h x = some (.cells [.int .i64 pars, .sl bi 0 60, mv, .sl bt 0 60] 147)
  is : h bi = some (.cells (st.map icell) 4)
  tm : h bt = some (.cells (st.flatMap tcell) 27)
  len : st.length = 60
  small : ∀ t, some t ∈ st → t.size ≤ 1000000000
theorem RMatcher.mono {x bi bt : Nat} {mv : AV} {pars : Int} {h0 : AHeap} {st : RSt} {h h2 : AHeap} (k : RMatcher x bi bt mv pars h0 st h) (hl : HLess h2 h) : RMatcher x bi bt mv pars h0 st h2 :=
  ⟨hl.trans k.less, hl _ _ k.obj, hl _ _ k.is, hl _ _ k.tm, k.len, k.small⟩

/- The reference's pattern. -/


structure PMatcher (x bm : Nat) (bv tv : AV) (pars : Int) (h0 : AHeap) (mn : List Int) (h : AHeap) : Prop where
  less : HLess h h0
  obj : h x = some (.cells [.int .i64 pars, bv, .sl bm 0 60, tv] 147)
  many : h bm = some (.cells (mn.map fun i => .int .i64 i) 3)
  len : mn.length = 60
theorem PMatcher.mono {x bm : Nat} {bv tv : AV} {pars : Int} {h0 : AHeap} {mn : List Int} {h h2 : AHeap} (k : PMatcher x bm bv tv pars h0 mn h) (hl : HLess h2 h) : PMatcher x bm bv tv pars h0 mn h2 :=
  ⟨hl.trans k.less, hl _ _ k.obj, hl _ _ k.many, k.len⟩
/- isOpen. -/


/-! ### with names -/
def onlyK (I : Env → AHeap → Prop) : AK
  | .normal, τ, h => I τ h
  | _, _, _ => False
theorem NSem.seqN {P : Program} {nt : Nat} {x y : Code} {K : KS} {s : AS} (I : Env → AHeap → Prop) (h1 : AmSem P x (onlyK I) s.τ s.h) (h2 : ∀ τ h n, I τ h → NSem P nt y K ⟨τ, h, n, s.ds, s.rd⟩) : NSem P nt (.seq x y) K s := by
  refine .seq ((h1 nt s.n s.ds s.rd).mono fun e s' ⟨k1, k2, k3⟩ => ?_)
  obtain ⟨τ', h', n', ds', rd'⟩ := s'
  simp only at k1 k2 k3
  subst k1; subst k2
  cases e with
  | normal => exact h2 τ' h' n' k3
  | ret => exact k3.elim
  | exit i => exact k3.elim
  | panic v => exact k3.elim
theorem only_end {I : Env → AHeap → Prop} {τ : Env} {h : AHeap} (hs : I τ h) : onlyK I .normal τ h := hs
theorem NSem.hideRF {P : Program} {nt : Nat} {g : Operand} {ps : Array Tmp} {asg bd : Code} {K : KS} {s : AS} (hs : ∀ a b, a = asg → b = bd → NSem P nt (.rangeFunc g ps a b) K s) : NSem P nt (.rangeFunc g ps asg bd) K s := hs _ _ rfl rfl
theorem NSem.condT {P : Program} {nt : Nat} {c : Operand} {x y : Code} {K : KS} {s : AS} (ht : aEval s.τ c = .bool true) (h1 : NSem P nt x K s) : NSem P nt (.cond c x y) K s := .cond ht (fun _ => h1) (fun h => by cases h)
theorem NSem.condF {P : Program} {nt : Nat} {c : Operand} {x y : Code} {K : KS} {s : AS} (ht : aEval s.τ c = .bool false) (h1 : NSem P nt y K s) : NSem P nt (.cond c x y) K s := .cond ht (fun h => by cases h) (fun _ => h1)

theorem stepR_scope {P : Program} {b : Frame} {a : Act} {k : List Item} {cs : List Frame} {w : World} {c : Code} : step P (lone (b.atR a (.code (.scope c) :: k)) cs w) = .next (lone (b.atR a (.code c :: .inScope c :: k)) cs w) :=
  step_lone_go (by simp [Go.stepG, Go.stepG.exec, Frame.atR])
theorem stepR_inScope {P : Program} {b : Frame} {a : Act} {k : List Item} {cs : List Frame} {w : World} {c : Code} : step P (lone (b.atR a (.inScope c :: k)) cs w) = .next (lone (b.atR a k) cs w) :=
  step_lone_go (by simp [Go.stepG, Go.stepG.exec, Frame.atR])
theorem wpIn_scope {F : Fence} {n : Nat} {P : Program} {Q : Exit → Act → World → Prop} {a : Act} {w : World} {c : Code} (h : c.wpIn F n P Q a w) (hg : ∀ l a w, ¬ Q (.goto l) a w) : (Code.scope c).wpIn F n P Q a w := by
  intro b k cs hro hb hr
  have h0 : (lone (b.atR a (.code (.scope c) :: k)) cs w).fenced P F := fenced_calm hb hr rfl
  obtain ⟨e, a₁, w₁, hq, harr⟩ := h b (.inScope c :: k) cs hro hb hr
  cases e with
  | normal => exact ⟨.normal, a₁, w₁, hq, .head h0 stepR_scope (StepsIn.trans harr (.one (fenced_calm hb hr rfl) stepR_inScope))⟩
  | exit id =>
    have hx : exitTo id (.inScope c :: k) = exitTo id k := by simp [exitTo]
    exact ⟨.exit id, a₁, w₁, hq, fun k' hk => .head h0 stepR_scope (harr.1 k' (by rw [hx]; exact hk)),
      fun hr' hk => let ⟨k₁, h1, h2⟩ := harr.2 hr' (by rw [hx]; exact hk); ⟨k₁, h1, .head h0 stepR_scope h2⟩⟩
  | goto l => exact (hg _ _ _ hq).elim
  | ret => exact ⟨_, a₁, w₁, hq, .of_steps (.one h0 stepR_scope) harr⟩
  | panic ch => exact ⟨_, a₁, w₁, hq, .of_steps (.one h0 stepR_scope) harr⟩
  | outgrown => exact ⟨_, a₁, w₁, hq, .of_steps (.one h0 stepR_scope) harr⟩
theorem NSem.scope {P : Program} {nt : Nat} {c : Code} {K : KS} {s : AS} (hs : NSem P nt c K s) : NSem P nt (.scope c) K s :=
  ⟨fun hF hok ag => wpIn_scope (hs.run hF hok ag) fun _ _ _ hq => hq⟩
theorem NSem.of_fresh {P : Program} {nt : Nat} {c : Code} {K : KS} {s : AS} (hs : (∀ k, s.n ≤ k → s.h k = Option.none) → NSem P nt c K s) : NSem P nt c K s := by
  refine ⟨fun hF hok ag => (hs fun k hk => ?_).run hF hok ag⟩
  cases e : s.h k with
  | none => rfl
  | some o => have := ag.sim.dom _ _ e; have := ag.num; omega
end Go.Proofs.YthkjmiejaoomcaaGreat.Am
