/- Part of the proof of a law of layer 5: own texts, joined. -/
import Derived.Test.YthkjmiejaoomcaaGreatMi
import Derived.Test.YthkjmiejaoomcaaGreatMk
import Derived.Test.YthkjmiejaoomcaaGreatMg
import Derived.Test.YthkjmiejaoomcaaGreatMh
set_option linter.unusedVariables false
set_option linter.unusedSimpArgs false
set_option linter.unnecessarySimpa false
namespace Go.Proofs.YthkjmiejaoomcaaGreat.Am
open Go Go.RowKit Go.Proofs
set_option linter.unusedVariables false
set_option linter.unusedSimpArgs false
set_option maxRecDepth 100000
set_option maxHeartbeats 1000000
attribute [local go_sem] cSeq cDr cOne cStays nthCO panK aKind gWanted panC cPanic cOp needsName cStep aop aEval argEnv List.getD_cons_zero List.getD_cons_succ AV.known AV.cells if_true if_false cond_true cond_false aPut true_and and_true ofConst ofLeaf true_imp false_imp true_imp' false_imp' btt btf
  aFieldAt aAssert aLoad aPick aBin aInt aShift aStr unSl aLen aBuiltin Option.map_some Option.map_none upd_same eupd_at Nat.reduceBEq List.drop_zero List.drop_succ_cons List.drop_nil List.take_succ_cons List.take_zero List.head?_cons List.length_cons List.length_nil Nat.reduceAdd Nat.reduceLeDiff Nat.reduceEqDiff List.map_cons List.map_nil Nat.zero_add Nat.add_zero reduceCtorEq Bool.false_eq_true
  aResL aRes1 true_implies false_implies implies_true forall_const and_self Bool.not_true Bool.not_false Bool.cond_self upd_if aExtract aNil aIface aMax aMin aNot List.getElem?_cons_zero List.getElem?_cons_succ aIndexAt aStore aSplice AV.flat List.all_cons List.all_nil Bool.and_true Bool.true_and Bool.and_false Bool.false_and Int.natCast_nonneg Int.ofNat_lt Int.toNat_natCast cCall Nat.le_add_left List.append_nil List.contains_cons List.contains_nil Bool.or_true Bool.or_false Bool.true_or Bool.false_or Nat.reduceBEq List.cons_append List.nil_append
  sz_1 by_1 ag_1 tk_1 ze_1 sz_3 by_3 ag_3 tk_3 ze_3 sz_4 by_4 ag_4 tk_4 ze_4 sz_9 by_9 ag_9 tk_9 ze_9
  sz_20 by_20 ag_20 tk_20 ze_20 sz_22 by_22 ag_22 tk_22 el_22 ze_22 sz_24 by_24 ag_24 tk_24 ze_24 fi_24_0 pl_24 sz_25 by_25
  ag_25 tk_25 el_25 ze_25 sz_27 by_27 ag_27 tk_27 ze_27 fi_27_0 fi_27_1 fi_27_2 fi_27_3 pl_27 sz_30 by_30 ag_30 tk_30 ze_30 sz_34
  by_34 ag_34 tk_34 ze_34 fi_34_0 fi_34_1 fi_34_2 fi_34_3 pl_34 sz_40 by_40 ag_40 tk_40 el_40 ze_40 sz_42 by_42 ag_42 tk_42 ze_42
  fi_42_0 fi_42_1 fi_42_2 pl_42 sz_52 by_52 ag_52 tk_52 ze_52 fi_52_0 fi_52_1 fi_52_2 fi_52_3 pl_52 sz_60 by_60 ag_60 tk_60 ze_60 fi_60_0
  fi_60_1 pl_60 sz_62 by_62 ag_62 tk_62 ze_62 fi_62_0 fi_62_1 fi_62_2 fi_62_3 pl_62 sz_68 by_68 ag_68 tk_68 ze_68 fi_68_0 fi_68_1 pl_68
  sz_70 by_70 ag_70 tk_70 el_70 ze_70 sz_77 by_77 ag_77 tk_77 el_77 ze_77 sz_80 by_80 ag_80 tk_80 ze_80 sz_83 by_83 ag_83
  tk_83 ze_83 fi_83_0 fi_83_1 pl_83 sz_95 by_95 ag_95 tk_95 ze_95 sz_97 by_97 ag_97 tk_97 ze_97 sz_99 by_99 ag_99 tk_99 mp_99
  ze_99 sz_101 by_101 ag_101 tk_101 ze_101 fi_101_0 fi_101_1 fi_101_2 pl_101 sz_104 by_104 ag_104 tk_104 ze_104 sz_106 by_106 ag_106 tk_106 ze_106
  fi_106_0 fi_106_1 fi_106_2 pl_106 sz_108 by_108 ag_108 tk_108 ze_108 sz_109 by_109 ag_109 tk_109 ze_109 sz_110 by_110 ag_110 tk_110 el_110 ze_110
  sz_112 by_112 ag_112 tk_112 ze_112 fi_112_0 fi_112_1 fi_112_2 fi_112_3 pl_112 sz_115 by_115 ag_115 tk_115 ze_115 fi_115_0 fi_115_1 pl_115 sz_121 by_121
  ag_121 tk_121 ze_121 sz_125 by_125 ag_125 tk_125 ze_125 sz_126 by_126 ag_126 tk_126 mp_126 ze_126 sz_128 by_128 ag_128 tk_128 ze_128 fi_128_0
  fi_128_1 fi_128_2 fi_128_3 pl_128 sz_136 by_136 ag_136 tk_136 el_136 ze_136 sz_140 by_140 ag_140 tk_140 mp_140 ze_140 sz_142 by_142 ag_142 tk_142
  ze_142 fi_142_0 fi_142_1 pl_142 sz_144 by_144 ag_144 tk_144 ze_144 sz_145 by_145 ag_145 tk_145 el_145 ze_145 sz_147 by_147 ag_147 tk_147 ze_147
  fi_147_0 fi_147_1 fi_147_2 fi_147_3 pl_147 sz_150 by_150 ag_150 tk_150 ze_150 pl_150 sz_152 by_152 ag_152 tk_152 ze_152 fi_152_0 pl_152 sz_156 by_156
  ag_156 tk_156 ze_156 sz_158 by_158 ag_158 tk_158 ze_158 fi_158_0 fi_158_1 fi_158_2 pl_158 sz_160 by_160 ag_160 tk_160 mp_160 ze_160 sz_162 by_162
  ag_162 tk_162 ze_162 sz_164 by_164 ag_164 tk_164 ze_164 fi_164_0 fi_164_1 fi_164_2 pl_164 sz_167 by_167 ag_167 tk_167 ze_167 fi_167_0 fi_167_1 pl_167
  sz_173 by_173 ag_173 tk_173 el_173 ze_173 sz_189 by_189 ag_189 tk_189 ze_189 sz_198 by_198 ag_198 tk_198 ze_198
  cStays_nil bne decide_true decide_false Nat.mul_one upd_twice beq_self_eq_true Int.reduceBEq Int.reduceLT Int.reduceLE
/- isOpen. -/


abbrev OSt := List (Int × Int)
def ownElem (pars : Int) (pre : List Term) (u : Term) : Bool := isSimpleF u && (!(u.kind == 3 && decide (u.n ≥ pars)) && !(pre.any fun b => isF u b))
def argsGoP (pars : Int) : List Term → List Term → Bool
  | _, [] => true
  | pre, u :: us => ownElem pars pre u && argsGoP pars (pre ++ [u]) us
def openPut (n m : Int) (es : OSt) : OSt := match mget n es with
  | some _ => es
  | none => es ++ [(n, m)]
def openClash (n m : Int) (es : OSt) : Bool := match mget n es with
  | some k => !(k == m)
  | none => false
def stepOpen (pars : Int) (es : OSt) (u : Term) : Bool × OSt :=
  if !(u.kind == 3) || decide (u.n < pars) then (true, es)
  else if openClash u.n u.args.length es then (false, es)
  else (argsGoP pars [] u.args, openPut u.n u.args.length es)
def openL (pars : Int) : List Term → OSt → Bool
  | [], _ => true
  | t :: ts, es => (eachF (stepOpen pars) t es).1 && openL pars ts (eachF (stepOpen pars) t es).2

/-! ### with names -/
def onlyK (I : Env → AHeap → Prop) : AK
  | .normal, τ, h => I τ h
  | _, _, _ => False
theorem NSem.seqN {P : Program} {nt : Nat} {x y : Code} {K : KS} {s : AS} (I : Env → AHeap → Prop) (h1 : AmSem P x (onlyK I) s.τ s.h) (h2 : ∀ τ h n, I τ h → NSem P nt y K ⟨τ, h, n, s.ds, s.rd⟩) : NSem P nt (.seq x y) K s := by
  refine .seq ((h1 nt s.n s.ds s.rd).mono fun e s' ⟨k1, k2, k3⟩ => ?_)
  obtain ⟨τ', h', n', ds', rd'⟩ := s'
  simp only at k1 k2 k3
  subst k1; subst k2
  cases e with
  | normal => exact h2 τ' h' n' k3
  | ret => exact k3.elim
  | exit i => exact k3.elim
  | panic v => exact k3.elim
theorem NSem.lastN {P : Program} {nt : Nat} {x : Code} {K : KS} {s : AS} (I : Env → AHeap → Prop) (h1 : AmSem P x (onlyK I) s.τ s.h) (h2 : ∀ τ h n, I τ h → K .normal ⟨τ, h, n, s.ds, s.rd⟩) : NSem P nt x K s := by
  refine (h1 nt s.n s.ds s.rd).mono fun e s' ⟨k1, k2, k3⟩ => ?_
  obtain ⟨τ', h', n', ds', rd'⟩ := s'
  simp only at k1 k2 k3
  subst k1; subst k2
  cases e with
  | normal => exact h2 τ' h' n' k3
  | ret => exact k3.elim
  | exit i => exact k3.elim
  | panic v => exact k3.elim
theorem only_end {I : Env → AHeap → Prop} {τ : Env} {h : AHeap} (hs : I τ h) : onlyK I .normal τ h := hs
theorem NSem.hideRF {P : Program} {nt : Nat} {g : Operand} {ps : Array Tmp} {asg bd : Code} {K : KS} {s : AS} (hs : ∀ a b, a = asg → b = bd → NSem P nt (.rangeFunc g ps a b) K s) : NSem P nt (.rangeFunc g ps asg bd) K s := hs _ _ rfl rfl
theorem NSem.condT {P : Program} {nt : Nat} {c : Operand} {x y : Code} {K : KS} {s : AS} (ht : aEval s.τ c = .bool true) (h1 : NSem P nt x K s) : NSem P nt (.cond c x y) K s := .cond ht (fun _ => h1) (fun h => by cases h)
theorem NSem.condF {P : Program} {nt : Nat} {c : Operand} {x y : Code} {K : KS} {s : AS} (ht : aEval s.τ c = .bool false) (h1 : NSem P nt y K s) : NSem P nt (.cond c x y) K s := .cond ht (fun h => by cases h) (fun _ => h1)

theorem stepR_scope {P : Program} {b : Frame} {a : Act} {k : List Item} {cs : List Frame} {w : World} {c : Code} : step P (lone (b.atR a (.code (.scope c) :: k)) cs w) = .next (lone (b.atR a (.code c :: .inScope c :: k)) cs w) :=
  step_lone_go (by simp [Go.stepG, Go.stepG.exec, Frame.atR])
theorem stepR_inScope {P : Program} {b : Frame} {a : Act} {k : List Item} {cs : List Frame} {w : World} {c : Code} : step P (lone (b.atR a (.inScope c :: k)) cs w) = .next (lone (b.atR a k) cs w) :=
  step_lone_go (by simp [Go.stepG, Go.stepG.exec, Frame.atR])
theorem wpIn_scope {F : Fence} {n : Nat} {P : Program} {Q : Exit → Act → World → Prop} {a : Act} {w : World} {c : Code} (h : c.wpIn F n P Q a w) (hg : ∀ l a w, ¬ Q (.goto l) a w) : (Code.scope c).wpIn F n P Q a w := by
  intro b k cs hro hb hr
  have h0 : (lone (b.atR a (.code (.scope c) :: k)) cs w).fenced P F := fenced_calm hb hr rfl
  obtain ⟨e, a₁, w₁, hq, harr⟩ := h b (.inScope c :: k) cs hro hb hr
  cases e with
  | normal => exact ⟨.normal, a₁, w₁, hq, .head h0 stepR_scope (StepsIn.trans harr (.one (fenced_calm hb hr rfl) stepR_inScope))⟩
  | exit id =>
    have hx : exitTo id (.inScope c :: k) = exitTo id k := by simp [exitTo]
    exact ⟨.exit id, a₁, w₁, hq, fun k' hk => .head h0 stepR_scope (harr.1 k' (by rw [hx]; exact hk)),
      fun hr' hk => let ⟨k₁, h1, h2⟩ := harr.2 hr' (by rw [hx]; exact hk); ⟨k₁, h1, .head h0 stepR_scope h2⟩⟩
  | goto l => exact (hg _ _ _ hq).elim
  | ret => exact ⟨_, a₁, w₁, hq, .of_steps (.one h0 stepR_scope) harr⟩
  | panic ch => exact ⟨_, a₁, w₁, hq, .of_steps (.one h0 stepR_scope) harr⟩
  | outgrown => exact ⟨_, a₁, w₁, hq, .of_steps (.one h0 stepR_scope) harr⟩
theorem NSem.scope {P : Program} {nt : Nat} {c : Code} {K : KS} {s : AS} (hs : NSem P nt c K s) : NSem P nt (.scope c) K s :=
  ⟨fun hF hok ag => wpIn_scope (hs.run hF hok ag) fun _ _ _ hq => hq⟩
theorem NSem.of_fresh {P : Program} {nt : Nat} {c : Code} {K : KS} {s : AS} (hs : (∀ k, s.n ≤ k → s.h k = Option.none) → NSem P nt c K s) : NSem P nt c K s := by
  refine ⟨fun hF hok ag => (hs fun k hk => ?_).run hF hok ag⟩
  cases e : s.h k with
  | none => rfl
  | some o => have := ag.sim.dom _ _ e; have := ag.num; omega
theorem leave_colls {Q : AOut → AHeap → Prop} {h : AHeap} {b : Bool} {c4 : Nat} (hq : Q (.ret (.bool b)) h) : ∀ (ks : List Nat) (s : AS), ks.Nodup → (∀ k ∈ ks, s.h k = some .defs ∧ h k = Option.none) → s.τ 4 = .ptr c4 0 → s.h c4 = some (.cells [.bool b] 4) → HLess s.h h → leaveN Tryz.prog Tryz.f99 (fun o h _ => Q o h) (ks.map .coll) Option.none s
  | [], s, _, _, h4, hc, hl => by
    refine ⟨[.bool b], ?_, EndV.weak (WeakV.of (LeAV.refl _) hl) fun _ => hq⟩
    rw [Tryz.results99]
    simp only [go_sem, ↓reduceIte, h4, hc]
  | k :: ks, s, hnd, hk, h4, hc, hl => by
    rw [List.nodup_cons] at hnd
    have hkd := hk k List.mem_cons_self
    have hck : c4 ≠ k := by intro e; subst e; rw [hc] at hkd; cases hkd.1
    refine ⟨hkd.1, leave_colls hq ks { s with h := upd s.h k Option.none } hnd.2 (fun j hj => ?_) h4 (by show upd _ _ _ _ = _; rw [upd_other _ _ hck]; exact hc) (fun i o hi => ?_)⟩
    · have hj2 := hk j (List.mem_cons_of_mem _ hj)
      have : j ≠ k := fun e => hnd.1 (e ▸ hj)
      exact ⟨by show upd _ _ _ _ = _; rw [upd_other _ _ this]; exact hj2.1, hj2.2⟩
    · have : i ≠ k := by intro e; subst e; rw [hkd.2] at hi; cases hi
      show upd _ _ _ _ = _
      rw [upd_other _ _ this]; exact hl i o hi

theorem isOpen_am (l : List Term) (pars : Int) (h : AHeap) (Q : AOut → AHeap → Prop) (hl : l.length ≤ 1000000000) (hsz : ∀ t ∈ l, t.size ≤ 1000000000) (hq : Q (.ret (.bool (openL pars l []))) h) : AmCalls Tryz.prog 99 [.list 4 (encs l) l.length .none, .int .i64 pars] h Q := by
  intro n0
  refine NCalls.of_semM (fn := Tryz.f99) Tryz.func99 rfl (by kernel_rfl) (by rw [Tryz.ntmps99]; simp) (enters_of Tryz.func99 (by kernel_rfl) (by kernel_rfl)) ?_
  refine NSem.seqN (fun τ h' => ∃ c3 c4, τ 0 = .list 4 (encs l) l.length .none ∧ τ 3 = .ptr c3 0 ∧ τ 4 = .ptr c4 0 ∧ HLess h' h ∧ h' c3 = some (.cells [.int .i64 pars] 3) ∧ h' c4 = some (.cells [.bool false] 4) ∧ h c3 = Option.none ∧ h c4 = Option.none) ?_ fun τ h1 n1 hI => ?_
  · try dsimp only
    repeat first | ((first | (with_reducible first | refine sS ?_ | refine sA ?_ | refine sC ?_) | (with_reducible refine iT ?_; refine sT rfl ?_) | (with_reducible refine i0 ?_; refine s0 rfl ?_) | (with_reducible refine iO ?_; refine sO rfl ?_)); intro bC bR bU hC hR hU; simp only [go_sem, ↓reduceIte]; subst hC hR hU) | (with_reducible refine rN ?_; subst hbq) | (with_reducible refine iR ?_; refine rG (by simp only [compL, gtOf, nthDst]; exact rfl) ?_) | (with_reducible refine rB fun cq hcq => ?_; subst hcq) | (with_reducible refine x1 ?_; clear hbq bq) | (with_reducible refine r1 ?_; clear hbq bq) | (with_reducible refine x5 ?_ ?_; focus rfl) | (with_reducible refine iL ?_; refine rL (by rw [Tryz.results99]) (HLess.refl _) ?_; simp only [go_sem, ↓reduceIte, aPack, Option.some.injEq, exists_eq_left']) | with_reducible first | refine nS ?_ | refine nD ?_ | refine rS fun bq hbq => ?_ | refine rK ?_ | refine rE ?_ | refine rXx ?_ | refine rR ?_ | refine x2 ?_ | refine x3 ?_ | refine x4 ?_ | refine r2 ?_ | refine r3 ?_ | refine r4 ?_
    intro c3 h3
    try dsimp only
    repeat first | ((first | (with_reducible first | refine sS ?_ | refine sA ?_ | refine sC ?_) | (with_reducible refine iT ?_; refine sT rfl ?_) | (with_reducible refine i0 ?_; refine s0 rfl ?_) | (with_reducible refine iO ?_; refine sO rfl ?_)); intro bC bR bU hC hR hU; simp only [go_sem, ↓reduceIte]; subst hC hR hU) | (with_reducible refine rN ?_; subst hbq) | (with_reducible refine iR ?_; refine rG (by simp only [compL, gtOf, nthDst]; exact rfl) ?_) | (with_reducible refine rB fun cq hcq => ?_; subst hcq) | (with_reducible refine x1 ?_; clear hbq bq) | (with_reducible refine r1 ?_; clear hbq bq) | (with_reducible refine x5 ?_ ?_; focus rfl) | (with_reducible refine iL ?_; refine rL (by rw [Tryz.results99]) (HLess.refl _) ?_; simp only [go_sem, ↓reduceIte, aPack, Option.some.injEq, exists_eq_left']) | with_reducible first | refine nS ?_ | refine nD ?_ | refine rS fun bq hbq => ?_ | refine rK ?_ | refine rE ?_ | refine rXx ?_ | refine rR ?_ | refine x2 ?_ | refine x3 ?_ | refine x4 ?_ | refine r2 ?_ | refine r3 ?_ | refine r4 ?_
    intro c4 h4
    have e := fresh_if h4
    try dsimp only
    repeat first | ((first | (with_reducible first | refine sS ?_ | refine sA ?_ | refine sC ?_) | (with_reducible refine iT ?_; refine sT rfl ?_) | (with_reducible refine i0 ?_; refine s0 rfl ?_) | (with_reducible refine iO ?_; refine sO rfl ?_)); intro bC bR bU hC hR hU; simp only [go_sem, ↓reduceIte]; subst hC hR hU) | (with_reducible refine rN ?_; subst hbq) | (with_reducible refine iR ?_; refine rG (by simp only [compL, gtOf, nthDst]; exact rfl) ?_) | (with_reducible refine rB fun cq hcq => ?_; subst hcq) | (with_reducible refine x1 ?_; clear hbq bq) | (with_reducible refine r1 ?_; clear hbq bq) | (with_reducible refine x5 ?_ ?_; focus rfl) | (with_reducible refine iL ?_; refine rL (by rw [Tryz.results99]) (HLess.refl _) ?_; simp only [go_sem, ↓reduceIte, aPack, Option.some.injEq, exists_eq_left']) | with_reducible first | refine nS ?_ | refine nD ?_ | refine rS fun bq hbq => ?_ | refine rK ?_ | refine rE ?_ | refine rXx ?_ | refine rR ?_ | refine x2 ?_ | refine x3 ?_ | refine x4 ?_ | refine r2 ?_ | refine r3 ?_ | refine r4 ?_
    refine only_end ⟨c3, c4, ?_⟩
    simp only [go_sem, ↓reduceIte, e.1, e.1.symm]
    exact ⟨((HLess.refl h).new h3).new e.2, h3, e.2⟩
  obtain ⟨c3, c4, f0, f3, f4, hl1, m3, m4, n3, n4⟩ := hI
  refine NSem.seqN (fun τ h' => ∃ c5 m, τ 0 = .list 4 (encs l) l.length .none ∧ τ 3 = .ptr c3 0 ∧ τ 4 = .ptr c4 0 ∧ τ 5 = .ptr c5 0 ∧ HLess h' h ∧ h' c3 = some (.cells [.int .i64 pars] 3) ∧ h' c4 = some (.cells [.bool false] 4) ∧ h' c5 = some (.cells [.map m] 160) ∧ h' m = some (.map [] 0) ∧ h c5 = Option.none ∧ h m = Option.none) ?_ fun τ h2 n2 hI => ?_
  · try dsimp only
    repeat first | ((first | (with_reducible first | refine sS ?_ | refine sA ?_ | refine sC ?_) | (with_reducible refine iT ?_; refine sT rfl ?_) | (with_reducible refine i0 ?_; refine s0 rfl ?_) | (with_reducible refine iO ?_; refine sO rfl ?_)); intro bC bR bU hC hR hU; simp only [go_sem, ↓reduceIte]; subst hC hR hU) | (with_reducible refine rN ?_; subst hbq) | (with_reducible refine iR ?_; refine rG (by simp only [compL, gtOf, nthDst]; exact rfl) ?_) | (with_reducible refine rB fun cq hcq => ?_; subst hcq) | (with_reducible refine x1 ?_; clear hbq bq) | (with_reducible refine r1 ?_; clear hbq bq) | (with_reducible refine x5 ?_ ?_; focus rfl) | (with_reducible refine iL ?_; refine rL (by rw [Tryz.results99]) (HLess.refl _) ?_; simp only [go_sem, ↓reduceIte, aPack, Option.some.injEq, exists_eq_left']) | with_reducible first | refine nS ?_ | refine nD ?_ | refine rS fun bq hbq => ?_ | refine rK ?_ | refine rE ?_ | refine rXx ?_ | refine rR ?_ | refine x2 ?_ | refine x3 ?_ | refine x4 ?_ | refine r2 ?_ | refine r3 ?_ | refine r4 ?_
    intro m hm
    try dsimp only
    repeat first | ((first | (with_reducible first | refine sS ?_ | refine sA ?_ | refine sC ?_) | (with_reducible refine iT ?_; refine sT rfl ?_) | (with_reducible refine i0 ?_; refine s0 rfl ?_) | (with_reducible refine iO ?_; refine sO rfl ?_)); intro bC bR bU hC hR hU; simp only [go_sem, ↓reduceIte]; subst hC hR hU) | (with_reducible refine rN ?_; subst hbq) | (with_reducible refine iR ?_; refine rG (by simp only [compL, gtOf, nthDst]; exact rfl) ?_) | (with_reducible refine rB fun cq hcq => ?_; subst hcq) | (with_reducible refine x1 ?_; clear hbq bq) | (with_reducible refine r1 ?_; clear hbq bq) | (with_reducible refine x5 ?_ ?_; focus rfl) | (with_reducible refine iL ?_; refine rL (by rw [Tryz.results99]) (HLess.refl _) ?_; simp only [go_sem, ↓reduceIte, aPack, Option.some.injEq, exists_eq_left']) | with_reducible first | refine nS ?_ | refine nD ?_ | refine rS fun bq hbq => ?_ | refine rK ?_ | refine rE ?_ | refine rXx ?_ | refine rR ?_ | refine x2 ?_ | refine x3 ?_ | refine x4 ?_ | refine r2 ?_ | refine r3 ?_ | refine r4 ?_
    intro c5 h5
    have e := fresh_if h5
    have w3 := ne_of_new hm m3
    have w4 := ne_of_new hm m4
    have v3 := ne_of_new e.2 m3
    have v4 := ne_of_new e.2 m4
    try dsimp only
    repeat first | ((first | (with_reducible first | refine sS ?_ | refine sA ?_ | refine sC ?_) | (with_reducible refine iT ?_; refine sT rfl ?_) | (with_reducible refine i0 ?_; refine s0 rfl ?_) | (with_reducible refine iO ?_; refine sO rfl ?_)); intro bC bR bU hC hR hU; simp only [go_sem, ↓reduceIte, e.1, e.1.symm]; subst hC hR hU) | (with_reducible refine rN ?_; subst hbq) | (with_reducible refine iR ?_; refine rG (by simp only [compL, gtOf, nthDst]; exact rfl) ?_) | (with_reducible refine rB fun cq hcq => ?_; subst hcq) | (with_reducible refine x1 ?_; clear hbq bq) | (with_reducible refine r1 ?_; clear hbq bq) | (with_reducible refine x5 ?_ ?_; focus rfl) | (with_reducible refine iL ?_; refine rL (by rw [Tryz.results99]) (HLess.refl _) ?_; simp only [go_sem, ↓reduceIte, aPack, Option.some.injEq, exists_eq_left', e.1, e.1.symm]) | with_reducible first | refine nS ?_ | refine nD ?_ | refine rS fun bq hbq => ?_ | refine rK ?_ | refine rE ?_ | refine rXx ?_ | refine rR ?_ | refine x2 ?_ | refine x3 ?_ | refine x4 ?_ | refine r2 ?_ | refine r3 ?_ | refine r4 ?_
    refine only_end ⟨c5, m, ?_⟩
    simp only [go_sem, ↓reduceIte, e.1, e.1.symm, f0, f3, f4, w3, w4, v3, v4, m3, m4]
    exact ⟨(hl1.new (hl1.none hm)).new (hl1.none e.2), hl1.none e.2, hl1.none hm⟩
  clear f0 f3 f4 m3 m4 hl1
  obtain ⟨c5, m, f0, f3, f4, f5, hl2, m3, m4, m5, mm, n5, nm⟩ := hI
  refine .seq ?_
  refine NSem.seqN (fun τ h' => h' = h2 ∧ τ 3 = .ptr c3 0 ∧ τ 4 = .ptr c4 0 ∧ τ 5 = .ptr c5 0 ∧ τ 14 = .list 4 (encs l) l.length .none ∧ τ 15 = .int .i64 l.length ∧ τ 16 = .int .i64 0) ?_ fun τ h3 n3' hI => ?_
  · try dsimp only
    repeat first | ((first | (with_reducible first | refine sS ?_ | refine sA ?_ | refine sC ?_) | (with_reducible refine iT ?_; refine sT rfl ?_) | (with_reducible refine i0 ?_; refine s0 rfl ?_) | (with_reducible refine iO ?_; refine sO rfl ?_)); intro bC bR bU hC hR hU; simp only [go_sem, ↓reduceIte, f0]; subst hC hR hU) | (with_reducible refine rN ?_; subst hbq) | (with_reducible refine iR ?_; refine rG (by simp only [compL, gtOf, nthDst]; exact rfl) ?_) | (with_reducible refine rB fun cq hcq => ?_; subst hcq) | (with_reducible refine x1 ?_; clear hbq bq) | (with_reducible refine r1 ?_; clear hbq bq) | (with_reducible refine x5 ?_ ?_; focus rfl) | (with_reducible refine iL ?_; refine rL (by rw [Tryz.results99]) (HLess.refl _) ?_; simp only [go_sem, ↓reduceIte, aPack, Option.some.injEq, exists_eq_left', f0]) | with_reducible first | refine nS ?_ | refine nD ?_ | refine rS fun bq hbq => ?_ | refine rK ?_ | refine rE ?_ | refine rXx ?_ | refine rR ?_ | refine x2 ?_ | refine x3 ?_ | refine x4 ?_ | refine r2 ?_ | refine r3 ?_ | refine r4 ?_
    refine only_end ⟨rfl, ?_⟩
    simp only [go_sem, ↓reduceIte, f3, f4, f5]
  clear f0 f3 f4 f5
  obtain ⟨rfl, f3, f4, f5, f14, f15, f16⟩ := hI
  refine .block ?_
  refine .loop (fun k (s : AS) => ∃ (i : Nat) (es : OSt) (ks : List Nat), k + i = l.length ∧ openL pars (l.drop i) es = openL pars l [] ∧ s.rd = Option.none ∧ s.ds = ks.map .coll ∧ ks.Nodup ∧ (∀ k ∈ ks, s.h k = some .defs ∧ h k = Option.none) ∧ s.τ 3 = .ptr c3 0 ∧ s.τ 4 = .ptr c4 0 ∧ s.τ 5 = .ptr c5 0 ∧ s.τ 14 = .list 4 (encs l) l.length .none ∧ s.τ 15 = .int .i64 l.length ∧ s.τ 16 = .int .i64 i ∧ HLess s.h h ∧ s.h c3 = some (.cells [.int .i64 pars] 3) ∧ s.h c4 = some (.cells [.bool false] 4) ∧ s.h c5 = some (.cells [.map m] 160) ∧ ∃ raw c, s.h m = some (.map raw c) ∧ MapRel (fun n => AV.int .i64 n) es raw) l.length ?_ ?_
  · exact ⟨0, [], [], rfl, rfl, rfl, rfl, List.nodup_nil, fun k hk => absurd hk (List.not_mem_nil), f3, f4, f5, f14, f15, f16, hl2, m3, m4, m5, [], 0, mm, rfl⟩
  intro k s hI
  clear f3 f4 f5 f14 f15 f16 hl2 m3 m4 m5 mm
  obtain ⟨i, es, ks, hk, hix, hrd, hds, hnd, hks, f3, f4, f5, f14, f15, f16, hls, m3, m4, m5, raw, c, mm, hrel⟩ := hI
  obtain ⟨τ, hh, nn, ds, rd⟩ := s
  simp only at hrd hds hks f3 f4 f5 f14 f15 f16 hls m3 m4 m5 mm
  subst hrd; subst hds
  refine NSem.seqN (fun τ' h' => h' = hh ∧ τ' = eupd τ 17 (.bool (decide (i < l.length)))) ?_ fun τ' h' n' hI => ?_
  · try dsimp only
    repeat first | ((first | (with_reducible first | refine sS ?_ | refine sA ?_ | refine sC ?_) | (with_reducible refine iT ?_; refine sT rfl ?_) | (with_reducible refine i0 ?_; refine s0 rfl ?_) | (with_reducible refine iO ?_; refine sO rfl ?_)); intro bC bR bU hC hR hU; simp only [go_sem, ↓reduceIte, f15, f16]; subst hC hR hU) | (with_reducible refine rN ?_; subst hbq) | (with_reducible refine iR ?_; refine rG (by simp only [compL, gtOf, nthDst]; exact rfl) ?_) | (with_reducible refine rB fun cq hcq => ?_; subst hcq) | (with_reducible refine x1 ?_; clear hbq bq) | (with_reducible refine r1 ?_; clear hbq bq) | (with_reducible refine x5 ?_ ?_; focus rfl) | (with_reducible refine iL ?_; refine rL (by rw [Tryz.results99]) (HLess.refl _) ?_; simp only [go_sem, ↓reduceIte, aPack, Option.some.injEq, exists_eq_left', f15, f16]) | with_reducible first | refine nS ?_ | refine nD ?_ | refine rS fun bq hbq => ?_ | refine rK ?_ | refine rE ?_ | refine rXx ?_ | refine rR ?_ | refine x2 ?_ | refine x3 ?_ | refine x4 ?_ | refine r2 ?_ | refine r3 ?_ | refine r4 ?_
    exact only_end ⟨rfl, rfl⟩
  obtain ⟨rfl, rfl⟩ := hI
  by_cases hi : i < l.length
  · refine .seq (.condT (by show AV.bool (decide (i < l.length)) = _; rw [decide_eq_true hi]) (.skip ?_))
    obtain ⟨t, ht⟩ : ∃ t, l[i]? = some t := ⟨_, List.getElem?_eq_getElem hi⟩
    obtain ⟨r, hr⟩ := encs_at l i ht
    have htsz := hsz t (List.mem_of_getElem? ht)
    have hdrop : l.drop i = t :: l.drop (i + 1) := by
      rw [List.drop_eq_getElem_cons hi]
      rw [List.getElem?_eq_getElem hi] at ht; injection ht with ht; rw [ht]
    rw [hdrop, openL] at hix
    refine .seq (.block ?_)
    refine NSem.seqN (fun τ' h2 => ∃ c7, τ' = eupd (eupd (eupd (eupd τ 17 (.bool true)) 18 (.cptr (encs l) (i * 4))) 19 (enc t)) 7 (.ptr c7 0) ∧ h' c7 = Option.none ∧ h2 = upd h' c7 (some (.cells (cellsT t) 27))) ?_ fun τ2 h2 n2' hI => ?_
    · try dsimp only
      repeat first | ((first | (with_reducible first | refine sS ?_ | refine sA ?_ | refine sC ?_) | (with_reducible refine iT ?_; refine sT rfl ?_) | (with_reducible refine i0 ?_; refine s0 rfl ?_) | (with_reducible refine iO ?_; refine sO rfl ?_)); intro bC bR bU hC hR hU; simp only [go_sem, ↓reduceIte, f14, f16, hi, hr]; subst hC hR hU) | (with_reducible refine rN ?_; subst hbq) | (with_reducible refine iR ?_; refine rG (by simp only [compL, gtOf, nthDst]; exact rfl) ?_) | (with_reducible refine rB fun cq hcq => ?_; subst hcq) | (with_reducible refine x1 ?_; clear hbq bq) | (with_reducible refine r1 ?_; clear hbq bq) | (with_reducible refine x5 ?_ ?_; focus rfl) | (with_reducible refine iL ?_; refine rL (by rw [Tryz.results99]) (HLess.refl _) ?_; simp only [go_sem, ↓reduceIte, aPack, Option.some.injEq, exists_eq_left', f14, f16, hi, hr]) | with_reducible first | refine nS ?_ | refine nD ?_ | refine rS fun bq hbq => ?_ | refine rK ?_ | refine rE ?_ | refine rXx ?_ | refine rR ?_ | refine x2 ?_ | refine x3 ?_ | refine x4 ?_ | refine r2 ?_ | refine r3 ?_ | refine r4 ?_
      intro c7 h7
      try dsimp only
      repeat first | ((first | (with_reducible first | refine sS ?_ | refine sA ?_ | refine sC ?_) | (with_reducible refine iT ?_; refine sT rfl ?_) | (with_reducible refine i0 ?_; refine s0 rfl ?_) | (with_reducible refine iO ?_; refine sO rfl ?_)); intro bC bR bU hC hR hU; simp only [go_sem, ↓reduceIte]; subst hC hR hU) | (with_reducible refine rN ?_; subst hbq) | (with_reducible refine iR ?_; refine rG (by simp only [compL, gtOf, nthDst]; exact rfl) ?_) | (with_reducible refine rB fun cq hcq => ?_; subst hcq) | (with_reducible refine x1 ?_; clear hbq bq) | (with_reducible refine r1 ?_; clear hbq bq) | (with_reducible refine x5 ?_ ?_; focus rfl) | (with_reducible refine iL ?_; refine rL (by rw [Tryz.results99]) (HLess.refl _) ?_; simp only [go_sem, ↓reduceIte, aPack, Option.some.injEq, exists_eq_left']) | with_reducible first | refine nS ?_ | refine nD ?_ | refine rS fun bq hbq => ?_ | refine rK ?_ | refine rE ?_ | refine rXx ?_ | refine rR ?_ | refine x2 ?_ | refine x3 ?_ | refine x4 ?_ | refine r2 ?_ | refine r3 ?_ | refine r4 ?_
      exact only_end ⟨c7, rfl, h7, rfl⟩
    obtain ⟨c7, rfl, h7, rfl⟩ := hI
    refine .scope (.seq (.label ?_))
    refine NSem.seqN (fun τ' h2 => ∃ c8, τ' 3 = .ptr c3 0 ∧ τ' 4 = .ptr c4 0 ∧ τ' 5 = .ptr c5 0 ∧ τ' 14 = .list 4 (encs l) l.length .none ∧ τ' 15 = .int .i64 l.length ∧ τ' 16 = .int .i64 i ∧ τ' 21 = .func (.func 133) [] [.ptr c8 0] ∧ HLess h2 h' ∧ h2 c8 = some (.cells (cellsT t) 27) ∧ h' c8 = Option.none) ?_ fun τ3 h3 n3' hI => ?_
    · try dsimp only
      repeat first | ((first | (with_reducible first | refine sS ?_ | refine sA ?_ | refine sC ?_) | (with_reducible refine iT ?_; refine sT rfl ?_) | (with_reducible refine i0 ?_; refine s0 rfl ?_) | (with_reducible refine iO ?_; refine sO rfl ?_)); intro bC bR bU hC hR hU; simp only [go_sem, ↓reduceIte]; subst hC hR hU) | (with_reducible refine rN ?_; subst hbq) | (with_reducible refine iR ?_; refine rG (by simp only [compL, gtOf, nthDst]; exact rfl) ?_) | (with_reducible refine rB fun cq hcq => ?_; subst hcq) | (with_reducible refine x1 ?_; clear hbq bq) | (with_reducible refine r1 ?_; clear hbq bq) | (with_reducible refine x5 ?_ ?_; focus rfl) | (with_reducible refine iL ?_; refine rL (by rw [Tryz.results99]) (HLess.refl _) ?_; simp only [go_sem, ↓reduceIte, aPack, Option.some.injEq, exists_eq_left']) | with_reducible first | refine nS ?_ | refine nD ?_ | refine rS fun bq hbq => ?_ | refine rK ?_ | refine rE ?_ | refine rXx ?_ | refine rR ?_ | refine x2 ?_ | refine x3 ?_ | refine x4 ?_ | refine r2 ?_ | refine r3 ?_ | refine r4 ?_
      refine heads_am t _ _ fun c8 h8 => ?_
      have e8 := fresh_if h8
      try dsimp only
      repeat first | ((first | (with_reducible first | refine sS ?_ | refine sA ?_ | refine sC ?_) | (with_reducible refine iT ?_; refine sT rfl ?_) | (with_reducible refine i0 ?_; refine s0 rfl ?_) | (with_reducible refine iO ?_; refine sO rfl ?_)); intro bC bR bU hC hR hU; simp only [go_sem, ↓reduceIte]; subst hC hR hU) | (with_reducible refine rN ?_; subst hbq) | (with_reducible refine iR ?_; refine rG (by simp only [compL, gtOf, nthDst]; exact rfl) ?_) | (with_reducible refine rB fun cq hcq => ?_; subst hcq) | (with_reducible refine x1 ?_; clear hbq bq) | (with_reducible refine r1 ?_; clear hbq bq) | (with_reducible refine x5 ?_ ?_; focus rfl) | (with_reducible refine iL ?_; refine rL (by rw [Tryz.results99]) (HLess.refl _) ?_; simp only [go_sem, ↓reduceIte, aPack, Option.some.injEq, exists_eq_left']) | with_reducible first | refine nS ?_ | refine nD ?_ | refine rS fun bq hbq => ?_ | refine rK ?_ | refine rE ?_ | refine rXx ?_ | refine rR ?_ | refine x2 ?_ | refine x3 ?_ | refine x4 ?_ | refine r2 ?_ | refine r3 ?_ | refine r4 ?_
      refine only_end ⟨c8, ?_⟩
      simp only [go_sem, ↓reduceIte, f3, f4, f5, f14, f15, f16]
      exact ⟨((HLess.refl h').new h7).new e8.2, e8.2⟩
    clear f3 f4 f5 f14 f15 f16
    obtain ⟨c8, f3, f4, f5, f14, f15, f16, f21, hl3, m8, h8⟩ := hI
    refine .block (.hideRF fun asg bd hasg hbd => .of_fresh fun hfresh => ?_)
    have g3 := hl3 _ _ m3
    have g4 := hl3 _ _ m4
    have g5 := hl3 _ _ m5
    have gm := hl3 _ _ mm
    have fD : h3 n3' = Option.none := hfresh _ (Nat.le_refl _)
    have fL : h3 (n3' + 1) = Option.none := hfresh _ (Nat.le_succ _)
    have hDL : n3' ≠ n3' + 1 := by omega
    refine NSem.rangeFunc rfl (f := 133) (first := []) (cap := [.ptr c8 0]) f21 ?_
    show NCalls Tryz.prog 133 [.yield (n3' + 1), .ptr c8 0] (upd (upd h3 n3' (some .defs)) (n3' + 1) (some (.loop .ready Option.none Tryz.f99.ntmps τ3 [22] asg bd n3'))) (n3' + 2) _
    obtain ⟨L, hLdef⟩ : ∃ L, L = n3' + 1 := ⟨_, rfl⟩
    rw [← hLdef] at fL hDL ⊢
    let Own : OSt → AHeap → Prop := fun es H => H L = some (.loop .ready Option.none Tryz.f99.ntmps τ3 [22] asg bd n3') ∧ H c3 = some (.cells [.int .i64 pars] 3) ∧ H c4 = some (.cells [.bool false] 4) ∧ H c5 = some (.cells [.map m] 160) ∧ ∃ raw c, H m = some (.map raw c) ∧ MapRel (fun n => AV.int .i64 n) es raw
    let End : AHeap → Prop := fun H => H L = some (.loop .done (some .ret) Tryz.f99.ntmps τ3 [22] asg bd n3') ∧ H c4 = some (.cells [.bool false] 4)
    have hround : ∀ h0, (∀ j ∈ [L, m, c3, c4, c5], h0 j = Option.none) → ∀ es u h' Q, u.size ≤ 1000000000 → Own es h' → HLess h' h0 → ((stepOpen pars es u).1 = true → ∀ h2, Own (stepOpen pars es u).2 h2 → HLess h2 h0 → Q (.ret (.bool true)) h2) → ((stepOpen pars es u).1 = false → ∀ h2, End h2 → HLess h2 h0 → Q (.ret (.bool false)) h2) → AmRound Tryz.prog L [enc u] h' Q := by
      intro h0 hex es u h' Q hu hO hl0 hqT hqF
      obtain ⟨oL, o3, o4, o5, raw, c, om, orel⟩ := hO
      have hn0 : h0 L = Option.none ∧ h0 m = Option.none ∧ h0 c4 = Option.none := ⟨hex _ (by simp), hex _ (by simp), hex _ (by simp)⟩
      refine AmRound.of_sem (args := [enc u]) oL rfl ?_
      show AmSem _ asg _ (eupd τ3 22 (enc u)) _
      rw [hasg]
      try dsimp only
      repeat first | ((first | (with_reducible first | refine sS ?_ | refine sA ?_ | refine sC ?_) | (with_reducible refine iT ?_; refine sT rfl ?_) | (with_reducible refine i0 ?_; refine s0 rfl ?_) | (with_reducible refine iO ?_; refine sO rfl ?_)); intro bC bR bU hC hR hU; simp only [go_sem, ↓reduceIte]; subst hC hR hU) | (with_reducible refine rN ?_; subst hbq) | (with_reducible refine iR ?_; refine rG (by simp only [compL, gtOf, nthDst]; exact rfl) ?_) | (with_reducible refine rB fun cq hcq => ?_; subst hcq) | (with_reducible refine x1 ?_; clear hbq bq) | (with_reducible refine r1 ?_; clear hbq bq) | (with_reducible refine x5 ?_ ?_; focus rfl) | (with_reducible refine iL ?_; refine rL (by rw [Tryz.results99]) (HLess.refl _) ?_; simp only [go_sem, ↓reduceIte, aPack, Option.some.injEq, exists_eq_left']) | with_reducible first | refine nS ?_ | refine nD ?_ | refine rS fun bq hbq => ?_ | refine rK ?_ | refine rE ?_ | refine rXx ?_ | refine rR ?_ | refine x2 ?_ | refine x3 ?_ | refine x4 ?_ | refine r2 ?_ | refine r3 ?_ | refine r4 ?_
      intro w hw
      have wL := ne_of_new hw oL
      have w3 := ne_of_new hw o3
      have w4 := ne_of_new hw o4
      have w5 := ne_of_new hw o5
      have wm := ne_of_new hw om
      try dsimp only
      repeat first | ((first | (with_reducible first | refine sS ?_ | refine sA ?_ | refine sC ?_) | (with_reducible refine iT ?_; refine sT rfl ?_) | (with_reducible refine i0 ?_; refine s0 rfl ?_) | (with_reducible refine iO ?_; refine sO rfl ?_)); intro bC bR bU hC hR hU; simp only [go_sem, ↓reduceIte]; subst hC hR hU) | (with_reducible refine rN ?_; subst hbq) | (with_reducible refine iR ?_; refine rG (by simp only [compL, gtOf, nthDst]; exact rfl) ?_) | (with_reducible refine rB fun cq hcq => ?_; subst hcq) | (with_reducible refine x1 ?_; clear hbq bq) | (with_reducible refine r1 ?_; clear hbq bq) | (with_reducible refine x5 ?_ ?_; focus rfl) | (with_reducible refine iL ?_; refine rL (by rw [Tryz.results99]) (HLess.refl _) ?_; simp only [go_sem, ↓reduceIte, aPack, Option.some.injEq, exists_eq_left']) | with_reducible first | refine nS ?_ | refine nD ?_ | refine rS fun bq hbq => ?_ | refine rK ?_ | refine rE ?_ | refine rXx ?_ | refine rR ?_ | refine x2 ?_ | refine x3 ?_ | refine x4 ?_ | refine r2 ?_ | refine r3 ?_ | refine r4 ?_
      refine ⟨_, _, _, _, _, _, (upd_other _ _ wL).trans oL, ?_⟩
      obtain ⟨H2, hH2⟩ : ∃ H2, H2 = upd (upd h' w (some (.cells (cellsT u) 27))) L (some (.loop .busy Option.none Tryz.f99.ntmps τ3 [22] asg bd n3')) := ⟨_, rfl⟩
      rw [← hH2, hbd]
      have d3 : c3 ≠ L := by intro e; rw [e, oL] at o3; cases o3
      have d4 : c4 ≠ L := by intro e; rw [e, oL] at o4; cases o4
      have d5 : c5 ≠ L := by intro e; rw [e, oL] at o5; cases o5
      have dm : m ≠ L := by intro e; rw [e, oL] at om; cases om
      have d34 : c3 ≠ c4 := by intro e; rw [e, o4] at o3; cases o3
      have d54 : c5 ≠ c4 := by intro e; rw [e, o4] at o5; cases o5
      have d3m : c3 ≠ m := by intro e; rw [e, om] at o3; cases o3
      have d4m : c4 ≠ m := by intro e; rw [e, om] at o4; cases o4
      have d5m : c5 ≠ m := by intro e; rw [e, om] at o5; cases o5
      have dwL : w ≠ L := fun e => wL e.symm
      have sL : H2 L = some (.loop .busy Option.none Tryz.f99.ntmps τ3 [22] asg bd n3') := by rw [hH2, upd_same]
      have sw : H2 w = some (.cells (cellsT u) 27) := by rw [hH2, upd_other _ _ dwL, upd_same]
      have s3 : H2 c3 = some (.cells [.int .i64 pars] 3) := by rw [hH2, upd_other _ _ d3, upd_other _ _ w3]; exact o3
      have s4 : H2 c4 = some (.cells [.bool false] 4) := by rw [hH2, upd_other _ _ d4, upd_other _ _ w4]; exact o4
      have s5 : H2 c5 = some (.cells [.map m] 160) := by rw [hH2, upd_other _ _ d5, upd_other _ _ w5]; exact o5
      have sm : H2 m = some (.map raw c) := by rw [hH2, upd_other _ _ dm, upd_other _ _ wm]; exact om
      have hl2 : HLess H2 h0 := by rw [hH2]; exact (hl0.new (hl0.none hw)).new hn0.1
      clear hH2
      have hgo : ∀ H3, (stepOpen pars es u).1 = true → HLess H3 h0 → H3 L = some (.loop .busy Option.none Tryz.f99.ntmps τ3 [22] asg bd n3') → H3 c3 = some (.cells [.int .i64 pars] 3) → H3 c4 = some (.cells [.bool false] 4) → H3 c5 = some (.cells [.map m] 160) → (∃ raw c, H3 m = some (.map raw c) ∧ MapRel (fun n => AV.int .i64 n) (stepOpen pars es u).2 raw) → ∀ τ', roundK L Q .normal τ' H3 := by
        intro H3 h1 hl k0 k3 k4 k5 ⟨raw3, c3', km, krel⟩ τ'
        exact ⟨_, _, _, _, _, _, k0, hqT h1 _ ⟨upd_same _ _ _, (upd_other _ _ d3).trans k3, (upd_other _ _ d4).trans k4, (upd_other _ _ d5).trans k5, raw3, c3', (upd_other _ _ dm).trans km, krel⟩ (hl.new hn0.1)⟩
      have hstop : ∀ H3, (stepOpen pars es u).1 = false → HLess H3 h0 → H3 L = some (.loop .busy Option.none Tryz.f99.ntmps τ3 [22] asg bd n3') → H3 c4 = some (.cells [.bool false] 4) → ∀ τ', roundK L Q .ret τ' H3 := by
        intro H3 h1 hl k0 k4 τ'
        exact ⟨_, _, _, _, _, _, k0, hqF h1 _ ⟨upd_same _ _ _, (upd_other _ _ d4).trans k4⟩ (hl.new hn0.1)⟩
      cases k3 : (u.kind == 3)
      · have hst : stepOpen pars es u = (true, es) := by simp only [stepOpen, k3]; rfl
        try dsimp only
        repeat first | ((first | (with_reducible first | refine sS ?_ | refine sA ?_ | refine sC ?_) | (with_reducible refine iT ?_; refine sT rfl ?_) | (with_reducible refine i0 ?_; refine s0 rfl ?_) | (with_reducible refine iO ?_; refine sO rfl ?_)); intro bC bR bU hC hR hU; simp only [go_sem, ↓reduceIte, f3, f4, f5, sw, s3, k3]; subst hC hR hU) | (with_reducible refine rN ?_; subst hbq) | (with_reducible refine iR ?_; refine rG (by simp only [compL, gtOf, nthDst]; exact rfl) ?_) | (with_reducible refine rB fun cq hcq => ?_; subst hcq) | (with_reducible refine x1 ?_; clear hbq bq) | (with_reducible refine r1 ?_; clear hbq bq) | (with_reducible refine x5 ?_ ?_; focus rfl) | (with_reducible refine iL ?_; refine rL (by rw [Tryz.results99]) (HLess.refl _) ?_; simp only [go_sem, ↓reduceIte, aPack, Option.some.injEq, exists_eq_left', f3, f4, f5, sw, s3, k3]) | with_reducible first | refine nS ?_ | refine nD ?_ | refine rS fun bq hbq => ?_ | refine rK ?_ | refine rE ?_ | refine rXx ?_ | refine rR ?_ | refine x2 ?_ | refine x3 ?_ | refine x4 ?_ | refine r2 ?_ | refine r3 ?_ | refine r4 ?_
        exact hgo _ (by rw [hst]) hl2 sL s3 s4 s5 ⟨raw, c, sm, by rw [hst]; exact orel⟩ _
      cases kn : decide (u.n < pars)
      case true =>
        have hst : stepOpen pars es u = (true, es) := by simp only [stepOpen, k3, kn]; rfl
        try dsimp only
        repeat first | ((first | (with_reducible first | refine sS ?_ | refine sA ?_ | refine sC ?_) | (with_reducible refine iT ?_; refine sT rfl ?_) | (with_reducible refine i0 ?_; refine s0 rfl ?_) | (with_reducible refine iO ?_; refine sO rfl ?_)); intro bC bR bU hC hR hU; simp only [go_sem, ↓reduceIte, f3, f4, f5, sw, s3, k3, kn]; subst hC hR hU) | (with_reducible refine rN ?_; subst hbq) | (with_reducible refine iR ?_; refine rG (by simp only [compL, gtOf, nthDst]; exact rfl) ?_) | (with_reducible refine rB fun cq hcq => ?_; subst hcq) | (with_reducible refine x1 ?_; clear hbq bq) | (with_reducible refine r1 ?_; clear hbq bq) | (with_reducible refine x5 ?_ ?_; focus rfl) | (with_reducible refine iL ?_; refine rL (by rw [Tryz.results99]) (HLess.refl _) ?_; simp only [go_sem, ↓reduceIte, aPack, Option.some.injEq, exists_eq_left', f3, f4, f5, sw, s3, k3, kn]) | with_reducible first | refine nS ?_ | refine nD ?_ | refine rS fun bq hbq => ?_ | refine rK ?_ | refine rE ?_ | refine rXx ?_ | refine rR ?_ | refine x2 ?_ | refine x3 ?_ | refine x4 ?_ | refine r2 ?_ | refine r3 ?_ | refine r4 ?_
        exact hgo _ (by rw [hst]) hl2 sL s3 s4 s5 ⟨raw, c, sm, by rw [hst]; exact orel⟩ _
      have hlk : ∃ k0 b, aLookup Tryz.prog 160 (.map m) (.int .i64 u.n) true H2 = some (.tuple [.int .i64 k0, .bool b]) ∧ openClash u.n u.args.length es = (b && !(k0 == (u.args.length : Int))) := by
        cases hg : mget u.n es with
        | some k0 =>
          obtain ⟨j, hj, _⟩ := find_some (f := fun n => AV.int .i64 n) es raw 0 orel hg
          refine ⟨k0, true, ?_, by simp only [openClash, hg, Bool.true_and]⟩
          simp only [aLookup, mp_160, sm, ze_3, plainKey, tk_3, if_true, hj]
        | none =>
          have hj := find_none (f := fun n => AV.int .i64 n) es raw 0 orel hg
          refine ⟨0, false, ?_, by simp only [openClash, hg, Bool.false_and]⟩
          simp only [aLookup, mp_160, sm, ze_3, plainKey, tk_3, if_true, hj]
          rfl
      have hup : ∃ raw2 c2, aMapUpdate Tryz.prog 160 (.map m) (.int .i64 u.n) (.int .i64 u.args.length) H2 = some (upd H2 m (some (.map raw2 c2))) ∧ (openClash u.n u.args.length es = false → MapRel (fun n => AV.int .i64 n) (openPut u.n u.args.length es) raw2) := by
        cases hg : mget u.n es with
        | some k0 =>
          obtain ⟨j, hj, hmod⟩ := find_some (f := fun n => AV.int .i64 n) es raw 0 orel hg
          rw [Nat.zero_add] at hj
          refine ⟨_, c, by simp only [aMapUpdate, mp_160, sm, plainKey, tk_3, if_true, hj]; rfl, fun hc => ?_⟩
          simp only [openClash, hg] at hc
          have e : k0 = (u.args.length : Int) := by simpa using hc
          rw [← e]
          simp only [openPut, hg]
          exact hmod
        | none =>
          have hj := find_none (f := fun n => AV.int .i64 n) es raw 0 orel hg
          refine ⟨_, _, by simp only [aMapUpdate, mp_160, sm, plainKey, tk_3, if_true, hj]; rfl, fun hc => ?_⟩
          simp only [openPut, hg]
          exact map_append es raw orel
      obtain ⟨k0, b, hlk, hcl⟩ := hlk
      obtain ⟨raw2, c2, hup, hrel2⟩ := hup
      cases hc : openClash u.n u.args.length es
      case true =>
        have hst : stepOpen pars es u = (false, es) := by simp only [stepOpen, k3, kn, hc]; rfl
        rw [hc] at hcl
        have hb : b = true := by
          cases b
          · simp only [Bool.false_and] at hcl; cases hcl
          · rfl
        subst hb
        have hk : (k0 == (u.args.length : Int)) = false := by simpa using hcl.symm
        try dsimp only
        repeat first | ((first | (with_reducible first | refine sS ?_ | refine sA ?_ | refine sC ?_) | (with_reducible refine iT ?_; refine sT rfl ?_) | (with_reducible refine i0 ?_; refine s0 rfl ?_) | (with_reducible refine iO ?_; refine sO rfl ?_)); intro bC bR bU hC hR hU; simp only [go_sem, ↓reduceIte, f3, f4, f5, sw, s3, s4, s5, k3, kn, hlk, hk]; subst hC hR hU) | (with_reducible refine rN ?_; subst hbq) | (with_reducible refine iR ?_; refine rG (by simp only [compL, gtOf, nthDst]; exact rfl) ?_) | (with_reducible refine rB fun cq hcq => ?_; subst hcq) | (with_reducible refine x1 ?_; clear hbq bq) | (with_reducible refine r1 ?_; clear hbq bq) | (with_reducible refine x5 ?_ ?_; focus rfl) | (with_reducible refine iL ?_; refine rL (by rw [Tryz.results99]) (HLess.refl _) ?_; simp only [go_sem, ↓reduceIte, aPack, Option.some.injEq, exists_eq_left', f3, f4, f5, sw, s3, s4, s5, k3, kn, hlk, hk]) | with_reducible first | refine nS ?_ | refine nD ?_ | refine rS fun bq hbq => ?_ | refine rK ?_ | refine rE ?_ | refine rXx ?_ | refine rR ?_ | refine x2 ?_ | refine x3 ?_ | refine x4 ?_ | refine r2 ?_ | refine r3 ?_ | refine r4 ?_
        exact hstop _ (by rw [hst]) (hl2.new hn0.2.2) ((upd_other _ _ (fun e => d4 e.symm)).trans sL) (upd_same _ _ _) _
      have hrel3 := hrel2 hc
      have hst : stepOpen pars es u = (argsGoP pars [] u.args, openPut u.n u.args.length es) := by simp only [stepOpen, k3, kn, hc]; rfl
      rw [hc] at hcl
      have hkk : b = true → (k0 == (u.args.length : Int)) = true := by
        intro hb; subst hb
        simpa using hcl.symm
      have s3' : upd H2 m (some (.map raw2 c2)) c3 = some (.cells [.int .i64 pars] 3) := (upd_other _ _ d3m).trans s3
      have s4' : upd H2 m (some (.map raw2 c2)) c4 = some (.cells [.bool false] 4) := (upd_other _ _ d4m).trans s4
      have s5' : upd H2 m (some (.map raw2 c2)) c5 = some (.cells [.map m] 160) := (upd_other _ _ d5m).trans s5
      have sL' : upd H2 m (some (.map raw2 c2)) L = some (.loop .busy Option.none Tryz.f99.ntmps τ3 [22] asg bd n3') := (upd_other _ _ (fun e => dm e.symm)).trans sL
      have dwm : w ≠ m := fun e => wm e.symm
      have sw' : upd H2 m (some (.map raw2 c2)) w = some (.cells (cellsT u) 27) := (upd_other _ _ dwm).trans sw
      have sm' : upd H2 m (some (.map raw2 c2)) m = some (.map raw2 c2) := upd_same _ _ _
      have hl3' : HLess (upd H2 m (some (.map raw2 c2))) h0 := hl2.new hn0.2.1
      generalize hH4 : upd H2 m (some (.map raw2 c2)) = H4 at *
      have hulen := length_args u
      cases b
      all_goals
        first
        | have hk : (k0 == (u.args.length : Int)) = true := hkk rfl
        | have hk : True := trivial
        try dsimp only
        repeat first | ((first | (with_reducible first | refine sS ?_ | refine sA ?_ | refine sC ?_) | (with_reducible refine iT ?_; refine sT rfl ?_) | (with_reducible refine i0 ?_; refine s0 rfl ?_) | (with_reducible refine iO ?_; refine sO rfl ?_)); intro bC bR bU hC hR hU; simp only [go_sem, ↓reduceIte, f3, f4, f5, sw, s3, s4, s5, k3, kn, hlk, hup, sw', hk]; subst hC hR hU) | (with_reducible refine rN ?_; subst hbq) | (with_reducible refine iR ?_; refine rG (by simp only [compL, gtOf, nthDst]; exact rfl) ?_) | (with_reducible refine rB fun cq hcq => ?_; subst hcq) | (with_reducible refine x1 ?_; clear hbq bq) | (with_reducible refine r1 ?_; clear hbq bq) | (with_reducible refine x5 ?_ ?_; focus rfl) | (with_reducible refine iL ?_; refine rL (by rw [Tryz.results99]) (HLess.refl _) ?_; simp only [go_sem, ↓reduceIte, aPack, Option.some.injEq, exists_eq_left', f3, f4, f5, sw, s3, s4, s5, k3, kn, hlk, hup, sw', hk]) | with_reducible first | refine nS ?_ | refine nD ?_ | refine rS fun bq hbq => ?_ | refine rK ?_ | refine rE ?_ | refine rXx ?_ | refine rR ?_ | refine x2 ?_ | refine x3 ?_ | refine x4 ?_ | refine r2 ?_ | refine r3 ?_ | refine r4 ?_
        refine run_loop (fun k τ' H5 => ∃ j : Nat, k + j = u.args.length ∧ τ' 3 = .ptr c3 0 ∧ τ' 4 = .ptr c4 0 ∧ τ' 5 = .ptr c5 0 ∧ τ' 8 = .ptr w 0 ∧ τ' 54 = .list 4 (encs u.args) u.args.length .none ∧ τ' 55 = .int .i64 u.args.length ∧ τ' 56 = .int .i64 j ∧ HLess H5 H4 ∧ argsGoP pars (u.args.take j) (u.args.drop j) = argsGoP pars [] u.args) u.args.length ?_ ?_
        · refine ⟨0, rfl, ?_⟩
          simp only [go_sem, ↓reduceIte, f3, f4, f5]
          exact ⟨rfl, HLess.refl _⟩
        · intro cc hcc k τ' H5 hI
          obtain ⟨j, hkj, k3', k4', k5', k8', k54, k55, k56, hl5, hix5⟩ := hI
          subst hcc
          have t3 := hl5 _ _ s3'
          have t4 := hl5 _ _ s4'
          have t5 := hl5 _ _ s5'
          have tL := hl5 _ _ sL'
          have tw := hl5 _ _ sw'
          have tm := hl5 _ _ sm'
          by_cases hj : j < u.args.length
          · obtain ⟨v, hv⟩ : ∃ v, u.args[j]? = some v := ⟨_, List.getElem?_eq_getElem hj⟩
            obtain ⟨r, hr⟩ := encs_at u.args j hv
            have hdrop : u.args.drop j = v :: u.args.drop (j + 1) := by
              rw [List.drop_eq_getElem_cons hj]
              rw [List.getElem?_eq_getElem hj] at hv; injection hv with hv; rw [hv]
            have htk : u.args.take (j + 1) = u.args.take j ++ [v] := by rw [List.take_add_one, hv]; rfl
            rw [hdrop, argsGoP, ← htk] at hix5
            have hsl := slice_take u.args j (by omega)
            try dsimp only
            repeat first | ((first | (with_reducible first | refine sS ?_ | refine sA ?_ | refine sC ?_) | (with_reducible refine iT ?_; refine sT rfl ?_) | (with_reducible refine i0 ?_; refine s0 rfl ?_) | (with_reducible refine iO ?_; refine sO rfl ?_)); intro bC bR bU hC hR hU; simp only [go_sem, ↓reduceIte, k54, k55, k56, hj, hr]; subst hC hR hU) | (with_reducible refine rN ?_; subst hbq) | (with_reducible refine iR ?_; refine rG (by simp only [compL, gtOf, nthDst]; exact rfl) ?_) | (with_reducible refine rB fun cq hcq => ?_; subst hcq) | (with_reducible refine x1 ?_; clear hbq bq) | (with_reducible refine r1 ?_; clear hbq bq) | (with_reducible refine x5 ?_ ?_; focus rfl) | (with_reducible refine iL ?_; refine rL (by rw [Tryz.results99]) (HLess.refl _) ?_; simp only [go_sem, ↓reduceIte, aPack, Option.some.injEq, exists_eq_left', k54, k55, k56, hj, hr]) | with_reducible first | refine nS ?_ | refine nD ?_ | refine rS fun bq hbq => ?_ | refine rK ?_ | refine rE ?_ | refine rXx ?_ | refine rR ?_ | refine x2 ?_ | refine x3 ?_ | refine x4 ?_ | refine r2 ?_ | refine r3 ?_ | refine r4 ?_
            intro w12 hw12
            have x3 := ne_of_new hw12 t3
            have x4 := ne_of_new hw12 t4
            have x5 := ne_of_new hw12 t5
            have xL := ne_of_new hw12 tL
            have xw := ne_of_new hw12 tw
            have hl12 : HLess (upd H5 w12 (some (.cells (cellsT v) 27))) H5 := HLess.one hw12
            have hlall : HLess (upd H5 w12 (some (.cells (cellsT v) 27))) h0 := (hl12.trans hl5).trans hl3'
            try dsimp only
            repeat first | ((first | (with_reducible first | refine sS ?_ | refine sA ?_ | refine sC ?_) | (with_reducible refine iT ?_; refine sT rfl ?_) | (with_reducible refine i0 ?_; refine s0 rfl ?_) | (with_reducible refine iO ?_; refine sO rfl ?_)); intro bC bR bU hC hR hU; simp only [go_sem, ↓reduceIte]; subst hC hR hU) | (with_reducible refine rN ?_; subst hbq) | (with_reducible refine iR ?_; refine rG (by simp only [compL, gtOf, nthDst]; exact rfl) ?_) | (with_reducible refine rB fun cq hcq => ?_; subst hcq) | (with_reducible refine x1 ?_; clear hbq bq) | (with_reducible refine r1 ?_; clear hbq bq) | (with_reducible refine x5 ?_ ?_; focus rfl) | (with_reducible refine iL ?_; refine rL (by rw [Tryz.results99]) (HLess.refl _) ?_; simp only [go_sem, ↓reduceIte, aPack, Option.some.injEq, exists_eq_left']) | with_reducible first | refine nS ?_ | refine nD ?_ | refine rS fun bq hbq => ?_ | refine rK ?_ | refine rE ?_ | refine rXx ?_ | refine rR ?_ | refine x2 ?_ | refine x3 ?_ | refine x4 ?_ | refine r2 ?_ | refine r3 ?_ | refine r4 ?_
            refine isSimple_am v _ _ ?_
            have hst0 : ∀ {b : Bool}, (b && argsGoP pars (u.args.take (j + 1)) (u.args.drop (j + 1))) = argsGoP pars [] u.args → b = false → (stepOpen pars es u).1 = false := by
              intro b h1 h2
              rw [hst, ← h1, h2]; rfl
            have hstop2 := fun (hb : ownElem pars (u.args.take j) v = false) τ' => hstop _ (hst0 hix5 hb) (hlall.new hn0.2.2) ((upd_other _ _ (fun e => d4 e.symm)).trans ((upd_other _ _ xL).trans tL)) (upd_same _ _ _) τ'
            cases hs : isSimpleF v
            · try dsimp only
              repeat first | ((first | (with_reducible first | refine sS ?_ | refine sA ?_ | refine sC ?_) | (with_reducible refine iT ?_; refine sT rfl ?_) | (with_reducible refine i0 ?_; refine s0 rfl ?_) | (with_reducible refine iO ?_; refine sO rfl ?_)); intro bC bR bU hC hR hU; simp only [go_sem, ↓reduceIte, k3', k4', k5', k8', k54, k55, k56, x3, x4, x5, xw, t3, t4, tw, hs]; subst hC hR hU) | (with_reducible refine rN ?_; subst hbq) | (with_reducible refine iR ?_; refine rG (by simp only [compL, gtOf, nthDst]; exact rfl) ?_) | (with_reducible refine rB fun cq hcq => ?_; subst hcq) | (with_reducible refine x1 ?_; clear hbq bq) | (with_reducible refine r1 ?_; clear hbq bq) | (with_reducible refine x5 ?_ ?_; focus rfl) | (with_reducible refine iL ?_; refine rL (by rw [Tryz.results99]) (HLess.refl _) ?_; simp only [go_sem, ↓reduceIte, aPack, Option.some.injEq, exists_eq_left', k3', k4', k5', k8', k54, k55, k56, x3, x4, x5, xw, t3, t4, tw, hs]) | with_reducible first | refine nS ?_ | refine nD ?_ | refine rS fun bq hbq => ?_ | refine rK ?_ | refine rE ?_ | refine rXx ?_ | refine rR ?_ | refine x2 ?_ | refine x3 ?_ | refine x4 ?_ | refine r2 ?_ | refine r3 ?_ | refine r4 ?_
              exact hstop2 (by simp only [ownElem, hs, Bool.false_and]) _
            cases hv3 : (v.kind == 3 && decide (v.n ≥ pars))
            case true =>
              have hv1 := (Bool.and_eq_true_iff.1 hv3).1
              have hv2 := (Bool.and_eq_true_iff.1 hv3).2
              try dsimp only
              repeat first | ((first | (with_reducible first | refine sS ?_ | refine sA ?_ | refine sC ?_) | (with_reducible refine iT ?_; refine sT rfl ?_) | (with_reducible refine i0 ?_; refine s0 rfl ?_) | (with_reducible refine iO ?_; refine sO rfl ?_)); intro bC bR bU hC hR hU; simp only [go_sem, ↓reduceIte, k3', k4', k5', k8', k54, k55, k56, x3, x4, x5, xw, t3, t4, tw, hs, hv1, hv2]; subst hC hR hU) | (with_reducible refine rN ?_; subst hbq) | (with_reducible refine iR ?_; refine rG (by simp only [compL, gtOf, nthDst]; exact rfl) ?_) | (with_reducible refine rB fun cq hcq => ?_; subst hcq) | (with_reducible refine x1 ?_; clear hbq bq) | (with_reducible refine r1 ?_; clear hbq bq) | (with_reducible refine x5 ?_ ?_; focus rfl) | (with_reducible refine iL ?_; refine rL (by rw [Tryz.results99]) (HLess.refl _) ?_; simp only [go_sem, ↓reduceIte, aPack, Option.some.injEq, exists_eq_left', k3', k4', k5', k8', k54, k55, k56, x3, x4, x5, xw, t3, t4, tw, hs, hv1, hv2]) | with_reducible first | refine nS ?_ | refine nD ?_ | refine rS fun bq hbq => ?_ | refine rK ?_ | refine rE ?_ | refine rXx ?_ | refine rR ?_ | refine x2 ?_ | refine x3 ?_ | refine x4 ?_ | refine r2 ?_ | refine r3 ?_ | refine r4 ?_
              exact hstop2 (by simp only [ownElem, hv3, Bool.not_true, Bool.false_and, Bool.and_false]) _
            have hce : ownElem pars (u.args.take j) v = !((u.args.take j).any fun b => isF v b) := by simp only [ownElem, hs, hv3, Bool.not_false, Bool.true_and]
            cases hv1 : (v.kind == 3)
            all_goals
              first
              | have hv2 : decide (v.n ≥ pars) = false := by rw [hv1, Bool.true_and] at hv3; exact hv3
              | have hv2 : True := trivial
              try dsimp only
              repeat first | ((first | (with_reducible first | refine sS ?_ | refine sA ?_ | refine sC ?_) | (with_reducible refine iT ?_; refine sT rfl ?_) | (with_reducible refine i0 ?_; refine s0 rfl ?_) | (with_reducible refine iO ?_; refine sO rfl ?_)); intro bC bR bU hC hR hU; simp only [go_sem, ↓reduceIte, k3', k4', k5', k8', k54, k55, k56, x3, x4, x5, xw, t3, t4, tw, hs, hv1, hv2, hsl]; subst hC hR hU) | (with_reducible refine rN ?_; subst hbq) | (with_reducible refine iR ?_; refine rG (by simp only [compL, gtOf, nthDst]; exact rfl) ?_) | (with_reducible refine rB fun cq hcq => ?_; subst hcq) | (with_reducible refine x1 ?_; clear hbq bq) | (with_reducible refine r1 ?_; clear hbq bq) | (with_reducible refine x5 ?_ ?_; focus rfl) | (with_reducible refine iL ?_; refine rL (by rw [Tryz.results99]) (HLess.refl _) ?_; simp only [go_sem, ↓reduceIte, aPack, Option.some.injEq, exists_eq_left', k3', k4', k5', k8', k54, k55, k56, x3, x4, x5, xw, t3, t4, tw, hs, hv1, hv2, hsl]) | with_reducible first | refine nS ?_ | refine nD ?_ | refine rS fun bq hbq => ?_ | refine rK ?_ | refine rE ?_ | refine rXx ?_ | refine rR ?_ | refine x2 ?_ | refine x3 ?_ | refine x4 ?_ | refine r2 ?_ | refine r3 ?_ | refine r4 ?_
              refine containsFunc_am (u.args.take j) 138 [] [.ptr w12 0] (fun b => isF v b) _ _ (by rw [List.length_take]; omega) (fun i2 b hb _ h6 Q6 hl6 hq6 => same138_am v b h6 w12 (hl6 _ _ (upd_same _ _ _)) Q6 hq6) ?_
              cases hany : (u.args.take j).any fun b => isF v b
              · rw [hce, hany, Bool.not_false, Bool.true_and] at hix5
                try dsimp only
                repeat first | ((first | (with_reducible first | refine sS ?_ | refine sA ?_ | refine sC ?_) | (with_reducible refine iT ?_; refine sT rfl ?_) | (with_reducible refine i0 ?_; refine s0 rfl ?_) | (with_reducible refine iO ?_; refine sO rfl ?_)); intro bC bR bU hC hR hU; simp only [go_sem, ↓reduceIte, k3', k4', k5', k8', k54, k55, k56, x3, x4, x5, xw, t3, t4, tw, hs, hv1, hv2, hany, wrap_in (show -9223372036854775808 ≤ (j : Int) + 1 by omega) (show (j : Int) + 1 ≤ 9223372036854775807 by omega)]; subst hC hR hU) | (with_reducible refine rN ?_; subst hbq) | (with_reducible refine iR ?_; refine rG (by simp only [compL, gtOf, nthDst]; exact rfl) ?_) | (with_reducible refine rB fun cq hcq => ?_; subst hcq) | (with_reducible refine x1 ?_; clear hbq bq) | (with_reducible refine r1 ?_; clear hbq bq) | (with_reducible refine x5 ?_ ?_; focus rfl) | (with_reducible refine iL ?_; refine rL (by rw [Tryz.results99]) (HLess.refl _) ?_; simp only [go_sem, ↓reduceIte, aPack, Option.some.injEq, exists_eq_left', k3', k4', k5', k8', k54, k55, k56, x3, x4, x5, xw, t3, t4, tw, hs, hv1, hv2, hany, wrap_in (show -9223372036854775808 ≤ (j : Int) + 1 by omega) (show (j : Int) + 1 ≤ 9223372036854775807 by omega)]) | with_reducible first | refine nS ?_ | refine nD ?_ | refine rS fun bq hbq => ?_ | refine rK ?_ | refine rE ?_ | refine rXx ?_ | refine rR ?_ | refine x2 ?_ | refine x3 ?_ | refine x4 ?_ | refine r2 ?_ | refine r3 ?_ | refine r4 ?_
                refine run_loopN (m := k - 1) (by omega) ⟨j + 1, by omega, ?_⟩
                simp only [go_sem, ↓reduceIte, k3', k4', k5', k8', k54, k55]
                exact ⟨rfl, hl12.trans hl5, hix5⟩
              · try dsimp only
                repeat first | ((first | (with_reducible first | refine sS ?_ | refine sA ?_ | refine sC ?_) | (with_reducible refine iT ?_; refine sT rfl ?_) | (with_reducible refine i0 ?_; refine s0 rfl ?_) | (with_reducible refine iO ?_; refine sO rfl ?_)); intro bC bR bU hC hR hU; simp only [go_sem, ↓reduceIte, k3', k4', k5', k8', k54, k55, k56, x3, x4, x5, xw, t3, t4, tw, hs, hv1, hv2, hany]; subst hC hR hU) | (with_reducible refine rN ?_; subst hbq) | (with_reducible refine iR ?_; refine rG (by simp only [compL, gtOf, nthDst]; exact rfl) ?_) | (with_reducible refine rB fun cq hcq => ?_; subst hcq) | (with_reducible refine x1 ?_; clear hbq bq) | (with_reducible refine r1 ?_; clear hbq bq) | (with_reducible refine x5 ?_ ?_; focus rfl) | (with_reducible refine iL ?_; refine rL (by rw [Tryz.results99]) (HLess.refl _) ?_; simp only [go_sem, ↓reduceIte, aPack, Option.some.injEq, exists_eq_left', k3', k4', k5', k8', k54, k55, k56, x3, x4, x5, xw, t3, t4, tw, hs, hv1, hv2, hany]) | with_reducible first | refine nS ?_ | refine nD ?_ | refine rS fun bq hbq => ?_ | refine rK ?_ | refine rE ?_ | refine rXx ?_ | refine rR ?_ | refine x2 ?_ | refine x3 ?_ | refine x4 ?_ | refine r2 ?_ | refine r3 ?_ | refine r4 ?_
                exact hstop2 (by rw [hce, hany]; rfl) _
          · rw [List.drop_eq_nil_of_le (by omega), argsGoP] at hix5
            try dsimp only
            repeat first | ((first | (with_reducible first | refine sS ?_ | refine sA ?_ | refine sC ?_) | (with_reducible refine iT ?_; refine sT rfl ?_) | (with_reducible refine i0 ?_; refine s0 rfl ?_) | (with_reducible refine iO ?_; refine sO rfl ?_)); intro bC bR bU hC hR hU; simp only [go_sem, ↓reduceIte, k55, k56, hj]; subst hC hR hU) | (with_reducible refine rN ?_; subst hbq) | (with_reducible refine iR ?_; refine rG (by simp only [compL, gtOf, nthDst]; exact rfl) ?_) | (with_reducible refine rB fun cq hcq => ?_; subst hcq) | (with_reducible refine x1 ?_; clear hbq bq) | (with_reducible refine r1 ?_; clear hbq bq) | (with_reducible refine x5 ?_ ?_; focus rfl) | (with_reducible refine iL ?_; refine rL (by rw [Tryz.results99]) (HLess.refl _) ?_; simp only [go_sem, ↓reduceIte, aPack, Option.some.injEq, exists_eq_left', k55, k56, hj]) | with_reducible first | refine nS ?_ | refine nD ?_ | refine rS fun bq hbq => ?_ | refine rK ?_ | refine rE ?_ | refine rXx ?_ | refine rR ?_ | refine x2 ?_ | refine x3 ?_ | refine x4 ?_ | refine r2 ?_ | refine r3 ?_ | refine r4 ?_
            exact hgo _ (by rw [hst]; exact hix5.symm) (hl5.trans hl3') tL t3 t4 t5 ⟨raw2, c2, tm, by rw [hst]; exact hrel3⟩ _
    have R : Rounds L [L, m, c3, c4, c5] Own End (stepOpen pars) (fun u => u.size ≤ 1000000000) := by
      refine ⟨fun es H H' hO hl => ?_, fun es H j hO hj => ?_, fun t i u ht hu => ?_, hround⟩
      · obtain ⟨oL, o3, o4, o5, raw, c, om, orel⟩ := hO
        exact ⟨hl _ _ oL, hl _ _ o3, hl _ _ o4, hl _ _ o5, raw, c, hl _ _ om, orel⟩
      · obtain ⟨oL, o3, o4, o5, raw, c, om, orel⟩ := hO
        simp only [List.mem_cons, List.not_mem_nil, or_false] at hj
        rcases hj with rfl | rfl | rfl | rfl | rfl
        · rw [oL]; simp
        · rw [om]; simp
        · rw [o3]; simp
        · rw [o4]; simp
        · rw [o5]; simp
      · have := size_arg t i hu; omega
    have hH0 : ∀ j o, h3 j = some o → j ∉ [L, m, c3, c4, c5] → cutH [L, m, c3, c4, c5] (upd (upd h3 n3' (some .defs)) L (some (.loop .ready Option.none Tryz.f99.ntmps τ3 [22] asg bd n3'))) j = some o := by
      intro j o hj hn
      have e1 : j ≠ L := by intro e; rw [e, fL] at hj; cases hj
      have e2 : j ≠ n3' := by intro e; rw [e, fD] at hj; cases hj
      rw [cutH_at hn, upd_other _ _ e1, upd_other _ _ e2]; exact hj
    have n8 : c8 ∉ [L, m, c3, c4, c5] := by
      simp only [List.mem_cons, List.not_mem_nil, or_false]
      rintro (e | e | e | e | e)
      · rw [e, fL] at m8; cases m8
      · rw [e, mm] at h8; cases h8
      · rw [e, m3] at h8; cases h8
      · rw [e, m4] at h8; cases h8
      · rw [e, m5] at h8; cases h8
    have nD : n3' ∉ [L, m, c3, c4, c5] := by
      simp only [List.mem_cons, List.not_mem_nil, or_false]
      rintro (e | e | e | e | e)
      · exact hDL e
      · rw [e, gm] at fD; cases fD
      · rw [e, g3] at fD; cases fD
      · rw [e, g4] at fD; cases fD
      · rw [e, g5] at fD; cases fD
    have hLn : ∀ {j : Nat} {o : AObj}, h3 j = some o → j ≠ L := by intro j o hj e; rw [e, fL] at hj; cases hj
    have hDn : ∀ {j : Nat} {o : AObj}, h3 j = some o → j ≠ n3' := by intro j o hj e; rw [e, fD] at hj; cases hj
    have hbase : HLess (cutH [L, m, c3, c4, c5] (upd (upd h3 n3' (some .defs)) L (some (.loop .ready Option.none Tryz.f99.ntmps τ3 [22] asg bd n3')))) h := by
      intro j o hj
      have h3j := hl3 _ _ (hls _ _ hj)
      refine hH0 j o h3j ?_
      simp only [List.mem_cons, List.not_mem_nil, or_false]
      rintro (e | e | e | e | e)
      · rw [e, fL] at h3j; cases h3j
      · rw [e, nm] at hj; cases hj
      · rw [e, n3] at hj; cases hj
      · rw [e, n4] at hj; cases hj
      · rw [e, n5] at hj; cases hj
    have hks3 : ∀ k ∈ ks, cutH [L, m, c3, c4, c5] (upd (upd h3 n3' (some .defs)) L (some (.loop .ready Option.none Tryz.f99.ntmps τ3 [22] asg bd n3'))) k = some .defs := by
      intro k hk
      have h3k := hl3 _ _ (hks k hk).1
      refine hH0 k _ h3k ?_
      simp only [List.mem_cons, List.not_mem_nil, or_false]
      rintro (e | e | e | e | e)
      · rw [e, fL] at h3k; cases h3k
      · rw [e, gm] at h3k; cases h3k
      · rw [e, g3] at h3k; cases h3k
      · rw [e, g4] at h3k; cases h3k
      · rw [e, g5] at h3k; cases h3k
    have hDk : n3' ∉ ks := fun hk => by have := hl3 _ _ (hks _ hk).1; rw [fD] at this; cases this
    have hhD : h n3' = Option.none := (hl3.trans hls).none fD
    have hhL : h L = Option.none := (hl3.trans hls).none fL
    have cD : cutH [L, m, c3, c4, c5] (upd (upd h3 n3' (some .defs)) L (some (.loop .ready Option.none Tryz.f99.ntmps τ3 [22] asg bd n3'))) n3' = some .defs := by rw [cutH_at nD, upd_other _ _ hDL, upd_same]
    have call := heads133_am R (cutH [L, m, c3, c4, c5] (upd (upd h3 n3' (some .defs)) L (some (.loop .ready Option.none Tryz.f99.ntmps τ3 [22] asg bd n3')))) (fun j hj => cutH_ex hj) t es c8 (upd (upd h3 n3' (some .defs)) L (some (.loop .ready Option.none Tryz.f99.ntmps τ3 [22] asg bd n3')))
      (fun o h' => o = .ret (.tuple []) ∧ HLess h' (cutH [L, m, c3, c4, c5] (upd (upd h3 n3' (some .defs)) L (some (.loop .ready Option.none Tryz.f99.ntmps τ3 [22] asg bd n3')))) ∧ (((eachF (stepOpen pars) t es).1 = true ∧ Own (eachF (stepOpen pars) t es).2 h') ∨ ((eachF (stepOpen pars) t es).1 = false ∧ End h')))
      htsz htsz (by rw [upd_other _ _ (hLn m8), upd_other _ _ (hDn m8)]; exact m8)
      ⟨upd_same _ _ _, by rw [upd_other _ _ (hLn g3), upd_other _ _ (hDn g3)]; exact g3, by rw [upd_other _ _ (hLn g4), upd_other _ _ (hDn g4)]; exact g4, by rw [upd_other _ _ (hLn g5), upd_other _ _ (hDn g5)]; exact g5, raw, c, by rw [upd_other _ _ (hLn gm), upd_other _ _ (hDn gm)]; exact gm, hrel⟩
      (cutH_less _ _) (fun h1 h2 hO hl => ⟨rfl, hl, .inl ⟨h1, hO⟩⟩) (fun h1 h2 hE hl => ⟨rfl, hl, .inr ⟨h1, hE⟩⟩)
    refine (call (n3' + 2)).mono fun o h4 n4' hq4 => ?_
    obtain ⟨rfl, hl4, hcase⟩ := hq4
    have hless4 : HLess (upd h4 L Option.none) h := by
      intro j o hj
      have : j ≠ L := by intro e; rw [e, hhL] at hj; cases hj
      rw [upd_other _ _ this]; exact hl4 _ _ (hbase _ _ hj)
    have hkk : ∀ k ∈ n3' :: ks, upd h4 L Option.none k = some .defs ∧ h k = Option.none := by
      intro k hk
      rcases List.mem_cons.1 hk with rfl | hk
      · exact ⟨by rw [upd_other _ _ hDL]; exact hl4 _ _ cD, hhD⟩
      · have e : k ≠ L := by intro e; rw [e] at hk; have := hl3 _ _ (hks _ hk).1; rw [fL] at this; cases this
        exact ⟨by rw [upd_other _ _ e]; exact hl4 _ _ (hks3 k hk), (hks k hk).2⟩
    have hnd' : (n3' :: ks).Nodup := List.nodup_cons.2 ⟨hDk, hnd⟩
    have e3 := hLn g3
    have e4 := hLn g4
    have e5 := hLn g5
    have em := hLn gm
    rcases hcase with ⟨h1, oL, o3, o4, o5, raw', c', om, orel⟩ | ⟨h1, oL, o4⟩
    · rw [h1, Bool.true_and] at hix
      refine ⟨.ready, Option.none, _, _, _, _, _, _, by rw [← hLdef]; exact oL, by decide, ?_⟩
      show NSem Tryz.prog _ _ _ _
      refine NSem.lastN (fun τ' h2 => h2 = upd h4 L Option.none ∧ τ' 3 = .ptr c3 0 ∧ τ' 4 = .ptr c4 0 ∧ τ' 5 = .ptr c5 0 ∧ τ' 14 = .list 4 (encs l) l.length .none ∧ τ' 15 = .int .i64 l.length ∧ τ' 16 = .int .i64 (i + 1 : Nat)) ?_ fun τ' h2 n2' hI => ?_
      · rw [← hLdef]
        try dsimp only
        repeat first | ((first | (with_reducible first | refine sS ?_ | refine sA ?_ | refine sC ?_) | (with_reducible refine iT ?_; refine sT rfl ?_) | (with_reducible refine i0 ?_; refine s0 rfl ?_) | (with_reducible refine iO ?_; refine sO rfl ?_)); intro bC bR bU hC hR hU; simp only [go_sem, ↓reduceIte, f16, wrap_in (show -9223372036854775808 ≤ (i : Int) + 1 by omega) (show (i : Int) + 1 ≤ 9223372036854775807 by omega)]; subst hC hR hU) | (with_reducible refine rN ?_; subst hbq) | (with_reducible refine iR ?_; refine rG (by simp only [compL, gtOf, nthDst]; exact rfl) ?_) | (with_reducible refine rB fun cq hcq => ?_; subst hcq) | (with_reducible refine x1 ?_; clear hbq bq) | (with_reducible refine r1 ?_; clear hbq bq) | (with_reducible refine x5 ?_ ?_; focus rfl) | (with_reducible refine iL ?_; refine rL (by rw [Tryz.results99]) (HLess.refl _) ?_; simp only [go_sem, ↓reduceIte, aPack, Option.some.injEq, exists_eq_left', f16, wrap_in (show -9223372036854775808 ≤ (i : Int) + 1 by omega) (show (i : Int) + 1 ≤ 9223372036854775807 by omega)]) | with_reducible first | refine nS ?_ | refine nD ?_ | refine rS fun bq hbq => ?_ | refine rK ?_ | refine rE ?_ | refine rXx ?_ | refine rR ?_ | refine x2 ?_ | refine x3 ?_ | refine x4 ?_ | refine r2 ?_ | refine r3 ?_ | refine r4 ?_
        refine only_end ⟨rfl, ?_⟩
        simp only [go_sem, ↓reduceIte, f3, f4, f5, f14, f15]
        rfl
      · obtain ⟨rfl, k3, k4, k5, k14, k15, k16⟩ := hI
        exact ⟨k - 1, by omega, i + 1, _, n3' :: ks, by omega, hix, rfl, rfl, hnd', hkk, k3, k4, k5, k14, k15, k16, hless4, (upd_other _ _ e3).trans o3, (upd_other _ _ e4).trans o4, (upd_other _ _ e5).trans o5, raw', c', (upd_other _ _ em).trans om, orel⟩
    · rw [h1, Bool.false_and] at hix
      rw [← hix] at hq
      refine ⟨.done, some .ret, _, _, _, _, _, _, by rw [← hLdef]; exact oL, by decide, rfl, .ret ?_⟩
      rw [← hLdef]
      exact leave_colls hq (n3' :: ks) _ hnd' hkk f4 (by show upd _ _ _ _ = _; rw [upd_other _ _ e4]; exact o4) hless4
  · refine .seq (.condF (by show AV.bool (decide (i < l.length)) = _; rw [decide_eq_false hi]) (.exit ?_))
    show seqKN _ _ (.exit 0) _
    have hq2 : Q (.ret (.bool true)) h := by
      rw [List.drop_eq_nil_of_le (by omega), openL] at hix
      rw [← hix] at hq; exact hq
    show NSem Tryz.prog _ _ _ _
    refine NSem.seqN (fun τ' h2 => τ' 4 = .ptr c4 0 ∧ h2 = upd h' c4 (some (.cells [.bool true] 4))) ?_ fun τ2 h2 n2' hI => .ret ?_
    · try dsimp only
      repeat first | ((first | (with_reducible first | refine sS ?_ | refine sA ?_ | refine sC ?_) | (with_reducible refine iT ?_; refine sT rfl ?_) | (with_reducible refine i0 ?_; refine s0 rfl ?_) | (with_reducible refine iO ?_; refine sO rfl ?_)); intro bC bR bU hC hR hU; simp only [go_sem, ↓reduceIte, f4, m4]; subst hC hR hU) | (with_reducible refine rN ?_; subst hbq) | (with_reducible refine iR ?_; refine rG (by simp only [compL, gtOf, nthDst]; exact rfl) ?_) | (with_reducible refine rB fun cq hcq => ?_; subst hcq) | (with_reducible refine x1 ?_; clear hbq bq) | (with_reducible refine r1 ?_; clear hbq bq) | (with_reducible refine x5 ?_ ?_; focus rfl) | (with_reducible refine iL ?_; refine rL (by rw [Tryz.results99]) (HLess.refl _) ?_; simp only [go_sem, ↓reduceIte, aPack, Option.some.injEq, exists_eq_left', f4, m4]) | with_reducible first | refine nS ?_ | refine nD ?_ | refine rS fun bq hbq => ?_ | refine rK ?_ | refine rE ?_ | refine rXx ?_ | refine rR ?_ | refine x2 ?_ | refine x3 ?_ | refine x4 ?_ | refine r2 ?_ | refine r3 ?_ | refine r4 ?_
      refine only_end ?_
      simp only [go_sem, ↓reduceIte, f4]
    · obtain ⟨g4, rfl⟩ := hI
      have hck : ∀ k ∈ ks, k ≠ c4 := fun k hk e => by have := (hks k hk).1; rw [e, m4] at this; cases this
      exact leave_colls hq2 ks _ hnd (fun k hk => ⟨by show upd _ _ _ _ = _; rw [upd_other _ _ (hck k hk)]; exact (hks k hk).1, (hks k hk).2⟩) g4 (upd_same _ _ _) (hls.new n4)
/- unify.Instance. -/


theorem AmCalls.freeze {f : FuncId} {a : AV} {p z n : Nat} {cs : List AV} {T : TypeId} {h : AHeap} {Q : AOut → AHeap → Prop} (hp : h p = some (.cells cs T)) (hl : cs.length = n * z) (hf : cs.all AV.flat = true)
    (k : AmCalls Tryz.prog f [a, .list z cs n .none] (upd h p Option.none) Q) : AmCalls Tryz.prog f [a, .sl p 0 n] h Q := by
  intro n0
  refine ⟨(k n0).1, fun F m G W vargs hF hr s hn r => ?_⟩
  obtain ⟨G', e, s', hL⟩ := freeze_sim s hp hl hf (h' := upd h p Option.none) (LeH.of (fun i o hi => by
    by_cases e : i = p
    · subst e; rw [upd_same] at hi; cases hi
    · rw [upd_other _ _ e] at hi; exact hi) (upd_same _ _ _))
  have r2 := RelL.mono e _ _ r
  have r' : RelL G' W [a, .list z cs n .none] vargs.toList := by
    simp only [RelL] at r2 ⊢
    obtain ⟨v, q, hv, h1, v2, q2, hv2, h2, h3⟩ := r2
    exact ⟨v, q, hv, h1, v2, q2, hv2, hL v2 h2, h3⟩
  refine ((k G'.n).2 F m G' W vargs hF hr s' rfl r').mono fun e' W' ⟨o, h', G2, q, s2, ev, ro⟩ => ⟨o, h', G2, q, s2, e.trans ev, ro⟩
theorem build24_0 : aBuild Tryz.prog 24 [] = some store0 := by
  simp only [aBuild, ze_24, pl_24, aFill]
  rfl
theorem build142 (pars : Int) (m : Nat) : aBuild Tryz.prog 142 [(0, .int .i64 pars), (1, .map m)] = some (.agg [.int .i64 pars, .map m]) := by
  simp only [aBuild, ze_142, pl_142, aFill]
  rfl
theorem fitErrs_small : ∀ (l : List Term), fitErrs l = 0 → ∀ t ∈ l, t.size ≤ 4000 ∧ fits0F t 0 = true
  | [], _, t, ht => absurd ht (List.not_mem_nil)
  | u :: l, h, t, ht => by
    rw [fitErrs] at h
    split at h
    · rename_i hu
      rcases List.mem_cons.1 ht with rfl | ht
      · unfold fitErr at hu
        split at hu
        · rename_i hs
          refine ⟨sized_small t hs, ?_⟩
          cases hf : fits0F t 0
          · rw [hf] at hu; exact absurd hu (by decide)
          · rfl
        · rename_i hs; exact absurd hu hs
      · exact fitErrs_small l h t ht
    · rename_i hu; rw [h] at hu; exact absurd rfl hu
def badF (pars : Int) (l m : List Term) : Bool := decide (pars < 0) || (decide (pars > 60) || (!((l.length : Int) == m.length) || decide ((l.length : Int) > 40)))
def instF (pars : Int) (l m : List Term) : Bool × Int :=
  if badF pars l m then (false, 1) else if !(fitErrs (l ++ m) == 0) then (false, fitErrs (l ++ m)) else if !openL pars l [] then (false, 6) else ((matchL pars l m []).1, 0)
theorem instance_am (pars : Int) (l m : List Term) (h : AHeap) (Q : AOut → AHeap → Prop) (hl : l.length ≤ 1000000000) (hm : m.length ≤ 1000000000) (hq : Q (.ret (.tuple [.bool (instF pars l m).1, .int .i64 (instF pars l m).2])) h) :
    AmCalls Tryz.prog 47 [.int .i64 pars, .list 4 (encs l) l.length .none, .list 4 (encs m) m.length .none] h Q := by
  refine AmCalls.of_sem (fn := Tryz.f47) Tryz.func47 rfl (by kernel_rfl) (by rw [Tryz.ntmps47]; simp) (enters_of Tryz.func47 (by kernel_rfl) (by kernel_rfl)) ?_
  repeat with_reducible refine run_seq fun bq hbq => ?_
  refine run_region (by simp only [compL, gtOf, nthDst]; exact rfl) ?_
  try dsimp only
  repeat first | ((first | (with_reducible first | refine sS ?_ | refine sA ?_) | (with_reducible refine iT ?_; refine sT rfl ?_) | (with_reducible refine i0 ?_; refine s0 rfl ?_) | (with_reducible refine iO ?_; refine sO rfl ?_)); intro bC bR bU hC hR hU; simp only [go_sem, ↓reduceIte]; subst hC hR hU) | with_reducible first | refine nS ?_ | refine nD ?_
  refine run_next ?_; subst hbq
  repeat with_reducible refine run_seq fun bq hbq => ?_
  refine run_cutS (fun τ h' => τ 0 = .int .i64 pars ∧ τ 1 = .list 4 (encs l) l.length .none ∧ τ 2 = .list 4 (encs m) m.length .none ∧ τ 27 = .bool (badF pars l m) ∧ h' = h) ?_ fun τ h' hI => ?_
  · cases b1 : decide (pars < 0) <;> cases b2 : decide (pars > 60) <;> cases b3 : ((l.length : Int) == m.length)
    all_goals
      try dsimp only
      repeat first | ((first | (with_reducible first | refine sS ?_ | refine sA ?_ | refine sC ?_) | (with_reducible refine iT ?_; refine sT rfl ?_) | (with_reducible refine i0 ?_; refine s0 rfl ?_) | (with_reducible refine iO ?_; refine sO rfl ?_)); intro bC bR bU hC hR hU; simp only [go_sem, ↓reduceIte, b1, b2, b3]; subst hC hR hU) | (with_reducible refine rN ?_; subst hbq) | (with_reducible refine iR ?_; refine rG (by simp only [compL, gtOf, nthDst]; exact rfl) ?_) | (with_reducible refine rB fun cq hcq => ?_; subst hcq) | (with_reducible refine x1 ?_; clear hbq bq) | (with_reducible refine r1 ?_; clear hbq bq) | (with_reducible refine x5 ?_ ?_; focus rfl) | (with_reducible refine iL ?_; refine rL (by rw [Tryz.results47]) (HLess.refl _) ?_; simp only [go_sem, ↓reduceIte, aPack, Option.some.injEq, exists_eq_left', b1, b2, b3]) | with_reducible first | refine nS ?_ | refine nD ?_ | refine rS fun bq hbq => ?_ | refine rK ?_ | refine rE ?_ | refine rXx ?_ | refine rR ?_ | refine x2 ?_ | refine x3 ?_ | refine x4 ?_ | refine r2 ?_ | refine r3 ?_ | refine r4 ?_
      refine run_endcut ?_
      simp only [go_sem, ↓reduceIte, badF, b1, b2, b3]
  obtain ⟨f0, f1, f2, f27, hh⟩ := hI
  rw [hh]; clear hh h'
  subst hbq
  cases hb : badF pars l m
  case true =>
    rw [hb] at f27
    try dsimp only
    repeat first | ((first | (with_reducible first | refine sS ?_ | refine sA ?_ | refine sC ?_) | (with_reducible refine iT ?_; refine sT rfl ?_) | (with_reducible refine i0 ?_; refine s0 rfl ?_) | (with_reducible refine iO ?_; refine sO rfl ?_)); intro bC bR bU hC hR hU; simp only [go_sem, ↓reduceIte, f27]; subst hC hR hU) | (with_reducible refine rN ?_; subst hbq) | (with_reducible refine iR ?_; refine rG (by simp only [compL, gtOf, nthDst]; exact rfl) ?_) | (with_reducible refine rB fun cq hcq => ?_; subst hcq) | (with_reducible refine x1 ?_; clear hbq bq) | (with_reducible refine r1 ?_; clear hbq bq) | (with_reducible refine x5 ?_ ?_; focus rfl) | (with_reducible refine iL ?_; refine rL (by rw [Tryz.results47]) (HLess.refl _) ?_; simp only [go_sem, ↓reduceIte, aPack, Option.some.injEq, exists_eq_left', f27]) | with_reducible first | refine nS ?_ | refine nD ?_ | refine rS fun bq hbq => ?_ | refine rK ?_ | refine rE ?_ | refine rXx ?_ | refine rR ?_ | refine x2 ?_ | refine x3 ?_ | refine x4 ?_ | refine r2 ?_ | refine r3 ?_ | refine r4 ?_
    exact ret_as (by simp only [instF, hb]; rfl) hq
  rw [hb] at f27
  have hlm : l.length = m.length := by
    simp only [badF, Bool.or_eq_false_iff, Bool.not_eq_false', beq_iff_eq] at hb
    omega
  have h40 : l.length ≤ 40 := by
    simp only [badF, Bool.or_eq_false_iff, Bool.not_eq_false', beq_iff_eq, decide_eq_false_iff_not] at hb
    omega
  refine run_condF (by simp only [go_sem, ↓reduceIte, f27]) ?_
  refine run_skip ?_
  refine run_next ?_; subst hbq
  repeat with_reducible refine run_seq fun bq hbq => ?_
  refine run_cutS (fun τ h' => τ 0 = .int .i64 pars ∧ τ 1 = .list 4 (encs l) l.length .none ∧ τ 2 = .list 4 (encs m) m.length .none ∧ τ 8 = .int .i64 (fitErrs (l ++ m)) ∧ HLess h' h) ?_ fun τ h' hI => ?_
  · try dsimp only
    repeat first | ((first | (with_reducible first | refine sS ?_ | refine sA ?_ | refine sC ?_) | (with_reducible refine iT ?_; refine sT rfl ?_) | (with_reducible refine i0 ?_; refine s0 rfl ?_) | (with_reducible refine iO ?_; refine sO rfl ?_)); intro bC bR bU hC hR hU; simp only [go_sem, ↓reduceIte, f1, build24_0]; subst hC hR hU) | (with_reducible refine rN ?_; subst hbq) | (with_reducible refine iR ?_; refine rG (by simp only [compL, gtOf, nthDst]; exact rfl) ?_) | (with_reducible refine rB fun cq hcq => ?_; subst hcq) | (with_reducible refine x1 ?_; clear hbq bq) | (with_reducible refine r1 ?_; clear hbq bq) | (with_reducible refine x5 ?_ ?_; focus rfl) | (with_reducible refine iL ?_; refine rL (by rw [Tryz.results47]) (HLess.refl _) ?_; simp only [go_sem, ↓reduceIte, aPack, Option.some.injEq, exists_eq_left', f1, build24_0]) | with_reducible first | refine nS ?_ | refine nD ?_ | refine rS fun bq hbq => ?_ | refine rK ?_ | refine rE ?_ | refine rXx ?_ | refine rR ?_ | refine x2 ?_ | refine x3 ?_ | refine x4 ?_ | refine r2 ?_ | refine r3 ?_ | refine r4 ?_
    refine clone98_am l _ _ hl (fun he => ?_) (fun he p hp => ?_)
    · have hme : m = [] := List.eq_nil_of_length_eq_zero (by rw [← hlm, he]; rfl)
      subst he; subst hme
      try dsimp only
      repeat first | ((first | (with_reducible first | refine sS ?_ | refine sA ?_ | refine sC ?_) | (with_reducible refine iT ?_; refine sT rfl ?_) | (with_reducible refine i0 ?_; refine s0 rfl ?_) | (with_reducible refine iO ?_; refine sO rfl ?_)); intro bC bR bU hC hR hU; simp only [go_sem, ↓reduceIte, f1, f2]; subst hC hR hU) | (with_reducible refine rN ?_; subst hbq) | (with_reducible refine iR ?_; refine rG (by simp only [compL, gtOf, nthDst]; exact rfl) ?_) | (with_reducible refine rB fun cq hcq => ?_; subst hcq) | (with_reducible refine x1 ?_; clear hbq bq) | (with_reducible refine r1 ?_; clear hbq bq) | (with_reducible refine x5 ?_ ?_; focus rfl) | (with_reducible refine iL ?_; refine rL (by rw [Tryz.results47]) (HLess.refl _) ?_; simp only [go_sem, ↓reduceIte, aPack, Option.some.injEq, exists_eq_left', f1, f2]) | with_reducible first | refine nS ?_ | refine nD ?_ | refine rS fun bq hbq => ?_ | refine rK ?_ | refine rE ?_ | refine rXx ?_ | refine rR ?_ | refine x2 ?_ | refine x3 ?_ | refine x4 ?_ | refine r2 ?_ | refine r3 ?_ | refine r4 ?_
      refine cAppend_list ?_
      simp only [go_sem, ↓reduceIte, encs_nil, f2]
      intro q hq'
      rw [append_idle el_25 el_25 sz_27 by_27 ze_27 ⟨rfl, by decide⟩ (.inl rfl) (.inl rfl) (by decide)]
      simp only [go_sem, ↓reduceIte]
      try dsimp only
      repeat first | ((first | (with_reducible first | refine sS ?_ | refine sA ?_ | refine sC ?_) | (with_reducible refine iT ?_; refine sT rfl ?_) | (with_reducible refine i0 ?_; refine s0 rfl ?_) | (with_reducible refine iO ?_; refine sO rfl ?_)); intro bC bR bU hC hR hU; simp only [go_sem, ↓reduceIte, f1, f2]; subst hC hR hU) | (with_reducible refine rN ?_; subst hbq) | (with_reducible refine iR ?_; refine rG (by simp only [compL, gtOf, nthDst]; exact rfl) ?_) | (with_reducible refine rB fun cq hcq => ?_; subst hcq) | (with_reducible refine x1 ?_; clear hbq bq) | (with_reducible refine r1 ?_; clear hbq bq) | (with_reducible refine x5 ?_ ?_; focus rfl) | (with_reducible refine iL ?_; refine rL (by rw [Tryz.results47]) (HLess.refl _) ?_; simp only [go_sem, ↓reduceIte, aPack, Option.some.injEq, exists_eq_left', f1, f2]) | with_reducible first | refine nS ?_ | refine nD ?_ | refine rS fun bq hbq => ?_ | refine rK ?_ | refine rE ?_ | refine rXx ?_ | refine rR ?_ | refine x2 ?_ | refine x3 ?_ | refine x4 ?_ | refine r2 ?_ | refine r3 ?_ | refine r4 ?_
      refine AmCalls.args (args' := [store0, .list 4 (encs []) ([] : List Term).length .none]) (.cons (LeAV.refl _) (.cons ?_ .nil)) (fitting_am [] _ _ (by decide) ?_)
      · rw [encs_nil]; exact LeAV.list _ _ _ _
      · try dsimp only
        repeat first | ((first | (with_reducible first | refine sS ?_ | refine sA ?_ | refine sC ?_) | (with_reducible refine iT ?_; refine sT rfl ?_) | (with_reducible refine i0 ?_; refine s0 rfl ?_) | (with_reducible refine iO ?_; refine sO rfl ?_)); intro bC bR bU hC hR hU; simp only [go_sem, ↓reduceIte, f1, f2]; subst hC hR hU) | (with_reducible refine rN ?_; subst hbq) | (with_reducible refine iR ?_; refine rG (by simp only [compL, gtOf, nthDst]; exact rfl) ?_) | (with_reducible refine rB fun cq hcq => ?_; subst hcq) | (with_reducible refine x1 ?_; clear hbq bq) | (with_reducible refine r1 ?_; clear hbq bq) | (with_reducible refine x5 ?_ ?_; focus rfl) | (with_reducible refine iL ?_; refine rL (by rw [Tryz.results47]) (HLess.refl _) ?_; simp only [go_sem, ↓reduceIte, aPack, Option.some.injEq, exists_eq_left', f1, f2]) | with_reducible first | refine nS ?_ | refine nD ?_ | refine rS fun bq hbq => ?_ | refine rK ?_ | refine rE ?_ | refine rXx ?_ | refine rR ?_ | refine x2 ?_ | refine x3 ?_ | refine x4 ?_ | refine r2 ?_ | refine r3 ?_ | refine r4 ?_
        refine run_endcut ?_
        simp only [go_sem, ↓reduceIte, f0, f1, f2, encs_nil]
        first
        | exact HLess.refl _
        | exact ⟨rfl, HLess.refl _⟩
    · have hmne : m.length ≠ 0 := fun e => he (List.eq_nil_of_length_eq_zero (by omega))
      try dsimp only
      repeat first | ((first | (with_reducible first | refine sS ?_ | refine sA ?_ | refine sC ?_) | (with_reducible refine iT ?_; refine sT rfl ?_) | (with_reducible refine i0 ?_; refine s0 rfl ?_) | (with_reducible refine iO ?_; refine sO rfl ?_)); intro bC bR bU hC hR hU; simp only [go_sem, ↓reduceIte, f1, f2]; subst hC hR hU) | (with_reducible refine rN ?_; subst hbq) | (with_reducible refine iR ?_; refine rG (by simp only [compL, gtOf, nthDst]; exact rfl) ?_) | (with_reducible refine rB fun cq hcq => ?_; subst hcq) | (with_reducible refine x1 ?_; clear hbq bq) | (with_reducible refine r1 ?_; clear hbq bq) | (with_reducible refine x5 ?_ ?_; focus rfl) | (with_reducible refine iL ?_; refine rL (by rw [Tryz.results47]) (HLess.refl _) ?_; simp only [go_sem, ↓reduceIte, aPack, Option.some.injEq, exists_eq_left', f1, f2]) | with_reducible first | refine nS ?_ | refine nD ?_ | refine rS fun bq hbq => ?_ | refine rK ?_ | refine rE ?_ | refine rXx ?_ | refine rR ?_ | refine x2 ?_ | refine x3 ?_ | refine x4 ?_ | refine r2 ?_ | refine r3 ?_ | refine r4 ?_
      refine cAppend_own ?_
      simp only [go_sem, ↓reduceIte, cOwnStep, f2]
      intro q hq'
      have e := fresh_if hq'
      rw [own_more el_25 el_25 sz_27 by_27 ze_27 ⟨rfl, by decide⟩ (k := p) (cs := encs l) (n1 := l.length) (upd_same _ _ _) (encs_length l) rfl hmne (by omega)]
      simp only [go_sem, ↓reduceIte]
      try dsimp only
      repeat first | ((first | (with_reducible first | refine sS ?_ | refine sA ?_ | refine sC ?_) | (with_reducible refine iT ?_; refine sT rfl ?_) | (with_reducible refine i0 ?_; refine s0 rfl ?_) | (with_reducible refine iO ?_; refine sO rfl ?_)); intro bC bR bU hC hR hU; simp only [go_sem, ↓reduceIte, f1, f2]; subst hC hR hU) | (with_reducible refine rN ?_; subst hbq) | (with_reducible refine iR ?_; refine rG (by simp only [compL, gtOf, nthDst]; exact rfl) ?_) | (with_reducible refine rB fun cq hcq => ?_; subst hcq) | (with_reducible refine x1 ?_; clear hbq bq) | (with_reducible refine r1 ?_; clear hbq bq) | (with_reducible refine x5 ?_ ?_; focus rfl) | (with_reducible refine iL ?_; refine rL (by rw [Tryz.results47]) (HLess.refl _) ?_; simp only [go_sem, ↓reduceIte, aPack, Option.some.injEq, exists_eq_left', f1, f2]) | with_reducible first | refine nS ?_ | refine nD ?_ | refine rS fun bq hbq => ?_ | refine rK ?_ | refine rE ?_ | refine rXx ?_ | refine rR ?_ | refine x2 ?_ | refine x3 ?_ | refine x4 ?_ | refine r2 ?_ | refine r3 ?_ | refine r4 ?_
      have hcs : encs l ++ encs m = encs (l ++ m) := (encs_app l m).symm
      refine AmCalls.freeze (z := 4) (cs := encs l ++ encs m) (T := 27) (upd_same _ _ _) (by rw [hcs, encs_length, List.length_append]) (by rw [hcs]; exact encs_flat _) ?_
      rw [hcs, ← List.length_append]
      refine fitting_am (l ++ m) _ _ (by rw [List.length_append]; omega) ?_
      try dsimp only
      repeat first | ((first | (with_reducible first | refine sS ?_ | refine sA ?_ | refine sC ?_) | (with_reducible refine iT ?_; refine sT rfl ?_) | (with_reducible refine i0 ?_; refine s0 rfl ?_) | (with_reducible refine iO ?_; refine sO rfl ?_)); intro bC bR bU hC hR hU; simp only [go_sem, ↓reduceIte, f1, f2]; subst hC hR hU) | (with_reducible refine rN ?_; subst hbq) | (with_reducible refine iR ?_; refine rG (by simp only [compL, gtOf, nthDst]; exact rfl) ?_) | (with_reducible refine rB fun cq hcq => ?_; subst hcq) | (with_reducible refine x1 ?_; clear hbq bq) | (with_reducible refine r1 ?_; clear hbq bq) | (with_reducible refine x5 ?_ ?_; focus rfl) | (with_reducible refine iL ?_; refine rL (by rw [Tryz.results47]) (HLess.refl _) ?_; simp only [go_sem, ↓reduceIte, aPack, Option.some.injEq, exists_eq_left', f1, f2]) | with_reducible first | refine nS ?_ | refine nD ?_ | refine rS fun bq hbq => ?_ | refine rK ?_ | refine rE ?_ | refine rXx ?_ | refine rR ?_ | refine x2 ?_ | refine x3 ?_ | refine x4 ?_ | refine r2 ?_ | refine r3 ?_ | refine r4 ?_
      refine run_endcut ?_
      simp only [go_sem, ↓reduceIte, f0, f1, f2]
      have l0 : HLess (upd h p Option.none) h := (HLess.refl h).new hp
      exact l0.new e.2
  clear f0 f1 f2 f27
  obtain ⟨f0, f1, f2, f8, hl'⟩ := hI
  subst hbq
  cases hfe : (fitErrs (l ++ m) == 0)
  · try dsimp only
    repeat first | ((first | (with_reducible first | refine sS ?_ | refine sA ?_ | refine sC ?_) | (with_reducible refine iT ?_; refine sT rfl ?_) | (with_reducible refine i0 ?_; refine s0 rfl ?_) | (with_reducible refine iO ?_; refine sO rfl ?_)); intro bC bR bU hC hR hU; simp only [go_sem, ↓reduceIte, f8, hfe]; subst hC hR hU) | (with_reducible refine rN ?_; subst hbq) | (with_reducible refine iR ?_; refine rG (by simp only [compL, gtOf, nthDst]; exact rfl) ?_) | (with_reducible refine rB fun cq hcq => ?_; subst hcq) | (with_reducible refine x1 ?_; clear hbq bq) | (with_reducible refine r1 ?_; clear hbq bq) | (with_reducible refine x5 ?_ ?_; focus rfl) | (with_reducible refine iL ?_; refine rL (by rw [Tryz.results47]) hl' ?_; simp only [go_sem, ↓reduceIte, aPack, Option.some.injEq, exists_eq_left', f8, hfe]) | with_reducible first | refine nS ?_ | refine nD ?_ | refine rS fun bq hbq => ?_ | refine rK ?_ | refine rE ?_ | refine rXx ?_ | refine rR ?_ | refine x2 ?_ | refine x3 ?_ | refine x4 ?_ | refine r2 ?_ | refine r3 ?_ | refine r4 ?_
    exact ret_as (by simp only [instF, hb, hfe]; rfl) hq
  have hfit := fitErrs_small (l ++ m) (by simpa using hfe)
  have hsl : ∀ t ∈ l, t.size ≤ 1000000000 := fun t ht => by have := (hfit t (List.mem_append_left _ ht)).1; omega
  have hsm : ∀ t ∈ m, t.size ≤ 1000000000 := fun t ht => by have := (hfit t (List.mem_append_right _ ht)).1; omega
  try dsimp only
  repeat first | ((first | (with_reducible first | refine sS ?_ | refine sA ?_ | refine sC ?_) | (with_reducible refine iT ?_; refine sT rfl ?_) | (with_reducible refine i0 ?_; refine s0 rfl ?_) | (with_reducible refine iO ?_; refine sO rfl ?_)); intro bC bR bU hC hR hU; simp only [go_sem, ↓reduceIte, f0, f1, f2, f8, hfe]; subst hC hR hU) | (with_reducible refine rN ?_; subst hbq) | (with_reducible refine iR ?_; refine rG (by simp only [compL, gtOf, nthDst]; exact rfl) ?_) | (with_reducible refine rB fun cq hcq => ?_; subst hcq) | (with_reducible refine x1 ?_; clear hbq bq) | (with_reducible refine r1 ?_; clear hbq bq) | (with_reducible refine x5 ?_ ?_; focus rfl) | (with_reducible refine iL ?_; refine rL (by rw [Tryz.results47]) hl' ?_; simp only [go_sem, ↓reduceIte, aPack, Option.some.injEq, exists_eq_left', f0, f1, f2, f8, hfe]) | with_reducible first | refine nS ?_ | refine nD ?_ | refine rS fun bq hbq => ?_ | refine rK ?_ | refine rE ?_ | refine rXx ?_ | refine rR ?_ | refine x2 ?_ | refine x3 ?_ | refine x4 ?_ | refine r2 ?_ | refine r3 ?_ | refine r4 ?_
  refine isOpen_am l pars _ _ hl hsl ?_
  cases hop : openL pars l []
  · try dsimp only
    repeat first | ((first | (with_reducible first | refine sS ?_ | refine sA ?_ | refine sC ?_) | (with_reducible refine iT ?_; refine sT rfl ?_) | (with_reducible refine i0 ?_; refine s0 rfl ?_) | (with_reducible refine iO ?_; refine sO rfl ?_)); intro bC bR bU hC hR hU; simp only [go_sem, ↓reduceIte, f0, f1, f2, hop]; subst hC hR hU) | (with_reducible refine rN ?_; subst hbq) | (with_reducible refine iR ?_; refine rG (by simp only [compL, gtOf, nthDst]; exact rfl) ?_) | (with_reducible refine rB fun cq hcq => ?_; subst hcq) | (with_reducible refine x1 ?_; clear hbq bq) | (with_reducible refine r1 ?_; clear hbq bq) | (with_reducible refine x5 ?_ ?_; focus rfl) | (with_reducible refine iL ?_; refine rL (by rw [Tryz.results47]) hl' ?_; simp only [go_sem, ↓reduceIte, aPack, Option.some.injEq, exists_eq_left', f0, f1, f2, hop]) | with_reducible first | refine nS ?_ | refine nD ?_ | refine rS fun bq hbq => ?_ | refine rK ?_ | refine rE ?_ | refine rXx ?_ | refine rR ?_ | refine x2 ?_ | refine x3 ?_ | refine x4 ?_ | refine r2 ?_ | refine r3 ?_ | refine r4 ?_
    exact ret_as (by simp only [instF, hb, hfe, hop]; rfl) hq
  try dsimp only
  repeat first | ((first | (with_reducible first | refine sS ?_ | refine sA ?_ | refine sC ?_) | (with_reducible refine iT ?_; refine sT rfl ?_) | (with_reducible refine i0 ?_; refine s0 rfl ?_) | (with_reducible refine iO ?_; refine sO rfl ?_)); intro bC bR bU hC hR hU; simp only [go_sem, ↓reduceIte, f0, f1, f2, hop, build142]; subst hC hR hU) | (with_reducible refine rN ?_; subst hbq) | (with_reducible refine iR ?_; refine rG (by simp only [compL, gtOf, nthDst]; exact rfl) ?_) | (with_reducible refine rB fun cq hcq => ?_; subst hcq) | (with_reducible refine x1 ?_; clear hbq bq) | (with_reducible refine r1 ?_; clear hbq bq) | (with_reducible refine x5 ?_ ?_; focus rfl) | (with_reducible refine iL ?_; refine rL (by rw [Tryz.results47]) hl' ?_; simp only [go_sem, ↓reduceIte, aPack, Option.some.injEq, exists_eq_left', f0, f1, f2, hop, build142]) | with_reducible first | refine nS ?_ | refine nD ?_ | refine rS fun bq hbq => ?_ | refine rK ?_ | refine rE ?_ | refine rXx ?_ | refine rR ?_ | refine x2 ?_ | refine x3 ?_ | refine x4 ?_ | refine r2 ?_ | refine r3 ?_ | refine r4 ?_
  intro mm hmm
  try dsimp only
  repeat first | ((first | (with_reducible first | refine sS ?_ | refine sA ?_ | refine sC ?_) | (with_reducible refine iT ?_; refine sT rfl ?_) | (with_reducible refine i0 ?_; refine s0 rfl ?_) | (with_reducible refine iO ?_; refine sO rfl ?_)); intro bC bR bU hC hR hU; simp only [go_sem, ↓reduceIte, f0, f1, f2, build142]; subst hC hR hU) | (with_reducible refine rN ?_; subst hbq) | (with_reducible refine iR ?_; refine rG (by simp only [compL, gtOf, nthDst]; exact rfl) ?_) | (with_reducible refine rB fun cq hcq => ?_; subst hcq) | (with_reducible refine x1 ?_; clear hbq bq) | (with_reducible refine r1 ?_; clear hbq bq) | (with_reducible refine x5 ?_ ?_; focus rfl) | (with_reducible refine iL ?_; refine rL (by rw [Tryz.results47]) hl' ?_; simp only [go_sem, ↓reduceIte, aPack, Option.some.injEq, exists_eq_left', f0, f1, f2, build142]) | with_reducible first | refine nS ?_ | refine nD ?_ | refine rS fun bq hbq => ?_ | refine rK ?_ | refine rE ?_ | refine rXx ?_ | refine rR ?_ | refine x2 ?_ | refine x3 ?_ | refine x4 ?_ | refine r2 ?_ | refine r3 ?_ | refine r4 ?_
  intro x hx
  have e := fresh_if hx
  try dsimp only
  repeat first | ((first | (with_reducible first | refine sS ?_ | refine sA ?_ | refine sC ?_) | (with_reducible refine iT ?_; refine sT rfl ?_) | (with_reducible refine i0 ?_; refine s0 rfl ?_) | (with_reducible refine iO ?_; refine sO rfl ?_)); intro bC bR bU hC hR hU; simp only [go_sem, ↓reduceIte, f0, f1, f2]; subst hC hR hU) | (with_reducible refine rN ?_; subst hbq) | (with_reducible refine iR ?_; refine rG (by simp only [compL, gtOf, nthDst]; exact rfl) ?_) | (with_reducible refine rB fun cq hcq => ?_; subst hcq) | (with_reducible refine x1 ?_; clear hbq bq) | (with_reducible refine r1 ?_; clear hbq bq) | (with_reducible refine x5 ?_ ?_; focus rfl) | (with_reducible refine iL ?_; refine rL (by rw [Tryz.results47]) hl' ?_; simp only [go_sem, ↓reduceIte, aPack, Option.some.injEq, exists_eq_left', f0, f1, f2]) | with_reducible first | refine nS ?_ | refine nD ?_ | refine rS fun bq hbq => ?_ | refine rK ?_ | refine rE ?_ | refine rXx ?_ | refine rR ?_ | refine x2 ?_ | refine x3 ?_ | refine x4 ?_ | refine r2 ?_ | refine r3 ?_ | refine r4 ?_
  have hM : Matcher x mm pars h [] (upd (upd h' mm (some (.map [] 0))) x (some (.cells [.int .i64 pars, .map mm] 142))) :=
    ⟨((hl'.new (hl'.none hmm)).new (hl'.none e.2)), upd_same _ _ _, ⟨[], 0, (upd_other _ _ (fun e' => e.1 e'.symm)).trans (upd_same _ _ _), rfl⟩, fun e he => absurd he (List.not_mem_nil)⟩
  refine equalFunc_am l m 101 [.ptr x 0] [] (Matcher x mm pars h) (fun es u v => matchF pars u v es) [] _ _ hl (fun _ _ _ h1 h2 => h1.mono h2) (fun i u v es hu hv h2 Q' hR hQ => ?_) hM (fun hne => absurd hlm hne) (fun _ h1 hR => ?_)
  · exact match_am x mm pars h ⟨hl'.none e.2, hl'.none hmm, e.1⟩ u.size u v es h2 Q' (Nat.le_refl _) (hsl u (List.mem_of_getElem? hu)) (hsm v (List.mem_of_getElem? hv)) hR hQ
  · refine ⟨h1, HLess.refl _, ?_⟩
    rw [eqSt_match]
    have hR1 := hR.1
    try dsimp only
    repeat first | ((first | (with_reducible first | refine sS ?_ | refine sA ?_ | refine sC ?_) | (with_reducible refine iT ?_; refine sT rfl ?_) | (with_reducible refine i0 ?_; refine s0 rfl ?_) | (with_reducible refine iO ?_; refine sO rfl ?_)); intro bC bR bU hC hR hU; simp only [go_sem, ↓reduceIte]; subst hC hR hU) | (with_reducible refine rN ?_; subst hbq) | (with_reducible refine iR ?_; refine rG (by simp only [compL, gtOf, nthDst]; exact rfl) ?_) | (with_reducible refine rB fun cq hcq => ?_; subst hcq) | (with_reducible refine x1 ?_; clear hbq bq) | (with_reducible refine r1 ?_; clear hbq bq) | (with_reducible refine x5 ?_ ?_; focus rfl) | (with_reducible refine iL ?_; refine rL (by rw [Tryz.results47]) hl' ?_; simp only [go_sem, ↓reduceIte, aPack, Option.some.injEq, exists_eq_left']) | with_reducible first | refine nS ?_ | refine nD ?_ | refine rS fun bq hbq => ?_ | refine rK ?_ | refine rE ?_ | refine rXx ?_ | refine rR ?_ | refine x2 ?_ | refine x3 ?_ | refine x4 ?_ | refine r2 ?_ | refine r3 ?_ | refine r4 ?_
    refine run_lastret (by rw [Tryz.results47]) hR1 ?_
    simp only [go_sem, ↓reduceIte, aPack, Option.some.injEq, exists_eq_left']
    exact ret_as (by simp only [instF, hb, hfe, hop]; rfl) hq
/- The reference's Instance. -/


theorem cDr_two {cl : List CO} {i j : Nat} {st st' : List Nat} {p q : Plan} {K : AK} {T : Pend} {τ : Env} {h : AHeap} (h1 : cDr Tryz.prog cl K (.one i st p) T τ h) (h2 : cDr Tryz.prog cl K (.one j st' q) T τ h) : cDr Tryz.prog cl K (.two i st p j st' q) T τ h := ⟨h1, h2⟩
def refFitErrs : List Term → Int
  | [] => 0
  | t :: ts => if refFitErr t == 0 then refFitErrs ts else refFitErr t
theorem refFitErrs_small : ∀ (l : List Term), refFitErrs l = 0 → ∀ t ∈ l, t.size ≤ 4000 ∧ fits0F t 0 = true
  | [], _, t, ht => absurd ht (List.not_mem_nil)
  | u :: l, h, t, ht => by
    rw [refFitErrs] at h
    split at h
    · rename_i hu
      rcases List.mem_cons.1 ht with rfl | ht
      · unfold refFitErr at hu
        split at hu
        · rename_i hs
          refine ⟨refSized_small t hs, ?_⟩
          cases hf : fits0F t 0
          · rw [hf] at hu; exact absurd hu (by decide)
          · rfl
        · rename_i hs; exact absurd hu hs
      · exact refFitErrs_small l h t ht
    · rename_i hu; rw [h] at hu; exact absurd rfl hu
theorem fits_parOk : ∀ s, (∀ (t : Term) (d : Int), t.size ≤ s → fits0F t d = true → parOk t = true) ∧ (∀ (l : List Term) (d : Int), sizes l ≤ s → fits0L l d = true → parOkL l = true) := by
  intro s
  induction s with
  | zero =>
    refine ⟨fun t d ht => ?_, fun l d hl _ => ?_⟩
    · obtain ⟨a, b, c, l⟩ := t; rw [Term.size] at ht; omega
    · cases l with
      | nil => rw [parOkL]
      | cons t ts => obtain ⟨a, b, c, l⟩ := t; rw [sizes, Term.size] at hl; omega
  | succ s ih =>
    have hT : ∀ (t : Term) (d : Int), t.size ≤ s + 1 → fits0F t d = true → parOk t = true := by
      intro t d ht hf
      obtain ⟨k, n, nm, l⟩ := t
      rw [Term.size] at ht
      rw [fits0F, Bool.and_eq_true] at hf
      rw [parOk, ih.2 l _ (by omega) hf.2, Bool.and_true]
      have h1 := hf.1
      unfold headFits headTest at h1
      cases k3 : (k == 3)
      · simp only [bne, k3, Bool.not_false, Bool.true_or]
      · have e : k = 3 := by simpa using k3
        subst e
        simp only [Bool.and_eq_true] at h1
        have h2 := h1.2.2.2
        rw [show ((3 : Int) == 1) = false from rfl, show ((3 : Int) == 2) = false from rfl, show ((3 : Int) == 3) = true from rfl] at h2
        simp only [Bool.false_eq_true, if_false, if_true, Bool.and_eq_true, Bool.not_eq_true', decide_eq_false_iff_not] at h2
        have e1 : decide (0 ≤ n) = true := by simp; omega
        have e2 : decide (n < 60) = true := by simp; omega
        rw [e1, e2]; rfl
    refine ⟨hT, fun l => ?_⟩
    induction l with
    | nil => intro d _ _; rw [parOkL]
    | cons t ts ihl =>
      intro d hl hf
      rw [sizes] at hl
      rw [fits0L, Bool.and_eq_true] at hf
      rw [parOkL, hT t d (by omega) hf.1, ihl d (by omega) hf.2, Bool.and_true]
def instR (pars : Int) (l m : List Term) : Bool × Int :=
  if badF pars l m then (false, 1) else if !(refFitErrs l == 0) then (false, refFitErrs l) else if !(refFitErrs m == 0) then (false, refFitErrs m)
  else match patternL pars l (List.replicate 60 (-1)) with
    | none => (false, 6)
    | some _ => match matchRL pars l m (List.replicate 60 none) with
      | none => (false, 0)
      | some _ => (true, 0)
theorem build147 (pars : Int) (a b : Nat) : aBuild Tryz.prog 147 [(0, .int .i64 pars), (1, .sl a 0 60), (3, .sl b 0 60)] = some (.agg [.int .i64 pars, .sl a 0 60, .list 0 [] 0 .nil, .sl b 0 60]) := by
  simp only [aBuild, ze_147, pl_147, aFill]
  rfl
theorem build77 : aBuildSlice Tryz.prog 77 1 [(0, .int .i64 (-1))] = some (.list 1 [.int .i64 (-1)] 1 .full) := build1 el_77 sz_3 ze_3 rfl rfl rfl (by decide)
theorem make145 (h : AHeap) (p : Nat) : aMakeSlice Tryz.prog 145 (.int .i64 60) (.int .i64 60) h p = some (.sl p 0 60, upd h p (some (.cells ((List.replicate 60 none).map icell) 4))) := by
  simp only [aMakeSlice, el_145, sz_4, by_4, ze_4]
  rfl
theorem make25 (h : AHeap) (p : Nat) : aMakeSlice Tryz.prog 25 (.int .i64 60) (.int .i64 60) h p = some (.sl p 0 60, upd h p (some (.cells ((List.replicate 60 none).flatMap tcell) 27))) := by
  simp only [aMakeSlice, el_25, sz_27, by_27, ze_27]
  rfl
theorem refInstance_am (pars : Int) (l m : List Term) (h : AHeap) (Q : AOut → AHeap → Prop) (hl : l.length ≤ 1000000000) (hm : m.length ≤ 1000000000) (hq : Q (.ret (.tuple [.bool (instR pars l m).1, .int .i64 (instR pars l m).2])) h) :
    AmCalls Tryz.prog 48 [.int .i64 pars, .list 4 (encs l) l.length .none, .list 4 (encs m) m.length .none] h Q := by
  refine AmCalls.of_sem (fn := Tryz.f48) Tryz.func48 rfl (by kernel_rfl) (by rw [Tryz.ntmps48]; simp) (enters_of Tryz.func48 (by kernel_rfl) (by kernel_rfl)) ?_
  repeat with_reducible refine run_seq fun bq hbq => ?_
  refine run_region (by simp only [compL, gtOf, nthDst]; exact rfl) ?_
  try dsimp only
  repeat first | ((first | (with_reducible first | refine sS ?_ | refine sA ?_) | (with_reducible refine iT ?_; refine sT rfl ?_) | (with_reducible refine i0 ?_; refine s0 rfl ?_) | (with_reducible refine iO ?_; refine sO rfl ?_)); intro bC bR bU hC hR hU; simp only [go_sem, ↓reduceIte]; subst hC hR hU) | with_reducible first | refine nS ?_ | refine nD ?_
  refine run_next ?_; subst hbq
  repeat with_reducible refine run_seq fun bq hbq => ?_
  refine run_cutS (fun τ h' => τ 0 = .int .i64 pars ∧ τ 1 = .list 4 (encs l) l.length .none ∧ τ 2 = .list 4 (encs m) m.length .none ∧ τ 33 = .bool (badF pars l m) ∧ h' = h) ?_ fun τ h' hI => ?_
  · cases b1 : decide (pars < 0) <;> cases b2 : decide (pars > 60) <;> cases b3 : ((l.length : Int) == m.length)
    all_goals
      try dsimp only
      repeat first | ((first | (with_reducible first | refine sS ?_ | refine sA ?_ | refine sC ?_) | (with_reducible refine iT ?_; refine sT rfl ?_) | (with_reducible refine i0 ?_; refine s0 rfl ?_) | (with_reducible refine iO ?_; refine sO rfl ?_)); intro bC bR bU hC hR hU; simp only [go_sem, ↓reduceIte, b1, b2, b3]; subst hC hR hU) | (with_reducible refine rN ?_; subst hbq) | (with_reducible refine iR ?_; refine rG (by simp only [compL, gtOf, nthDst]; exact rfl) ?_) | (with_reducible refine rB fun cq hcq => ?_; subst hcq) | (with_reducible refine x1 ?_; clear hbq bq) | (with_reducible refine r1 ?_; clear hbq bq) | (with_reducible refine x5 ?_ ?_; focus rfl) | (with_reducible refine iL ?_; refine rL (by rw [Tryz.results48]) (HLess.refl _) ?_; simp only [go_sem, ↓reduceIte, aPack, Option.some.injEq, exists_eq_left', b1, b2, b3]) | with_reducible first | refine nS ?_ | refine nD ?_ | refine rS fun bq hbq => ?_ | refine rK ?_ | refine rE ?_ | refine rXx ?_ | refine rR ?_ | refine x2 ?_ | refine x3 ?_ | refine x4 ?_ | refine r2 ?_ | refine r3 ?_ | refine r4 ?_
      refine run_endcut ?_
      simp only [go_sem, ↓reduceIte, badF, b1, b2, b3]
  obtain ⟨f0, f1, f2, f33, hh⟩ := hI
  rw [hh]; clear hh h'
  subst hbq
  cases hb : badF pars l m
  case true =>
    rw [hb] at f33
    try dsimp only
    repeat first | ((first | (with_reducible first | refine sS ?_ | refine sA ?_ | refine sC ?_) | (with_reducible refine iT ?_; refine sT rfl ?_) | (with_reducible refine i0 ?_; refine s0 rfl ?_) | (with_reducible refine iO ?_; refine sO rfl ?_)); intro bC bR bU hC hR hU; simp only [go_sem, ↓reduceIte, f33]; subst hC hR hU) | (with_reducible refine rN ?_; subst hbq) | (with_reducible refine iR ?_; refine rG (by simp only [compL, gtOf, nthDst]; exact rfl) ?_) | (with_reducible refine rB fun cq hcq => ?_; subst hcq) | (with_reducible refine x1 ?_; clear hbq bq) | (with_reducible refine r1 ?_; clear hbq bq) | (with_reducible refine x5 ?_ ?_; focus rfl) | (with_reducible refine iL ?_; refine rL (by rw [Tryz.results48]) (HLess.refl _) ?_; simp only [go_sem, ↓reduceIte, aPack, Option.some.injEq, exists_eq_left', f33]) | with_reducible first | refine nS ?_ | refine nD ?_ | refine rS fun bq hbq => ?_ | refine rK ?_ | refine rE ?_ | refine rXx ?_ | refine rR ?_ | refine x2 ?_ | refine x3 ?_ | refine x4 ?_ | refine r2 ?_ | refine r3 ?_ | refine r4 ?_
    exact ret_as (by simp only [instR, hb]; rfl) hq
  rw [hb] at f33
  have hlm : l.length = m.length := by
    simp only [badF, Bool.or_eq_false_iff, Bool.not_eq_false', beq_iff_eq] at hb
    omega
  try dsimp only
  repeat first | ((first | (with_reducible first | refine sS ?_ | refine sA ?_ | refine sC ?_) | (with_reducible refine iT ?_; refine sT rfl ?_) | (with_reducible refine i0 ?_; refine s0 rfl ?_) | (with_reducible refine iO ?_; refine sO rfl ?_)); intro bC bR bU hC hR hU; simp only [go_sem, ↓reduceIte, f33]; subst hC hR hU) | (with_reducible refine rN ?_; subst hbq) | (with_reducible refine iR ?_; refine rG (by simp only [compL, gtOf, nthDst]; exact rfl) ?_) | (with_reducible refine x1 ?_; clear hbq bq) | (with_reducible refine r1 ?_; clear hbq bq) | (with_reducible refine x5 ?_ ?_; focus rfl) | (with_reducible refine iL ?_; refine rL (by rw [Tryz.results48]) (HLess.refl _) ?_; simp only [go_sem, ↓reduceIte, aPack, Option.some.injEq, exists_eq_left', f33]) | with_reducible first | refine nS ?_ | refine nD ?_ | refine rS fun bq hbq => ?_ | refine rK ?_ | refine rE ?_ | refine rXx ?_ | refine rR ?_ | refine x2 ?_ | refine x3 ?_ | refine x4 ?_ | refine r2 ?_ | refine r3 ?_ | refine r4 ?_
  refine run_cutS (fun τ h' => τ 0 = .int .i64 pars ∧ τ 1 = .list 4 (encs l) l.length .none ∧ τ 2 = .list 4 (encs m) m.length .none ∧ HLess h' h ∧ refFitErrs l = 0) ?_ fun τ h' hI => ?_
  · try dsimp only
    repeat first | ((first | (with_reducible first | refine sS ?_ | refine sA ?_ | refine sC ?_) | (with_reducible refine iT ?_; refine sT rfl ?_) | (with_reducible refine i0 ?_; refine s0 rfl ?_) | (with_reducible refine iO ?_; refine sO rfl ?_)); intro bC bR bU hC hR hU; simp only [go_sem, ↓reduceIte]; subst hC hR hU) | (with_reducible refine rN ?_; subst hbq) | (with_reducible refine iR ?_; refine rG (by simp only [compL, gtOf, nthDst]; exact rfl) ?_) | (with_reducible refine rB fun cq hcq => ?_; subst hcq) | (with_reducible refine x1 ?_; clear hbq bq) | (with_reducible refine r1 ?_; clear hbq bq) | (with_reducible refine x5 ?_ ?_; focus rfl) | (with_reducible refine iL ?_; refine rL (by rw [Tryz.results48]) (HLess.refl _) ?_; simp only [go_sem, ↓reduceIte, aPack, Option.some.injEq, exists_eq_left']) | with_reducible first | refine nS ?_ | refine nD ?_ | refine rS fun bq hbq => ?_ | refine rK ?_ | refine rE ?_ | refine rXx ?_ | refine rR ?_ | refine x2 ?_ | refine x3 ?_ | refine x4 ?_ | refine r2 ?_ | refine r3 ?_ | refine r4 ?_
    refine run_loop (fun k τ h' => ∃ i : Nat, k + i = l.length ∧ τ 0 = .int .i64 pars ∧ τ 1 = .list 4 (encs l) l.length .none ∧ τ 2 = .list 4 (encs m) m.length .none ∧ τ 8 = .int .i64 i ∧ HLess h' h ∧ refFitErrs (l.drop i) = refFitErrs l) l.length ?_ ?_
    · exact ⟨0, rfl, f0, f1, f2, rfl, HLess.refl _, rfl⟩
    intro c hc k τ h' hI
    clear f0 f1 f2 f33
    obtain ⟨i, hk, f0, f1, f2, f8, hl', hix⟩ := hI
    subst hc
    by_cases hi : i < l.length
    · obtain ⟨u, hu⟩ : ∃ u, l[i]? = some u := ⟨_, List.getElem?_eq_getElem hi⟩
      obtain ⟨r, hr⟩ := encs_at l i hu
      have hdrop : l.drop i = u :: l.drop (i + 1) := by
        rw [List.drop_eq_getElem_cons hi]
        rw [List.getElem?_eq_getElem hi] at hu; injection hu with hu; rw [hu]
      rw [hdrop, refFitErrs] at hix
      try dsimp only
      repeat first | ((first | (with_reducible first | refine sS ?_ | refine sA ?_ | refine sC ?_) | (with_reducible refine iT ?_; refine sT rfl ?_) | (with_reducible refine i0 ?_; refine s0 rfl ?_) | (with_reducible refine iO ?_; refine sO rfl ?_)); intro bC bR bU hC hR hU; simp only [go_sem, ↓reduceIte, f1, f8, hi, hr, build24_0]; subst hC hR hU) | (with_reducible refine rN ?_; subst hbq) | (with_reducible refine iR ?_; refine rG (by simp only [compL, gtOf, nthDst]; exact rfl) ?_) | (with_reducible refine rB fun cq hcq => ?_; subst hcq) | (with_reducible refine x1 ?_; clear hbq bq) | (with_reducible refine r1 ?_; clear hbq bq) | (with_reducible refine x5 ?_ ?_; focus rfl) | (with_reducible refine iL ?_; refine rL (by rw [Tryz.results48]) hl' ?_; simp only [go_sem, ↓reduceIte, aPack, Option.some.injEq, exists_eq_left', f1, f8, hi, hr, build24_0]) | with_reducible first | refine nS ?_ | refine nD ?_ | refine rS fun bq hbq => ?_ | refine rK ?_ | refine rE ?_ | refine rXx ?_ | refine rR ?_ | refine x2 ?_ | refine x3 ?_ | refine x4 ?_ | refine r2 ?_ | refine r3 ?_ | refine r4 ?_
      refine refFit_am 0 .nil u _ _ ?_
      cases he : (refFitErr u == 0)
      · rw [he] at hix
        try dsimp only
        repeat first | ((first | (with_reducible first | refine sS ?_ | refine sA ?_ | refine sC ?_) | (with_reducible refine iT ?_; refine sT rfl ?_) | (with_reducible refine i0 ?_; refine s0 rfl ?_) | (with_reducible refine iO ?_; refine sO rfl ?_)); intro bC bR bU hC hR hU; simp only [go_sem, ↓reduceIte, f1, f8, he]; subst hC hR hU) | (with_reducible refine rN ?_; subst hbq) | (with_reducible refine iR ?_; refine rG (by simp only [compL, gtOf, nthDst]; exact rfl) ?_) | (with_reducible refine rB fun cq hcq => ?_; subst hcq) | (with_reducible refine x1 ?_; clear hbq bq) | (with_reducible refine r1 ?_; clear hbq bq) | (with_reducible refine x5 ?_ ?_; focus rfl) | (with_reducible refine iL ?_; refine rL (by rw [Tryz.results48]) hl' ?_; simp only [go_sem, ↓reduceIte, aPack, Option.some.injEq, exists_eq_left', f1, f8, he]) | with_reducible first | refine nS ?_ | refine nD ?_ | refine rS fun bq hbq => ?_ | refine rK ?_ | refine rE ?_ | refine rXx ?_ | refine rR ?_ | refine x2 ?_ | refine x3 ?_ | refine x4 ?_ | refine r2 ?_ | refine r3 ?_ | refine r4 ?_
        refine ret_as ?_ hq
        have hne : (refFitErrs l == 0) = false := by rw [← hix]; exact he
        simp only [instR, hb, hne, Bool.not_false, if_true]
        rw [← hix]; rfl
      · rw [he, if_pos rfl] at hix
        try dsimp only
        repeat first | ((first | (with_reducible first | refine sS ?_ | refine sA ?_ | refine sC ?_) | (with_reducible refine iT ?_; refine sT rfl ?_) | (with_reducible refine i0 ?_; refine s0 rfl ?_) | (with_reducible refine iO ?_; refine sO rfl ?_)); intro bC bR bU hC hR hU; simp only [go_sem, ↓reduceIte, f1, f8, he, wrap_in (show -9223372036854775808 ≤ (i : Int) + 1 by omega) (show (i : Int) + 1 ≤ 9223372036854775807 by omega)]; subst hC hR hU) | (with_reducible refine rN ?_; subst hbq) | (with_reducible refine iR ?_; refine rG (by simp only [compL, gtOf, nthDst]; exact rfl) ?_) | (with_reducible refine rB fun cq hcq => ?_; subst hcq) | (with_reducible refine x1 ?_; clear hbq bq) | (with_reducible refine r1 ?_; clear hbq bq) | (with_reducible refine x5 ?_ ?_; focus rfl) | (with_reducible refine iL ?_; refine rL (by rw [Tryz.results48]) hl' ?_; simp only [go_sem, ↓reduceIte, aPack, Option.some.injEq, exists_eq_left', f1, f8, he, wrap_in (show -9223372036854775808 ≤ (i : Int) + 1 by omega) (show (i : Int) + 1 ≤ 9223372036854775807 by omega)]) | with_reducible first | refine nS ?_ | refine nD ?_ | refine rS fun bq hbq => ?_ | refine rK ?_ | refine rE ?_ | refine rXx ?_ | refine rR ?_ | refine x2 ?_ | refine x3 ?_ | refine x4 ?_ | refine r2 ?_ | refine r3 ?_ | refine r4 ?_
        refine run_loopN (m := k - 1) (by omega) ⟨i + 1, by omega, ?_⟩
        simp only [go_sem, ↓reduceIte, f0, f1, f2]
        exact ⟨rfl, hl', hix⟩
    · rw [List.drop_eq_nil_of_le (by omega), refFitErrs] at hix
      try dsimp only
      repeat first | ((first | (with_reducible first | refine sS ?_ | refine sA ?_ | refine sC ?_) | (with_reducible refine iT ?_; refine sT rfl ?_) | (with_reducible refine i0 ?_; refine s0 rfl ?_) | (with_reducible refine iO ?_; refine sO rfl ?_)); intro bC bR bU hC hR hU; simp only [go_sem, ↓reduceIte, f1, f8, hi]; subst hC hR hU) | (with_reducible refine rN ?_; subst hbq) | (with_reducible refine iR ?_; refine rG (by simp only [compL, gtOf, nthDst]; exact rfl) ?_) | (with_reducible refine rB fun cq hcq => ?_; subst hcq) | (with_reducible refine x1 ?_; clear hbq bq) | (with_reducible refine r1 ?_; clear hbq bq) | (with_reducible refine x5 ?_ ?_; focus rfl) | (with_reducible refine iL ?_; refine rL (by rw [Tryz.results48]) hl' ?_; simp only [go_sem, ↓reduceIte, aPack, Option.some.injEq, exists_eq_left', f1, f8, hi]) | with_reducible first | refine nS ?_ | refine nD ?_ | refine rS fun bq hbq => ?_ | refine rK ?_ | refine rE ?_ | refine rXx ?_ | refine rR ?_ | refine x2 ?_ | refine x3 ?_ | refine x4 ?_ | refine r2 ?_ | refine r3 ?_ | refine r4 ?_
      refine run_endcut ?_
      simp only [go_sem, ↓reduceIte, f0, f1, f2]
      exact ⟨hl', hix.symm⟩
  clear f0 f1 f2 f33
  obtain ⟨f0, f1, f2, hl1, hfl⟩ := hI
  subst hbq
  try dsimp only
  repeat first | ((first | (with_reducible first | refine sS ?_ | refine sA ?_ | refine sC ?_) | (with_reducible refine iT ?_; refine sT rfl ?_) | (with_reducible refine i0 ?_; refine s0 rfl ?_) | (with_reducible refine iO ?_; refine sO rfl ?_)); intro bC bR bU hC hR hU; simp only [go_sem, ↓reduceIte]; subst hC hR hU) | (with_reducible refine rN ?_; subst hbq) | (with_reducible refine iR ?_; refine rG (by simp only [compL, gtOf, nthDst]; exact rfl) ?_) | (with_reducible refine x1 ?_; clear hbq bq) | (with_reducible refine r1 ?_; clear hbq bq) | (with_reducible refine x5 ?_ ?_; focus rfl) | (with_reducible refine iL ?_; refine rL (by rw [Tryz.results48]) (HLess.refl _) ?_; simp only [go_sem, ↓reduceIte, aPack, Option.some.injEq, exists_eq_left']) | with_reducible first | refine nS ?_ | refine nD ?_ | refine rS fun bq hbq => ?_ | refine rK ?_ | refine rE ?_ | refine rXx ?_ | refine rR ?_ | refine x2 ?_ | refine x3 ?_ | refine x4 ?_ | refine r2 ?_ | refine r3 ?_ | refine r4 ?_
  refine run_cutS (fun τ h' => τ 0 = .int .i64 pars ∧ τ 1 = .list 4 (encs l) l.length .none ∧ τ 2 = .list 4 (encs m) m.length .none ∧ HLess h' h ∧ refFitErrs m = 0) ?_ fun τ h' hI => ?_
  · try dsimp only
    repeat first | ((first | (with_reducible first | refine sS ?_ | refine sA ?_ | refine sC ?_) | (with_reducible refine iT ?_; refine sT rfl ?_) | (with_reducible refine i0 ?_; refine s0 rfl ?_) | (with_reducible refine iO ?_; refine sO rfl ?_)); intro bC bR bU hC hR hU; simp only [go_sem, ↓reduceIte]; subst hC hR hU) | (with_reducible refine rN ?_; subst hbq) | (with_reducible refine iR ?_; refine rG (by simp only [compL, gtOf, nthDst]; exact rfl) ?_) | (with_reducible refine rB fun cq hcq => ?_; subst hcq) | (with_reducible refine x1 ?_; clear hbq bq) | (with_reducible refine r1 ?_; clear hbq bq) | (with_reducible refine x5 ?_ ?_; focus rfl) | (with_reducible refine iL ?_; refine rL (by rw [Tryz.results48]) (HLess.refl _) ?_; simp only [go_sem, ↓reduceIte, aPack, Option.some.injEq, exists_eq_left']) | with_reducible first | refine nS ?_ | refine nD ?_ | refine rS fun bq hbq => ?_ | refine rK ?_ | refine rE ?_ | refine rXx ?_ | refine rR ?_ | refine x2 ?_ | refine x3 ?_ | refine x4 ?_ | refine r2 ?_ | refine r3 ?_ | refine r4 ?_
    refine run_loop (fun k τ h' => ∃ i : Nat, k + i = m.length ∧ τ 0 = .int .i64 pars ∧ τ 1 = .list 4 (encs l) l.length .none ∧ τ 2 = .list 4 (encs m) m.length .none ∧ τ 10 = .int .i64 i ∧ HLess h' h ∧ refFitErrs (m.drop i) = refFitErrs m) m.length ?_ ?_
    · exact ⟨0, rfl, f0, f1, f2, rfl, hl1, rfl⟩
    intro c hc k τ h' hI
    clear f0 f1 f2 hl1
    obtain ⟨i, hk, f0, f1, f2, f10, hl', hix⟩ := hI
    subst hc
    by_cases hi : i < m.length
    · obtain ⟨u, hu⟩ : ∃ u, m[i]? = some u := ⟨_, List.getElem?_eq_getElem hi⟩
      obtain ⟨r, hr⟩ := encs_at m i hu
      have hdrop : m.drop i = u :: m.drop (i + 1) := by
        rw [List.drop_eq_getElem_cons hi]
        rw [List.getElem?_eq_getElem hi] at hu; injection hu with hu; rw [hu]
      rw [hdrop, refFitErrs] at hix
      try dsimp only
      repeat first | ((first | (with_reducible first | refine sS ?_ | refine sA ?_ | refine sC ?_) | (with_reducible refine iT ?_; refine sT rfl ?_) | (with_reducible refine i0 ?_; refine s0 rfl ?_) | (with_reducible refine iO ?_; refine sO rfl ?_)); intro bC bR bU hC hR hU; simp only [go_sem, ↓reduceIte, f2, f10, hi, hr, build24_0]; subst hC hR hU) | (with_reducible refine rN ?_; subst hbq) | (with_reducible refine iR ?_; refine rG (by simp only [compL, gtOf, nthDst]; exact rfl) ?_) | (with_reducible refine rB fun cq hcq => ?_; subst hcq) | (with_reducible refine x1 ?_; clear hbq bq) | (with_reducible refine r1 ?_; clear hbq bq) | (with_reducible refine x5 ?_ ?_; focus rfl) | (with_reducible refine iL ?_; refine rL (by rw [Tryz.results48]) hl' ?_; simp only [go_sem, ↓reduceIte, aPack, Option.some.injEq, exists_eq_left', f2, f10, hi, hr, build24_0]) | with_reducible first | refine nS ?_ | refine nD ?_ | refine rS fun bq hbq => ?_ | refine rK ?_ | refine rE ?_ | refine rXx ?_ | refine rR ?_ | refine x2 ?_ | refine x3 ?_ | refine x4 ?_ | refine r2 ?_ | refine r3 ?_ | refine r4 ?_
      refine refFit_am 0 .nil u _ _ ?_
      cases he : (refFitErr u == 0)
      · rw [he] at hix
        try dsimp only
        repeat first | ((first | (with_reducible first | refine sS ?_ | refine sA ?_ | refine sC ?_) | (with_reducible refine iT ?_; refine sT rfl ?_) | (with_reducible refine i0 ?_; refine s0 rfl ?_) | (with_reducible refine iO ?_; refine sO rfl ?_)); intro bC bR bU hC hR hU; simp only [go_sem, ↓reduceIte, f2, f10, he]; subst hC hR hU) | (with_reducible refine rN ?_; subst hbq) | (with_reducible refine iR ?_; refine rG (by simp only [compL, gtOf, nthDst]; exact rfl) ?_) | (with_reducible refine rB fun cq hcq => ?_; subst hcq) | (with_reducible refine x1 ?_; clear hbq bq) | (with_reducible refine r1 ?_; clear hbq bq) | (with_reducible refine x5 ?_ ?_; focus rfl) | (with_reducible refine iL ?_; refine rL (by rw [Tryz.results48]) hl' ?_; simp only [go_sem, ↓reduceIte, aPack, Option.some.injEq, exists_eq_left', f2, f10, he]) | with_reducible first | refine nS ?_ | refine nD ?_ | refine rS fun bq hbq => ?_ | refine rK ?_ | refine rE ?_ | refine rXx ?_ | refine rR ?_ | refine x2 ?_ | refine x3 ?_ | refine x4 ?_ | refine r2 ?_ | refine r3 ?_ | refine r4 ?_
        refine ret_as ?_ hq
        have hne : (refFitErrs m == 0) = false := by rw [← hix]; exact he
        simp only [instR, hb, hfl, hne, Bool.not_false, if_true, beq_self_eq_true, Bool.not_true, Bool.false_eq_true, if_false]
        rw [← hix]; rfl
      · rw [he, if_pos rfl] at hix
        try dsimp only
        repeat first | ((first | (with_reducible first | refine sS ?_ | refine sA ?_ | refine sC ?_) | (with_reducible refine iT ?_; refine sT rfl ?_) | (with_reducible refine i0 ?_; refine s0 rfl ?_) | (with_reducible refine iO ?_; refine sO rfl ?_)); intro bC bR bU hC hR hU; simp only [go_sem, ↓reduceIte, f2, f10, he, wrap_in (show -9223372036854775808 ≤ (i : Int) + 1 by omega) (show (i : Int) + 1 ≤ 9223372036854775807 by omega)]; subst hC hR hU) | (with_reducible refine rN ?_; subst hbq) | (with_reducible refine iR ?_; refine rG (by simp only [compL, gtOf, nthDst]; exact rfl) ?_) | (with_reducible refine rB fun cq hcq => ?_; subst hcq) | (with_reducible refine x1 ?_; clear hbq bq) | (with_reducible refine r1 ?_; clear hbq bq) | (with_reducible refine x5 ?_ ?_; focus rfl) | (with_reducible refine iL ?_; refine rL (by rw [Tryz.results48]) hl' ?_; simp only [go_sem, ↓reduceIte, aPack, Option.some.injEq, exists_eq_left', f2, f10, he, wrap_in (show -9223372036854775808 ≤ (i : Int) + 1 by omega) (show (i : Int) + 1 ≤ 9223372036854775807 by omega)]) | with_reducible first | refine nS ?_ | refine nD ?_ | refine rS fun bq hbq => ?_ | refine rK ?_ | refine rE ?_ | refine rXx ?_ | refine rR ?_ | refine x2 ?_ | refine x3 ?_ | refine x4 ?_ | refine r2 ?_ | refine r3 ?_ | refine r4 ?_
        refine run_loopN (m := k - 1) (by omega) ⟨i + 1, by omega, ?_⟩
        simp only [go_sem, ↓reduceIte, f0, f1, f2]
        exact ⟨rfl, hl', hix⟩
    · rw [List.drop_eq_nil_of_le (by omega), refFitErrs] at hix
      try dsimp only
      repeat first | ((first | (with_reducible first | refine sS ?_ | refine sA ?_ | refine sC ?_) | (with_reducible refine iT ?_; refine sT rfl ?_) | (with_reducible refine i0 ?_; refine s0 rfl ?_) | (with_reducible refine iO ?_; refine sO rfl ?_)); intro bC bR bU hC hR hU; simp only [go_sem, ↓reduceIte, f2, f10, hi]; subst hC hR hU) | (with_reducible refine rN ?_; subst hbq) | (with_reducible refine iR ?_; refine rG (by simp only [compL, gtOf, nthDst]; exact rfl) ?_) | (with_reducible refine rB fun cq hcq => ?_; subst hcq) | (with_reducible refine x1 ?_; clear hbq bq) | (with_reducible refine r1 ?_; clear hbq bq) | (with_reducible refine x5 ?_ ?_; focus rfl) | (with_reducible refine iL ?_; refine rL (by rw [Tryz.results48]) hl' ?_; simp only [go_sem, ↓reduceIte, aPack, Option.some.injEq, exists_eq_left', f2, f10, hi]) | with_reducible first | refine nS ?_ | refine nD ?_ | refine rS fun bq hbq => ?_ | refine rK ?_ | refine rE ?_ | refine rXx ?_ | refine rR ?_ | refine x2 ?_ | refine x3 ?_ | refine x4 ?_ | refine r2 ?_ | refine r3 ?_ | refine r4 ?_
      refine run_endcut ?_
      simp only [go_sem, ↓reduceIte, f0, f1, f2]
      exact ⟨hl', hix.symm⟩
  clear f0 f1 f2 hl1
  obtain ⟨f0, f1, f2, hl1, hfm⟩ := hI
  subst hbq
  try dsimp only
  repeat first | ((first | (with_reducible first | refine sS ?_ | refine sA ?_ | refine sC ?_) | (with_reducible refine iT ?_; refine sT rfl ?_) | (with_reducible refine i0 ?_; refine s0 rfl ?_) | (with_reducible refine iO ?_; refine sO rfl ?_)); intro bC bR bU hC hR hU; simp only [go_sem, ↓reduceIte]; subst hC hR hU) | (with_reducible refine rN ?_; subst hbq) | (with_reducible refine iR ?_; refine rG (by simp only [compL, gtOf, nthDst]; exact rfl) ?_) | (with_reducible refine x1 ?_; clear hbq bq) | (with_reducible refine r1 ?_; clear hbq bq) | (with_reducible refine x5 ?_ ?_; focus rfl) | (with_reducible refine iL ?_; refine rL (by rw [Tryz.results48]) (HLess.refl _) ?_; simp only [go_sem, ↓reduceIte, aPack, Option.some.injEq, exists_eq_left']) | with_reducible first | refine nS ?_ | refine nD ?_ | refine rS fun bq hbq => ?_ | refine rK ?_ | refine rE ?_ | refine rXx ?_ | refine rR ?_ | refine x2 ?_ | refine x3 ?_ | refine x4 ?_ | refine r2 ?_ | refine r3 ?_ | refine r4 ?_
  refine run_cutS (fun τ h' => ∃ x bi bt, τ 0 = .int .i64 pars ∧ τ 1 = .list 4 (encs l) l.length .none ∧ τ 2 = .list 4 (encs m) m.length .none ∧ τ 12 = .ptr x 0 ∧ HLess h' h ∧ h' x = some (.cells [.int .i64 pars, .sl bi 0 60, .list 0 [] 0 .nil, .sl bt 0 60] 147) ∧ h' bi = some (.cells ((List.replicate 60 none).map icell) 4) ∧ h' bt = some (.cells ((List.replicate 60 none).flatMap tcell) 27) ∧ h x = Option.none ∧ h bi = Option.none ∧ h bt = Option.none) ?_ fun τ h' hI => ?_
  · repeat with_reducible refine run_seq fun bq hbq => ?_
    refine run_draw (.take 0 (.two 1 [] (.one 2 [] (.take 3 (.one 4 [] (.take 5 (.done))))) 2 [] (.one 1 [] (.take 3 (.one 4 [] (.take 5 (.done))))))) (by kernel_rfl) (by simp only [compL, gtOf, nthDst]; exact rfl) ?_
    try dsimp only
    repeat first | ((first | (with_reducible first | refine sS ?_ | refine sA ?_ | refine sC ?_) | (with_reducible refine iT ?_; refine sT rfl ?_) | (with_reducible refine i0 ?_; refine s0 rfl ?_) | (with_reducible refine iO ?_; refine sO rfl ?_)); intro bC bR bU hC hR hU; simp only [go_sem, ↓reduceIte, f0]; subst hC hR hU) | (with_reducible refine rN ?_; subst hbq) | (with_reducible refine iR ?_; refine rG (by simp only [compL, gtOf, nthDst]; exact rfl) ?_) | (with_reducible refine rB fun cq hcq => ?_; subst hcq) | (with_reducible refine x1 ?_; clear hbq bq) | (with_reducible refine r1 ?_; clear hbq bq) | (with_reducible refine x5 ?_ ?_; focus rfl) | (with_reducible refine iL ?_; refine rL (by rw [Tryz.results48]) (HLess.refl _) ?_; simp only [go_sem, ↓reduceIte, aPack, Option.some.injEq, exists_eq_left', f0]) | with_reducible first | refine nS ?_ | refine nD ?_ | refine rS fun bq hbq => ?_ | refine rK ?_ | refine rE ?_ | refine rXx ?_ | refine rR ?_ | refine x2 ?_ | refine x3 ?_ | refine x4 ?_ | refine r2 ?_ | refine r3 ?_ | refine r4 ?_
    refine cDr_two ?_ ?_
    · try dsimp only
      repeat first | ((first | (with_reducible first | refine sS ?_ | refine sA ?_ | refine sC ?_) | (with_reducible refine iT ?_; refine sT rfl ?_) | (with_reducible refine i0 ?_; refine s0 rfl ?_) | (with_reducible refine iO ?_; refine sO rfl ?_)); intro bC bR bU hC hR hU; simp only [go_sem, ↓reduceIte, f0, make145, make25]; subst hC hR hU) | (with_reducible refine rN ?_; subst hbq) | (with_reducible refine iR ?_; refine rG (by simp only [compL, gtOf, nthDst]; exact rfl) ?_) | (with_reducible refine rB fun cq hcq => ?_; subst hcq) | (with_reducible refine x1 ?_; clear hbq bq) | (with_reducible refine r1 ?_; clear hbq bq) | (with_reducible refine x5 ?_ ?_; focus rfl) | (with_reducible refine iL ?_; refine rL (by rw [Tryz.results48]) (HLess.refl _) ?_; simp only [go_sem, ↓reduceIte, aPack, Option.some.injEq, exists_eq_left', f0, make145, make25]) | with_reducible first | refine nS ?_ | refine nD ?_ | refine rS fun bq hbq => ?_ | refine rK ?_ | refine rE ?_ | refine rXx ?_ | refine rR ?_ | refine x2 ?_ | refine x3 ?_ | refine x4 ?_ | refine r2 ?_ | refine r3 ?_ | refine r4 ?_
      intro bi hbi
      try dsimp only
      repeat first | ((first | (with_reducible first | refine sS ?_ | refine sA ?_ | refine sC ?_) | (with_reducible refine iT ?_; refine sT rfl ?_) | (with_reducible refine i0 ?_; refine s0 rfl ?_) | (with_reducible refine iO ?_; refine sO rfl ?_)); intro bC bR bU hC hR hU; simp only [go_sem, ↓reduceIte, f0, make145, make25]; subst hC hR hU) | (with_reducible refine rN ?_; subst hbq) | (with_reducible refine iR ?_; refine rG (by simp only [compL, gtOf, nthDst]; exact rfl) ?_) | (with_reducible refine rB fun cq hcq => ?_; subst hcq) | (with_reducible refine x1 ?_; clear hbq bq) | (with_reducible refine r1 ?_; clear hbq bq) | (with_reducible refine x5 ?_ ?_; focus rfl) | (with_reducible refine iL ?_; refine rL (by rw [Tryz.results48]) (HLess.refl _) ?_; simp only [go_sem, ↓reduceIte, aPack, Option.some.injEq, exists_eq_left', f0, make145, make25]) | with_reducible first | refine nS ?_ | refine nD ?_ | refine rS fun bq hbq => ?_ | refine rK ?_ | refine rE ?_ | refine rXx ?_ | refine rR ?_ | refine x2 ?_ | refine x3 ?_ | refine x4 ?_ | refine r2 ?_ | refine r3 ?_ | refine r4 ?_
      intro bt hbt
      have e := fresh_if hbt
      try dsimp only
      repeat first | ((first | (with_reducible first | refine sS ?_ | refine sA ?_ | refine sC ?_) | (with_reducible refine iT ?_; refine sT rfl ?_) | (with_reducible refine i0 ?_; refine s0 rfl ?_) | (with_reducible refine iO ?_; refine sO rfl ?_)); intro bC bR bU hC hR hU; simp only [go_sem, ↓reduceIte, f0, make145, make25, build147]; subst hC hR hU) | (with_reducible refine rN ?_; subst hbq) | (with_reducible refine iR ?_; refine rG (by simp only [compL, gtOf, nthDst]; exact rfl) ?_) | (with_reducible refine rB fun cq hcq => ?_; subst hcq) | (with_reducible refine x1 ?_; clear hbq bq) | (with_reducible refine r1 ?_; clear hbq bq) | (with_reducible refine x5 ?_ ?_; focus rfl) | (with_reducible refine iL ?_; refine rL (by rw [Tryz.results48]) (HLess.refl _) ?_; simp only [go_sem, ↓reduceIte, aPack, Option.some.injEq, exists_eq_left', f0, make145, make25, build147]) | with_reducible first | refine nS ?_ | refine nD ?_ | refine rS fun bq hbq => ?_ | refine rK ?_ | refine rE ?_ | refine rXx ?_ | refine rR ?_ | refine x2 ?_ | refine x3 ?_ | refine x4 ?_ | refine r2 ?_ | refine r3 ?_ | refine r4 ?_
      intro x hx
      have e2 := fresh_if hx
      have e3 := fresh_if e2.2
      try dsimp only
      repeat first | ((first | (with_reducible first | refine sS ?_ | refine sA ?_ | refine sC ?_) | (with_reducible refine iT ?_; refine sT rfl ?_) | (with_reducible refine i0 ?_; refine s0 rfl ?_) | (with_reducible refine iO ?_; refine sO rfl ?_)); intro bC bR bU hC hR hU; simp only [go_sem, ↓reduceIte, f0, build147]; subst hC hR hU) | (with_reducible refine rN ?_; subst hbq) | (with_reducible refine iR ?_; refine rG (by simp only [compL, gtOf, nthDst]; exact rfl) ?_) | (with_reducible refine rB fun cq hcq => ?_; subst hcq) | (with_reducible refine x1 ?_; clear hbq bq) | (with_reducible refine r1 ?_; clear hbq bq) | (with_reducible refine x5 ?_ ?_; focus rfl) | (with_reducible refine iL ?_; refine rL (by rw [Tryz.results48]) (HLess.refl _) ?_; simp only [go_sem, ↓reduceIte, aPack, Option.some.injEq, exists_eq_left', f0, build147]) | with_reducible first | refine nS ?_ | refine nD ?_ | refine rS fun bq hbq => ?_ | refine rK ?_ | refine rE ?_ | refine rXx ?_ | refine rR ?_ | refine x2 ?_ | refine x3 ?_ | refine x4 ?_ | refine r2 ?_ | refine r3 ?_ | refine r4 ?_
      refine run_endcut ?_
      refine ⟨x, bi, bt, ?_⟩
      simp only [go_sem, ↓reduceIte, f0, f1, f2, e.1, e.1.symm, e2.1, e2.1.symm, e3.1, e3.1.symm]
      refine ⟨((hl1.new (hl1.none hbi)).new (hl1.none e.2)).new (hl1.none e3.2), hl1.none e3.2, hl1.none hbi, hl1.none e.2⟩
    · try dsimp only
      repeat first | ((first | (with_reducible first | refine sS ?_ | refine sA ?_ | refine sC ?_) | (with_reducible refine iT ?_; refine sT rfl ?_) | (with_reducible refine i0 ?_; refine s0 rfl ?_) | (with_reducible refine iO ?_; refine sO rfl ?_)); intro bC bR bU hC hR hU; simp only [go_sem, ↓reduceIte, f0, make145, make25]; subst hC hR hU) | (with_reducible refine rN ?_; subst hbq) | (with_reducible refine iR ?_; refine rG (by simp only [compL, gtOf, nthDst]; exact rfl) ?_) | (with_reducible refine rB fun cq hcq => ?_; subst hcq) | (with_reducible refine x1 ?_; clear hbq bq) | (with_reducible refine r1 ?_; clear hbq bq) | (with_reducible refine x5 ?_ ?_; focus rfl) | (with_reducible refine iL ?_; refine rL (by rw [Tryz.results48]) (HLess.refl _) ?_; simp only [go_sem, ↓reduceIte, aPack, Option.some.injEq, exists_eq_left', f0, make145, make25]) | with_reducible first | refine nS ?_ | refine nD ?_ | refine rS fun bq hbq => ?_ | refine rK ?_ | refine rE ?_ | refine rXx ?_ | refine rR ?_ | refine x2 ?_ | refine x3 ?_ | refine x4 ?_ | refine r2 ?_ | refine r3 ?_ | refine r4 ?_
      intro bt hbt
      try dsimp only
      repeat first | ((first | (with_reducible first | refine sS ?_ | refine sA ?_ | refine sC ?_) | (with_reducible refine iT ?_; refine sT rfl ?_) | (with_reducible refine i0 ?_; refine s0 rfl ?_) | (with_reducible refine iO ?_; refine sO rfl ?_)); intro bC bR bU hC hR hU; simp only [go_sem, ↓reduceIte, f0, make145, make25]; subst hC hR hU) | (with_reducible refine rN ?_; subst hbq) | (with_reducible refine iR ?_; refine rG (by simp only [compL, gtOf, nthDst]; exact rfl) ?_) | (with_reducible refine rB fun cq hcq => ?_; subst hcq) | (with_reducible refine x1 ?_; clear hbq bq) | (with_reducible refine r1 ?_; clear hbq bq) | (with_reducible refine x5 ?_ ?_; focus rfl) | (with_reducible refine iL ?_; refine rL (by rw [Tryz.results48]) (HLess.refl _) ?_; simp only [go_sem, ↓reduceIte, aPack, Option.some.injEq, exists_eq_left', f0, make145, make25]) | with_reducible first | refine nS ?_ | refine nD ?_ | refine rS fun bq hbq => ?_ | refine rK ?_ | refine rE ?_ | refine rXx ?_ | refine rR ?_ | refine x2 ?_ | refine x3 ?_ | refine x4 ?_ | refine r2 ?_ | refine r3 ?_ | refine r4 ?_
      intro bi hbi
      have e := fresh_if hbi
      try dsimp only
      repeat first | ((first | (with_reducible first | refine sS ?_ | refine sA ?_ | refine sC ?_) | (with_reducible refine iT ?_; refine sT rfl ?_) | (with_reducible refine i0 ?_; refine s0 rfl ?_) | (with_reducible refine iO ?_; refine sO rfl ?_)); intro bC bR bU hC hR hU; simp only [go_sem, ↓reduceIte, f0, make145, make25, build147]; subst hC hR hU) | (with_reducible refine rN ?_; subst hbq) | (with_reducible refine iR ?_; refine rG (by simp only [compL, gtOf, nthDst]; exact rfl) ?_) | (with_reducible refine rB fun cq hcq => ?_; subst hcq) | (with_reducible refine x1 ?_; clear hbq bq) | (with_reducible refine r1 ?_; clear hbq bq) | (with_reducible refine x5 ?_ ?_; focus rfl) | (with_reducible refine iL ?_; refine rL (by rw [Tryz.results48]) (HLess.refl _) ?_; simp only [go_sem, ↓reduceIte, aPack, Option.some.injEq, exists_eq_left', f0, make145, make25, build147]) | with_reducible first | refine nS ?_ | refine nD ?_ | refine rS fun bq hbq => ?_ | refine rK ?_ | refine rE ?_ | refine rXx ?_ | refine rR ?_ | refine x2 ?_ | refine x3 ?_ | refine x4 ?_ | refine r2 ?_ | refine r3 ?_ | refine r4 ?_
      intro x hx
      have e2 := fresh_if hx
      have e3 := fresh_if e2.2
      try dsimp only
      repeat first | ((first | (with_reducible first | refine sS ?_ | refine sA ?_ | refine sC ?_) | (with_reducible refine iT ?_; refine sT rfl ?_) | (with_reducible refine i0 ?_; refine s0 rfl ?_) | (with_reducible refine iO ?_; refine sO rfl ?_)); intro bC bR bU hC hR hU; simp only [go_sem, ↓reduceIte, f0, build147]; subst hC hR hU) | (with_reducible refine rN ?_; subst hbq) | (with_reducible refine iR ?_; refine rG (by simp only [compL, gtOf, nthDst]; exact rfl) ?_) | (with_reducible refine rB fun cq hcq => ?_; subst hcq) | (with_reducible refine x1 ?_; clear hbq bq) | (with_reducible refine r1 ?_; clear hbq bq) | (with_reducible refine x5 ?_ ?_; focus rfl) | (with_reducible refine iL ?_; refine rL (by rw [Tryz.results48]) (HLess.refl _) ?_; simp only [go_sem, ↓reduceIte, aPack, Option.some.injEq, exists_eq_left', f0, build147]) | with_reducible first | refine nS ?_ | refine nD ?_ | refine rS fun bq hbq => ?_ | refine rK ?_ | refine rE ?_ | refine rXx ?_ | refine rR ?_ | refine x2 ?_ | refine x3 ?_ | refine x4 ?_ | refine r2 ?_ | refine r3 ?_ | refine r4 ?_
      refine run_endcut ?_
      refine ⟨x, bi, bt, ?_⟩
      simp only [go_sem, ↓reduceIte, f0, f1, f2, e.1, e.1.symm, e2.1, e2.1.symm, e3.1, e3.1.symm]
      refine ⟨((hl1.new (hl1.none hbt)).new (hl1.none e.2)).new (hl1.none e3.2), hl1.none e3.2, hl1.none e.2, hl1.none hbt⟩
  clear f0 f1 f2 hl1
  obtain ⟨x, bi, bt, f0, f1, f2, f12, hl1, sx, si, stt, nx, ni, nt⟩ := hI
  subst hbq
  have dxi : x ≠ bi := by intro e; rw [e, si] at sx; injection sx with sx; injection sx with _ sx; cases sx
  have dxt : x ≠ bt := by intro e; rw [e, stt] at sx; injection sx with sx; injection sx with _ sx; cases sx
  have dit : bi ≠ bt := by intro e; rw [e, stt] at si; injection si with si; injection si with _ si; cases si
  try dsimp only
  repeat first | ((first | (with_reducible first | refine sS ?_ | refine sA ?_ | refine sC ?_) | (with_reducible refine iT ?_; refine sT rfl ?_) | (with_reducible refine i0 ?_; refine s0 rfl ?_) | (with_reducible refine iO ?_; refine sO rfl ?_)); intro bC bR bU hC hR hU; simp only [go_sem, ↓reduceIte]; subst hC hR hU) | (with_reducible refine rN ?_; subst hbq) | (with_reducible refine iR ?_; refine rG (by simp only [compL, gtOf, nthDst]; exact rfl) ?_) | (with_reducible refine x1 ?_; clear hbq bq) | (with_reducible refine r1 ?_; clear hbq bq) | (with_reducible refine x5 ?_ ?_; focus rfl) | (with_reducible refine iL ?_; refine rL (by rw [Tryz.results48]) (HLess.refl _) ?_; simp only [go_sem, ↓reduceIte, aPack, Option.some.injEq, exists_eq_left']) | with_reducible first | refine nS ?_ | refine nD ?_ | refine rS fun bq hbq => ?_ | refine rK ?_ | refine rE ?_ | refine rXx ?_ | refine rR ?_ | refine x2 ?_ | refine x3 ?_ | refine x4 ?_ | refine r2 ?_ | refine r3 ?_ | refine r4 ?_
  refine run_cutS (fun τ h' => ∃ bm, τ 1 = .list 4 (encs l) l.length .none ∧ τ 2 = .list 4 (encs m) m.length .none ∧ τ 12 = .ptr x 0 ∧ HLess h' h ∧ h' x = some (.cells [.int .i64 pars, .sl bi 0 60, .sl bm 0 60, .sl bt 0 60] 147) ∧ h' bi = some (.cells ((List.replicate 60 none).map icell) 4) ∧ h' bt = some (.cells ((List.replicate 60 none).flatMap tcell) 27) ∧ h' bm = some (.cells ((List.replicate 60 (-1)).map fun i => AV.int .i64 i) 3) ∧ h bm = Option.none) ?_ fun τ h' hI => ?_
  · try dsimp only
    repeat first | ((first | (with_reducible first | refine sS ?_ | refine sA ?_ | refine sC ?_) | (with_reducible refine iT ?_; refine sT rfl ?_) | (with_reducible refine i0 ?_; refine s0 rfl ?_) | (with_reducible refine iO ?_; refine sO rfl ?_)); intro bC bR bU hC hR hU; simp only [go_sem, ↓reduceIte]; subst hC hR hU) | (with_reducible refine rN ?_; subst hbq) | (with_reducible refine iR ?_; refine rG (by simp only [compL, gtOf, nthDst]; exact rfl) ?_) | (with_reducible refine rB fun cq hcq => ?_; subst hcq) | (with_reducible refine x1 ?_; clear hbq bq) | (with_reducible refine r1 ?_; clear hbq bq) | (with_reducible refine x5 ?_ ?_; focus rfl) | (with_reducible refine iL ?_; refine rL (by rw [Tryz.results48]) (HLess.refl _) ?_; simp only [go_sem, ↓reduceIte, aPack, Option.some.injEq, exists_eq_left']) | with_reducible first | refine nS ?_ | refine nD ?_ | refine rS fun bq hbq => ?_ | refine rK ?_ | refine rE ?_ | refine rXx ?_ | refine rR ?_ | refine x2 ?_ | refine x3 ?_ | refine x4 ?_ | refine r2 ?_ | refine r3 ?_ | refine r4 ?_
    refine run_loop (fun k τ h' => ∃ (i : Nat) (mv : AV), k + i = 60 ∧ τ 1 = .list 4 (encs l) l.length .none ∧ τ 2 = .list 4 (encs m) m.length .none ∧ τ 12 = .ptr x 0 ∧ τ 13 = .int .i64 i ∧ HLess h' h ∧ h' x = some (.cells [.int .i64 pars, .sl bi 0 60, mv, .sl bt 0 60] 147) ∧ h' bi = some (.cells ((List.replicate 60 none).map icell) 4) ∧ h' bt = some (.cells ((List.replicate 60 none).flatMap tcell) 27) ∧ ((i = 0 ∧ mv = .list 0 [] 0 .nil) ∨ ∃ bm, mv = .sl bm 0 i ∧ h' bm = some (.cells ((List.replicate i (-1)).map fun i => AV.int .i64 i) 3) ∧ h bm = Option.none)) 60 ?_ ?_
    · exact ⟨0, _, rfl, f1, f2, f12, rfl, hl1, sx, si, stt, .inl ⟨rfl, rfl⟩⟩
    intro c hc k τ h' hI
    clear f0 f1 f2 f12 hl1 sx si stt
    obtain ⟨i, mv, hk, f1, f2, f12, f13, hl', sx, si, stt, hmv⟩ := hI
    subst hc
    by_cases hi : i < 60
    · have hd : decide ((i : Int) < 60) = true := by simp; omega
      try dsimp only
      repeat first | ((first | (with_reducible first | refine sS ?_ | refine sA ?_ | refine sC ?_) | (with_reducible refine iT ?_; refine sT rfl ?_) | (with_reducible refine i0 ?_; refine s0 rfl ?_) | (with_reducible refine iO ?_; refine sO rfl ?_)); intro bC bR bU hC hR hU; simp only [go_sem, ↓reduceIte, f12, f13, sx, hd, build77]; subst hC hR hU) | (with_reducible refine rN ?_; subst hbq) | (with_reducible refine iR ?_; refine rG (by simp only [compL, gtOf, nthDst]; exact rfl) ?_) | (with_reducible refine rB fun cq hcq => ?_; subst hcq) | (with_reducible refine x1 ?_; clear hbq bq) | (with_reducible refine r1 ?_; clear hbq bq) | (with_reducible refine x5 ?_ ?_; focus rfl) | (with_reducible refine iL ?_; refine rL (by rw [Tryz.results48]) (HLess.refl _) ?_; simp only [go_sem, ↓reduceIte, aPack, Option.some.injEq, exists_eq_left', f12, f13, sx, hd, build77]) | with_reducible first | refine nS ?_ | refine nD ?_ | refine rS fun bq hbq => ?_ | refine rK ?_ | refine rE ?_ | refine rXx ?_ | refine rR ?_ | refine x2 ?_ | refine x3 ?_ | refine x4 ?_ | refine r2 ?_ | refine r3 ?_ | refine r4 ?_
      refine cAppend_own ?_
      have hrep : (List.replicate (i + 1) (-1)).map (fun i => AV.int .i64 i) = (List.replicate i (-1)).map (fun i => AV.int .i64 i) ++ [AV.int .i64 (-1)] := by rw [List.replicate_succ', List.map_append]; rfl
      rcases hmv with ⟨rfl, rfl⟩ | ⟨bm, rfl, sbm, nbm⟩
      · simp only [go_sem, ↓reduceIte, cOwnStep]
        intro q hq'
        have qx := ne_of_new hq' sx
        have qi := ne_of_new hq' si
        have qt := ne_of_new hq' stt
        rw [own_new el_77 el_77 sz_3 by_3 ze_3 ⟨rfl, by decide⟩ (.inr rfl) (.inl rfl) rfl (by decide) (by decide)]
        simp only [go_sem, ↓reduceIte, f12, sx, qx]
        try dsimp only
        repeat first | ((first | (with_reducible first | refine sS ?_ | refine sA ?_ | refine sC ?_) | (with_reducible refine iT ?_; refine sT rfl ?_) | (with_reducible refine i0 ?_; refine s0 rfl ?_) | (with_reducible refine iO ?_; refine sO rfl ?_)); intro bC bR bU hC hR hU; simp only [go_sem, ↓reduceIte, f12, f13, sx, qx, wrap_in (show -9223372036854775808 ≤ ((0 : Nat) : Int) + 1 by omega) (show ((0 : Nat) : Int) + 1 ≤ 9223372036854775807 by omega)]; subst hC hR hU) | (with_reducible refine rN ?_; subst hbq) | (with_reducible refine iR ?_; refine rG (by simp only [compL, gtOf, nthDst]; exact rfl) ?_) | (with_reducible refine rB fun cq hcq => ?_; subst hcq) | (with_reducible refine x1 ?_; clear hbq bq) | (with_reducible refine r1 ?_; clear hbq bq) | (with_reducible refine x5 ?_ ?_; focus rfl) | (with_reducible refine iL ?_; refine rL (by rw [Tryz.results48]) (HLess.refl _) ?_; simp only [go_sem, ↓reduceIte, aPack, Option.some.injEq, exists_eq_left', f12, f13, sx, qx, wrap_in (show -9223372036854775808 ≤ ((0 : Nat) : Int) + 1 by omega) (show ((0 : Nat) : Int) + 1 ≤ 9223372036854775807 by omega)]) | with_reducible first | refine nS ?_ | refine nD ?_ | refine rS fun bq hbq => ?_ | refine rK ?_ | refine rE ?_ | refine rXx ?_ | refine rR ?_ | refine x2 ?_ | refine x3 ?_ | refine x4 ?_ | refine r2 ?_ | refine r3 ?_ | refine r4 ?_
        refine run_loopN (m := k - 1) (by omega) ⟨1, .sl q 0 1, by omega, ?_⟩
        simp only [go_sem, ↓reduceIte, f1, f2, f12, dxi, dxt, dxi.symm, dxt.symm, qx, qi, qt, si, stt, qx.symm, hrep]
        exact ⟨rfl, (hl'.new (hl'.none hq')).new nx, .inr ⟨q, rfl, by rw [if_neg qx.symm, if_pos rfl]; rfl, hl'.none hq'⟩⟩
      · simp only [go_sem, ↓reduceIte, cOwnStep]
        intro q hq'
        have qx := ne_of_new hq' sx
        have qi := ne_of_new hq' si
        have qt := ne_of_new hq' stt
        have qm := ne_of_new hq' sbm
        have dxm : x ≠ bm := by intro e; rw [e, sbm] at sx; injection sx with sx; injection sx with _ sx; cases sx
        have dim : bi ≠ bm := by intro e; rw [e, sbm] at si; injection si with si; injection si with _ si; cases si
        have dtm : bt ≠ bm := by intro e; rw [e, sbm] at stt; injection stt with stt; injection stt with _ stt; cases stt
        rw [own_more el_77 el_77 sz_3 by_3 ze_3 ⟨rfl, by decide⟩ sbm (by rw [List.length_map, List.length_replicate, Nat.mul_one]) rfl (by decide) (by omega)]
        simp only [go_sem, ↓reduceIte, f12, sx, qx, dxm]
        try dsimp only
        repeat first | ((first | (with_reducible first | refine sS ?_ | refine sA ?_ | refine sC ?_) | (with_reducible refine iT ?_; refine sT rfl ?_) | (with_reducible refine i0 ?_; refine s0 rfl ?_) | (with_reducible refine iO ?_; refine sO rfl ?_)); intro bC bR bU hC hR hU; simp only [go_sem, ↓reduceIte, f12, f13, sx, qx, dxm, wrap_in (show -9223372036854775808 ≤ (i : Int) + 1 by omega) (show (i : Int) + 1 ≤ 9223372036854775807 by omega)]; subst hC hR hU) | (with_reducible refine rN ?_; subst hbq) | (with_reducible refine iR ?_; refine rG (by simp only [compL, gtOf, nthDst]; exact rfl) ?_) | (with_reducible refine rB fun cq hcq => ?_; subst hcq) | (with_reducible refine x1 ?_; clear hbq bq) | (with_reducible refine r1 ?_; clear hbq bq) | (with_reducible refine x5 ?_ ?_; focus rfl) | (with_reducible refine iL ?_; refine rL (by rw [Tryz.results48]) (HLess.refl _) ?_; simp only [go_sem, ↓reduceIte, aPack, Option.some.injEq, exists_eq_left', f12, f13, sx, qx, dxm, wrap_in (show -9223372036854775808 ≤ (i : Int) + 1 by omega) (show (i : Int) + 1 ≤ 9223372036854775807 by omega)]) | with_reducible first | refine nS ?_ | refine nD ?_ | refine rS fun bq hbq => ?_ | refine rK ?_ | refine rE ?_ | refine rXx ?_ | refine rR ?_ | refine x2 ?_ | refine x3 ?_ | refine x4 ?_ | refine r2 ?_ | refine r3 ?_ | refine r4 ?_
        refine run_loopN (m := k - 1) (by omega) ⟨i + 1, .sl q 0 (i + 1), by omega, ?_⟩
        simp only [go_sem, ↓reduceIte, f1, f2, f12, dxi, dxt, dxi.symm, dxt.symm, qx, qi, qt, dim, dtm, si, stt, qx.symm, hrep]
        exact ⟨rfl, ((hl'.new nbm).new (hl'.none hq')).new nx, .inr ⟨q, rfl, by rw [if_neg qx.symm, if_pos rfl], hl'.none hq'⟩⟩
    · have hi60 : i = 60 := by omega
      have hd : decide ((i : Int) < 60) = false := by simp; omega
      try dsimp only
      repeat first | ((first | (with_reducible first | refine sS ?_ | refine sA ?_ | refine sC ?_) | (with_reducible refine iT ?_; refine sT rfl ?_) | (with_reducible refine i0 ?_; refine s0 rfl ?_) | (with_reducible refine iO ?_; refine sO rfl ?_)); intro bC bR bU hC hR hU; simp only [go_sem, ↓reduceIte, f13, hd]; subst hC hR hU) | (with_reducible refine rN ?_; subst hbq) | (with_reducible refine iR ?_; refine rG (by simp only [compL, gtOf, nthDst]; exact rfl) ?_) | (with_reducible refine rB fun cq hcq => ?_; subst hcq) | (with_reducible refine x1 ?_; clear hbq bq) | (with_reducible refine r1 ?_; clear hbq bq) | (with_reducible refine x5 ?_ ?_; focus rfl) | (with_reducible refine iL ?_; refine rL (by rw [Tryz.results48]) (HLess.refl _) ?_; simp only [go_sem, ↓reduceIte, aPack, Option.some.injEq, exists_eq_left', f13, hd]) | with_reducible first | refine nS ?_ | refine nD ?_ | refine rS fun bq hbq => ?_ | refine rK ?_ | refine rE ?_ | refine rXx ?_ | refine rR ?_ | refine x2 ?_ | refine x3 ?_ | refine x4 ?_ | refine r2 ?_ | refine r3 ?_ | refine r4 ?_
      subst hi60
      rcases hmv with ⟨h0, _⟩ | ⟨bm, rfl, sbm, nbm⟩
      · cases h0
      refine run_endcut ?_
      refine ⟨bm, ?_⟩
      simp only [go_sem, ↓reduceIte, f1, f2, f12]
      exact ⟨hl', sx, si, stt, sbm, nbm⟩
  clear f0 f1 f2 f12 hl1 sx si stt
  obtain ⟨bm, f1, f2, f12, hl1, sx, si, stt, sbm, nbm⟩ := hI
  subst hbq
  have dxm : x ≠ bm := by intro e; rw [e, sbm] at sx; injection sx with sx; injection sx with _ sx; cases sx
  have dim : bi ≠ bm := by intro e; rw [e, sbm] at si; injection si with si; injection si with _ si; cases si
  have dtm : bt ≠ bm := by intro e; rw [e, sbm] at stt; injection stt with stt; injection stt with _ stt; cases stt
  have hfitl := refFitErrs_small l hfl
  have hfitm := refFitErrs_small m hfm
  have c0x : cutH [x, bm] h' x = Option.none := cutH_ex (by simp)
  have c0m : cutH [x, bm] h' bm = Option.none := cutH_ex (by simp)
  have c0i : cutH [x, bm] h' bi = some (.cells ((List.replicate 60 none).map icell) 4) := by rw [cutH_at (by simp; exact ⟨dxi.symm, dim⟩)]; exact si
  have c0t : cutH [x, bm] h' bt = some (.cells ((List.replicate 60 none).flatMap tcell) 27) := by rw [cutH_at (by simp; exact ⟨dxt.symm, dtm⟩)]; exact stt
  have c0l : HLess (cutH [x, bm] h') h := cutH_over hl1 (fun j hj => by
    simp only [List.mem_cons, List.not_mem_nil, or_false] at hj
    rcases hj with rfl | rfl
    · exact nx
    · exact nbm)
  have hP0 : PMatcher x bm (.sl bi 0 60) (.sl bt 0 60) pars (cutH [x, bm] h') (List.replicate 60 (-1)) h' := ⟨cutH_less _ _, sx, sbm, List.length_replicate⟩
  generalize cutH [x, bm] h' = h0 at *
  try dsimp only
  repeat first | ((first | (with_reducible first | refine sS ?_ | refine sA ?_ | refine sC ?_) | (with_reducible refine iT ?_; refine sT rfl ?_) | (with_reducible refine i0 ?_; refine s0 rfl ?_) | (with_reducible refine iO ?_; refine sO rfl ?_)); intro bC bR bU hC hR hU; simp only [go_sem, ↓reduceIte]; subst hC hR hU) | (with_reducible refine rN ?_; subst hbq) | (with_reducible refine iR ?_; refine rG (by simp only [compL, gtOf, nthDst]; exact rfl) ?_) | (with_reducible refine x1 ?_; clear hbq bq) | (with_reducible refine r1 ?_; clear hbq bq) | (with_reducible refine x5 ?_ ?_; focus rfl) | (with_reducible refine iL ?_; refine rL (by rw [Tryz.results48]) (HLess.refl _) ?_; simp only [go_sem, ↓reduceIte, aPack, Option.some.injEq, exists_eq_left']) | with_reducible first | refine nS ?_ | refine nD ?_ | refine rS fun bq hbq => ?_ | refine rK ?_ | refine rE ?_ | refine rXx ?_ | refine rR ?_ | refine x2 ?_ | refine x3 ?_ | refine x4 ?_ | refine r2 ?_ | refine r3 ?_ | refine r4 ?_
  refine run_cutS (fun τ h' => ∃ mn, patternL pars l (List.replicate 60 (-1)) = some mn ∧ τ 1 = .list 4 (encs l) l.length .none ∧ τ 2 = .list 4 (encs m) m.length .none ∧ τ 12 = .ptr x 0 ∧ PMatcher x bm (.sl bi 0 60) (.sl bt 0 60) pars h0 mn h') ?_ fun τ h' hI => ?_
  · try dsimp only
    repeat first | ((first | (with_reducible first | refine sS ?_ | refine sA ?_ | refine sC ?_) | (with_reducible refine iT ?_; refine sT rfl ?_) | (with_reducible refine i0 ?_; refine s0 rfl ?_) | (with_reducible refine iO ?_; refine sO rfl ?_)); intro bC bR bU hC hR hU; simp only [go_sem, ↓reduceIte]; subst hC hR hU) | (with_reducible refine rN ?_; subst hbq) | (with_reducible refine iR ?_; refine rG (by simp only [compL, gtOf, nthDst]; exact rfl) ?_) | (with_reducible refine rB fun cq hcq => ?_; subst hcq) | (with_reducible refine x1 ?_; clear hbq bq) | (with_reducible refine r1 ?_; clear hbq bq) | (with_reducible refine x5 ?_ ?_; focus rfl) | (with_reducible refine iL ?_; refine rL (by rw [Tryz.results48]) (HLess.refl _) ?_; simp only [go_sem, ↓reduceIte, aPack, Option.some.injEq, exists_eq_left']) | with_reducible first | refine nS ?_ | refine nD ?_ | refine rS fun bq hbq => ?_ | refine rK ?_ | refine rE ?_ | refine rXx ?_ | refine rR ?_ | refine x2 ?_ | refine x3 ?_ | refine x4 ?_ | refine r2 ?_ | refine r3 ?_ | refine r4 ?_
    refine run_loop (fun k τ h' => ∃ (i : Nat) (mn : List Int), k + i = l.length ∧ patternL pars (l.drop i) mn = patternL pars l (List.replicate 60 (-1)) ∧ τ 1 = .list 4 (encs l) l.length .none ∧ τ 2 = .list 4 (encs m) m.length .none ∧ τ 12 = .ptr x 0 ∧ τ 14 = .int .i64 i ∧ PMatcher x bm (.sl bi 0 60) (.sl bt 0 60) pars h0 mn h') l.length ?_ ?_
    · exact ⟨0, _, rfl, rfl, f1, f2, f12, rfl, hP0⟩
    intro c hc k τ h' hI
    clear f1 f2 f12 hl1 sx si stt sbm hP0
    obtain ⟨i, mn, hk, hix, f1, f2, f12, f14, hP⟩ := hI
    subst hc
    by_cases hi : i < l.length
    · obtain ⟨u, hu⟩ : ∃ u, l[i]? = some u := ⟨_, List.getElem?_eq_getElem hi⟩
      obtain ⟨r, hr⟩ := encs_at l i hu
      have hdrop : l.drop i = u :: l.drop (i + 1) := by
        rw [List.drop_eq_getElem_cons hi]
        rw [List.getElem?_eq_getElem hi] at hu; injection hu with hu; rw [hu]
      rw [hdrop, patternL] at hix
      have hfu := hfitl u (List.mem_of_getElem? hu)
      try dsimp only
      repeat first | ((first | (with_reducible first | refine sS ?_ | refine sA ?_ | refine sC ?_) | (with_reducible refine iT ?_; refine sT rfl ?_) | (with_reducible refine i0 ?_; refine s0 rfl ?_) | (with_reducible refine iO ?_; refine sO rfl ?_)); intro bC bR bU hC hR hU; simp only [go_sem, ↓reduceIte, f1, f12, f14, hi, hr]; subst hC hR hU) | (with_reducible refine rN ?_; subst hbq) | (with_reducible refine iR ?_; refine rG (by simp only [compL, gtOf, nthDst]; exact rfl) ?_) | (with_reducible refine rB fun cq hcq => ?_; subst hcq) | (with_reducible refine x1 ?_; clear hbq bq) | (with_reducible refine r1 ?_; clear hbq bq) | (with_reducible refine x5 ?_ ?_; focus rfl) | (with_reducible refine iL ?_; refine rL (by rw [Tryz.results48]) (HLess.refl _) ?_; simp only [go_sem, ↓reduceIte, aPack, Option.some.injEq, exists_eq_left', f1, f12, f14, hi, hr]) | with_reducible first | refine nS ?_ | refine nD ?_ | refine rS fun bq hbq => ?_ | refine rK ?_ | refine rE ?_ | refine rXx ?_ | refine rR ?_ | refine x2 ?_ | refine x3 ?_ | refine x4 ?_ | refine r2 ?_ | refine r3 ?_ | refine r4 ?_
      refine pattern_am x bm _ _ pars dxm u.size h0 c0x c0m u mn _ _ (Nat.le_refl _) (by omega) ((fits_parOk u.size).1 u 0 (Nat.le_refl _) hfu.2) hP (fun mn' h2 hs2 hP2 => ?_) (fun h2 hs2 hl4 => ?_)
      · rw [hs2, Option.bind_some] at hix
        try dsimp only
        repeat first | ((first | (with_reducible first | refine sS ?_ | refine sA ?_ | refine sC ?_) | (with_reducible refine iT ?_; refine sT rfl ?_) | (with_reducible refine i0 ?_; refine s0 rfl ?_) | (with_reducible refine iO ?_; refine sO rfl ?_)); intro bC bR bU hC hR hU; simp only [go_sem, ↓reduceIte, f1, f12, f14, wrap_in (show -9223372036854775808 ≤ (i : Int) + 1 by omega) (show (i : Int) + 1 ≤ 9223372036854775807 by omega)]; subst hC hR hU) | (with_reducible refine rN ?_; subst hbq) | (with_reducible refine iR ?_; refine rG (by simp only [compL, gtOf, nthDst]; exact rfl) ?_) | (with_reducible refine rB fun cq hcq => ?_; subst hcq) | (with_reducible refine x1 ?_; clear hbq bq) | (with_reducible refine r1 ?_; clear hbq bq) | (with_reducible refine x5 ?_ ?_; focus rfl) | (with_reducible refine iL ?_; refine rL (by rw [Tryz.results48]) (HLess.refl _) ?_; simp only [go_sem, ↓reduceIte, aPack, Option.some.injEq, exists_eq_left', f1, f12, f14, wrap_in (show -9223372036854775808 ≤ (i : Int) + 1 by omega) (show (i : Int) + 1 ≤ 9223372036854775807 by omega)]) | with_reducible first | refine nS ?_ | refine nD ?_ | refine rS fun bq hbq => ?_ | refine rK ?_ | refine rE ?_ | refine rXx ?_ | refine rR ?_ | refine x2 ?_ | refine x3 ?_ | refine x4 ?_ | refine r2 ?_ | refine r3 ?_ | refine r4 ?_
        refine run_loopN (m := k - 1) (by omega) ⟨i + 1, mn', by omega, hix, ?_⟩
        simp only [go_sem, ↓reduceIte, f1, f2, f12]
        exact ⟨rfl, hP2⟩
      · rw [hs2, Option.bind_none] at hix
        have hlh := hl4.trans c0l
        try dsimp only
        repeat first | ((first | (with_reducible first | refine sS ?_ | refine sA ?_ | refine sC ?_) | (with_reducible refine iT ?_; refine sT rfl ?_) | (with_reducible refine i0 ?_; refine s0 rfl ?_) | (with_reducible refine iO ?_; refine sO rfl ?_)); intro bC bR bU hC hR hU; simp only [go_sem, ↓reduceIte, f1, f12, f14]; subst hC hR hU) | (with_reducible refine rN ?_; subst hbq) | (with_reducible refine iR ?_; refine rG (by simp only [compL, gtOf, nthDst]; exact rfl) ?_) | (with_reducible refine rB fun cq hcq => ?_; subst hcq) | (with_reducible refine x1 ?_; clear hbq bq) | (with_reducible refine r1 ?_; clear hbq bq) | (with_reducible refine x5 ?_ ?_; focus rfl) | (with_reducible refine iL ?_; refine rL (by rw [Tryz.results48]) hlh ?_; simp only [go_sem, ↓reduceIte, aPack, Option.some.injEq, exists_eq_left', f1, f12, f14]) | with_reducible first | refine nS ?_ | refine nD ?_ | refine rS fun bq hbq => ?_ | refine rK ?_ | refine rE ?_ | refine rXx ?_ | refine rR ?_ | refine x2 ?_ | refine x3 ?_ | refine x4 ?_ | refine r2 ?_ | refine r3 ?_ | refine r4 ?_
        exact ret_as (by simp only [instR, hb, hfl, hfm, ← hix]; rfl) hq
    · rw [List.drop_eq_nil_of_le (by omega), patternL] at hix
      try dsimp only
      repeat first | ((first | (with_reducible first | refine sS ?_ | refine sA ?_ | refine sC ?_) | (with_reducible refine iT ?_; refine sT rfl ?_) | (with_reducible refine i0 ?_; refine s0 rfl ?_) | (with_reducible refine iO ?_; refine sO rfl ?_)); intro bC bR bU hC hR hU; simp only [go_sem, ↓reduceIte, f1, f14, hi]; subst hC hR hU) | (with_reducible refine rN ?_; subst hbq) | (with_reducible refine iR ?_; refine rG (by simp only [compL, gtOf, nthDst]; exact rfl) ?_) | (with_reducible refine rB fun cq hcq => ?_; subst hcq) | (with_reducible refine x1 ?_; clear hbq bq) | (with_reducible refine r1 ?_; clear hbq bq) | (with_reducible refine x5 ?_ ?_; focus rfl) | (with_reducible refine iL ?_; refine rL (by rw [Tryz.results48]) (HLess.refl _) ?_; simp only [go_sem, ↓reduceIte, aPack, Option.some.injEq, exists_eq_left', f1, f14, hi]) | with_reducible first | refine nS ?_ | refine nD ?_ | refine rS fun bq hbq => ?_ | refine rK ?_ | refine rE ?_ | refine rXx ?_ | refine rR ?_ | refine x2 ?_ | refine x3 ?_ | refine x4 ?_ | refine r2 ?_ | refine r3 ?_ | refine r4 ?_
      refine run_endcut ?_
      refine ⟨mn, hix.symm, ?_⟩
      simp only [go_sem, ↓reduceIte, f1, f2, f12]
      exact hP
  clear f1 f2 f12 hl1 sx si stt sbm hP0
  obtain ⟨mn, hmn, f1, f2, f12, hP⟩ := hI
  subst hbq
  have hR0 : RMatcher x bi bt (.sl bm 0 60) pars h (List.replicate 60 none) h' :=
    ⟨hP.less.trans c0l, hP.obj, hP.less _ _ c0i, hP.less _ _ c0t, List.length_replicate, fun t ht => by have := List.eq_of_mem_replicate ht; cases this⟩
  try dsimp only
  repeat first | ((first | (with_reducible first | refine sS ?_ | refine sA ?_ | refine sC ?_) | (with_reducible refine iT ?_; refine sT rfl ?_) | (with_reducible refine i0 ?_; refine s0 rfl ?_) | (with_reducible refine iO ?_; refine sO rfl ?_)); intro bC bR bU hC hR hU; simp only [go_sem, ↓reduceIte]; subst hC hR hU) | (with_reducible refine rN ?_; subst hbq) | (with_reducible refine iR ?_; refine rG (by simp only [compL, gtOf, nthDst]; exact rfl) ?_) | (with_reducible refine rB fun cq hcq => ?_; subst hcq) | (with_reducible refine x1 ?_; clear hbq bq) | (with_reducible refine r1 ?_; clear hbq bq) | (with_reducible refine x5 ?_ ?_; focus rfl) | (with_reducible refine iL ?_; refine rL (by rw [Tryz.results48]) (HLess.refl _) ?_; simp only [go_sem, ↓reduceIte, aPack, Option.some.injEq, exists_eq_left']) | with_reducible first | refine nS ?_ | refine nD ?_ | refine rS fun bq hbq => ?_ | refine rK ?_ | refine rE ?_ | refine rXx ?_ | refine rR ?_ | refine x2 ?_ | refine x3 ?_ | refine x4 ?_ | refine r2 ?_ | refine r3 ?_ | refine r4 ?_
  refine run_loop (fun k τ h' => ∃ (i : Nat) (st : RSt), k + i = l.length ∧ matchRL pars (l.drop i) (m.drop i) st = matchRL pars l m (List.replicate 60 none) ∧ τ 1 = .list 4 (encs l) l.length .none ∧ τ 2 = .list 4 (encs m) m.length .none ∧ τ 12 = .ptr x 0 ∧ τ 15 = .int .i64 i ∧ RMatcher x bi bt (.sl bm 0 60) pars h st h') l.length ?_ ?_
  · exact ⟨0, _, rfl, rfl, f1, f2, f12, rfl, hR0⟩
  intro c hc k τ h' hI
  clear f1 f2 f12 hR0 hP
  obtain ⟨i, st, hk, hix, f1, f2, f12, f15, hR⟩ := hI
  subst hc
  by_cases hi : i < l.length
  · have him : i < m.length := by omega
    obtain ⟨u, hu⟩ : ∃ u, l[i]? = some u := ⟨_, List.getElem?_eq_getElem hi⟩
    obtain ⟨v, hv⟩ : ∃ v, m[i]? = some v := ⟨_, List.getElem?_eq_getElem him⟩
    obtain ⟨r, hr⟩ := encs_at l i hu
    obtain ⟨r2, hr2⟩ := encs_at m i hv
    have hdrop : l.drop i = u :: l.drop (i + 1) := by
      rw [List.drop_eq_getElem_cons hi]
      rw [List.getElem?_eq_getElem hi] at hu; injection hu with hu; rw [hu]
    have hdrop2 : m.drop i = v :: m.drop (i + 1) := by
      rw [List.drop_eq_getElem_cons him]
      rw [List.getElem?_eq_getElem him] at hv; injection hv with hv; rw [hv]
    rw [hdrop, hdrop2, matchRL] at hix
    have hfu := hfitl u (List.mem_of_getElem? hu)
    have hfv := hfitm v (List.mem_of_getElem? hv)
    try dsimp only
    repeat first | ((first | (with_reducible first | refine sS ?_ | refine sA ?_ | refine sC ?_) | (with_reducible refine iT ?_; refine sT rfl ?_) | (with_reducible refine i0 ?_; refine s0 rfl ?_) | (with_reducible refine iO ?_; refine sO rfl ?_)); intro bC bR bU hC hR hU; simp only [go_sem, ↓reduceIte, f1, f2, f12, f15, hi, him, hr, hr2]; subst hC hR hU) | (with_reducible refine rN ?_; subst hbq) | (with_reducible refine iR ?_; refine rG (by simp only [compL, gtOf, nthDst]; exact rfl) ?_) | (with_reducible refine rB fun cq hcq => ?_; subst hcq) | (with_reducible refine x1 ?_; clear hbq bq) | (with_reducible refine r1 ?_; clear hbq bq) | (with_reducible refine x5 ?_ ?_; focus rfl) | (with_reducible refine iL ?_; refine rL (by rw [Tryz.results48]) (HLess.refl _) ?_; simp only [go_sem, ↓reduceIte, aPack, Option.some.injEq, exists_eq_left', f1, f2, f12, f15, hi, him, hr, hr2]) | with_reducible first | refine nS ?_ | refine nD ?_ | refine rS fun bq hbq => ?_ | refine rK ?_ | refine rE ?_ | refine rXx ?_ | refine rR ?_ | refine x2 ?_ | refine x3 ?_ | refine x4 ?_ | refine r2 ?_ | refine r3 ?_ | refine r4 ?_
    repeat with_reducible refine run_seq fun bq hbq => ?_
    refine run_draw (.take 0 (.take 1 (.take 2 (.take 3 (.take 4 (.take 5 (.take 6 (.take 7 (.take 8 (.one 9 [] (.take 10 (.done)))))))))))) (by kernel_rfl) (by simp only [compL, gtOf, nthDst]; exact rfl) ?_
    try dsimp only
    repeat first | ((first | (with_reducible first | refine sS ?_ | refine sA ?_ | refine sC ?_) | (with_reducible refine iT ?_; refine sT rfl ?_) | (with_reducible refine i0 ?_; refine s0 rfl ?_) | (with_reducible refine iO ?_; refine sO rfl ?_)); intro bC bR bU hC hR hU; simp only [go_sem, ↓reduceIte, f1, f2, f12, f15, hi, him, hr, hr2]; subst hC hR hU) | (with_reducible refine rN ?_; subst hbq) | (with_reducible refine iR ?_; refine rG (by simp only [compL, gtOf, nthDst]; exact rfl) ?_) | (with_reducible refine rB fun cq hcq => ?_; subst hcq) | (with_reducible refine x1 ?_; clear hbq bq) | (with_reducible refine r1 ?_; clear hbq bq) | (with_reducible refine x5 ?_ ?_; focus rfl) | (with_reducible refine iL ?_; refine rL (by rw [Tryz.results48]) (HLess.refl _) ?_; simp only [go_sem, ↓reduceIte, aPack, Option.some.injEq, exists_eq_left', f1, f2, f12, f15, hi, him, hr, hr2]) | with_reducible first | refine nS ?_ | refine nD ?_ | refine rS fun bq hbq => ?_ | refine rK ?_ | refine rE ?_ | refine rXx ?_ | refine rR ?_ | refine x2 ?_ | refine x3 ?_ | refine x4 ?_ | refine r2 ?_ | refine r3 ?_ | refine r4 ?_
    refine matchR_am x bi bt _ pars dxi dxt dit u.size h nx ni nt u v st _ _ (Nat.le_refl _) (by omega) (by omega) ((fits_parOk u.size).1 u 0 (Nat.le_refl _) hfu.2) hR (fun st' h2 hs2 hR2 => ?_) (fun h2 hs2 hl4 => ?_)
    · rw [hs2, Option.bind_some] at hix
      try dsimp only
      repeat first | ((first | (with_reducible first | refine sS ?_ | refine sA ?_ | refine sC ?_) | (with_reducible refine iT ?_; refine sT rfl ?_) | (with_reducible refine i0 ?_; refine s0 rfl ?_) | (with_reducible refine iO ?_; refine sO rfl ?_)); intro bC bR bU hC hR hU; simp only [go_sem, ↓reduceIte, f1, f2, f12, f15, wrap_in (show -9223372036854775808 ≤ (i : Int) + 1 by omega) (show (i : Int) + 1 ≤ 9223372036854775807 by omega)]; subst hC hR hU) | (with_reducible refine rN ?_; subst hbq) | (with_reducible refine iR ?_; refine rG (by simp only [compL, gtOf, nthDst]; exact rfl) ?_) | (with_reducible refine rB fun cq hcq => ?_; subst hcq) | (with_reducible refine x1 ?_; clear hbq bq) | (with_reducible refine r1 ?_; clear hbq bq) | (with_reducible refine x5 ?_ ?_; focus rfl) | (with_reducible refine iL ?_; refine rL (by rw [Tryz.results48]) (HLess.refl _) ?_; simp only [go_sem, ↓reduceIte, aPack, Option.some.injEq, exists_eq_left', f1, f2, f12, f15, wrap_in (show -9223372036854775808 ≤ (i : Int) + 1 by omega) (show (i : Int) + 1 ≤ 9223372036854775807 by omega)]) | with_reducible first | refine nS ?_ | refine nD ?_ | refine rS fun bq hbq => ?_ | refine rK ?_ | refine rE ?_ | refine rXx ?_ | refine rR ?_ | refine x2 ?_ | refine x3 ?_ | refine x4 ?_ | refine r2 ?_ | refine r3 ?_ | refine r4 ?_
      refine run_loopN (m := k - 1) (by omega) ⟨i + 1, st', by omega, hix, ?_⟩
      simp only [go_sem, ↓reduceIte, f1, f2, f12]
      exact ⟨rfl, hR2⟩
    · rw [hs2, Option.bind_none] at hix
      try dsimp only
      repeat first | ((first | (with_reducible first | refine sS ?_ | refine sA ?_ | refine sC ?_) | (with_reducible refine iT ?_; refine sT rfl ?_) | (with_reducible refine i0 ?_; refine s0 rfl ?_) | (with_reducible refine iO ?_; refine sO rfl ?_)); intro bC bR bU hC hR hU; simp only [go_sem, ↓reduceIte, f1, f2, f12, f15]; subst hC hR hU) | (with_reducible refine rN ?_; subst hbq) | (with_reducible refine iR ?_; refine rG (by simp only [compL, gtOf, nthDst]; exact rfl) ?_) | (with_reducible refine rB fun cq hcq => ?_; subst hcq) | (with_reducible refine x1 ?_; clear hbq bq) | (with_reducible refine r1 ?_; clear hbq bq) | (with_reducible refine x5 ?_ ?_; focus rfl) | (with_reducible refine iL ?_; refine rL (by rw [Tryz.results48]) hl4 ?_; simp only [go_sem, ↓reduceIte, aPack, Option.some.injEq, exists_eq_left', f1, f2, f12, f15]) | with_reducible first | refine nS ?_ | refine nD ?_ | refine rS fun bq hbq => ?_ | refine rK ?_ | refine rE ?_ | refine rXx ?_ | refine rR ?_ | refine x2 ?_ | refine x3 ?_ | refine x4 ?_ | refine r2 ?_ | refine r3 ?_ | refine r4 ?_
      exact ret_as (by simp only [instR, hb, hfl, hfm, hmn, ← hix]; rfl) hq
  · rw [List.drop_eq_nil_of_le (by omega), matchRL] at hix
    have hlh := hR.less
    try dsimp only
    repeat first | ((first | (with_reducible first | refine sS ?_ | refine sA ?_ | refine sC ?_) | (with_reducible refine iT ?_; refine sT rfl ?_) | (with_reducible refine i0 ?_; refine s0 rfl ?_) | (with_reducible refine iO ?_; refine sO rfl ?_)); intro bC bR bU hC hR hU; simp only [go_sem, ↓reduceIte, f1, f15, hi]; subst hC hR hU) | (with_reducible refine rN ?_; subst hbq) | (with_reducible refine iR ?_; refine rG (by simp only [compL, gtOf, nthDst]; exact rfl) ?_) | (with_reducible refine rB fun cq hcq => ?_; subst hcq) | (with_reducible refine x1 ?_; clear hbq bq) | (with_reducible refine r1 ?_; clear hbq bq) | (with_reducible refine x5 ?_ ?_; focus rfl) | (with_reducible refine iL ?_; refine rL (by rw [Tryz.results48]) hlh ?_; simp only [go_sem, ↓reduceIte, aPack, Option.some.injEq, exists_eq_left', f1, f15, hi]) | with_reducible first | refine nS ?_ | refine nD ?_ | refine rS fun bq hbq => ?_ | refine rK ?_ | refine rE ?_ | refine rXx ?_ | refine rR ?_ | refine x2 ?_ | refine x3 ?_ | refine x4 ?_ | refine r2 ?_ | refine r3 ?_ | refine r4 ?_
    exact ret_as (by simp only [instR, hb, hfl, hfm, hmn, ← hix]; rfl) hq
/- The law UnifyMatches, but for what is plain. -/


theorem sane_am (h : AHeap) (Q : AOut → AHeap → Prop) (hq : Q (.ret (.bool true)) h) : AmCalls Tryz.prog 13 [] h Q :=
  fun n => (sane_calls h n).mono fun o h' n' ⟨ho, hh, _⟩ => by subst ho; subst hh; exact hq
def noMatch (l m : List Term) : Bool := decide ((l.length : Int) > 6) || (decide ((m.length : Int) > 6) || (!fewL l || !fewL m))
theorem matches_am (pars : Int) (l m : List Term) (hpl : instF pars l m = instR pars l m) (h : AHeap) (Q : AOut → AHeap → Prop) (hq : Q (.ret (.bool true)) h) :
    AmCalls Tryz.prog 11 [.int .i64 pars, .list 4 (encs l) l.length .none, .list 4 (encs m) m.length .none] h Q := by
  refine AmCalls.of_sem (fn := Tryz.f11) Tryz.func11 rfl (by kernel_rfl) (by rw [Tryz.ntmps11]; simp) (enters_of Tryz.func11 (by kernel_rfl) (by kernel_rfl)) ?_
  try dsimp only
  repeat first | ((first | (with_reducible first | refine sS ?_ | refine sA ?_ | refine sC ?_) | (with_reducible refine iT ?_; refine sT rfl ?_) | (with_reducible refine i0 ?_; refine s0 rfl ?_) | (with_reducible refine iO ?_; refine sO rfl ?_)); intro bC bR bU hC hR hU; simp only [go_sem, ↓reduceIte]; subst hC hR hU) | (with_reducible refine rN ?_; subst hbq) | (with_reducible refine iR ?_; refine rG (by simp only [compL, gtOf, nthDst]; exact rfl) ?_) | (with_reducible refine rB fun cq hcq => ?_; subst hcq) | (with_reducible refine x1 ?_; clear hbq bq) | (with_reducible refine r1 ?_; clear hbq bq) | (with_reducible refine x5 ?_ ?_; focus rfl) | (with_reducible refine iL ?_; refine rL (by rw [Tryz.results11]) (HLess.refl _) ?_; simp only [go_sem, ↓reduceIte, aPack, Option.some.injEq, exists_eq_left']) | with_reducible first | refine nS ?_ | refine nD ?_ | refine rS fun bq hbq => ?_ | refine rK ?_ | refine rE ?_ | refine rXx ?_ | refine rR ?_ | refine x2 ?_ | refine x3 ?_ | refine x4 ?_ | refine r2 ?_ | refine r3 ?_ | refine r4 ?_
  refine sane_am _ _ ?_
  try dsimp only
  repeat first | ((first | (with_reducible first | refine sS ?_ | refine sA ?_) | (with_reducible refine iT ?_; refine sT rfl ?_) | (with_reducible refine i0 ?_; refine s0 rfl ?_) | (with_reducible refine iO ?_; refine sO rfl ?_)); intro bC bR bU hC hR hU; simp only [go_sem, ↓reduceIte]; subst hC hR hU) | with_reducible first | refine nS ?_ | refine nD ?_
  refine run_next ?_; subst hbq
  repeat with_reducible refine run_seq fun bq hbq => ?_
  refine run_cutS (fun τ h' => τ 0 = .int .i64 pars ∧ τ 1 = .list 4 (encs l) l.length .none ∧ τ 2 = .list 4 (encs m) m.length .none ∧ τ 7 = .bool true ∧ τ 32 = .bool (noMatch l m) ∧ h' = h) ?_ fun τ h' hI => ?_
  · cases b1 : decide ((l.length : Int) > 6)
    case true =>
      try dsimp only
      repeat first | ((first | (with_reducible first | refine sS ?_ | refine sA ?_ | refine sC ?_) | (with_reducible refine iT ?_; refine sT rfl ?_) | (with_reducible refine i0 ?_; refine s0 rfl ?_) | (with_reducible refine iO ?_; refine sO rfl ?_)); intro bC bR bU hC hR hU; simp only [go_sem, ↓reduceIte, b1]; subst hC hR hU) | (with_reducible refine rN ?_; subst hbq) | (with_reducible refine iR ?_; refine rG (by simp only [compL, gtOf, nthDst]; exact rfl) ?_) | (with_reducible refine rB fun cq hcq => ?_; subst hcq) | (with_reducible refine x1 ?_; clear hbq bq) | (with_reducible refine r1 ?_; clear hbq bq) | (with_reducible refine x5 ?_ ?_; focus rfl) | (with_reducible refine iL ?_; refine rL (by rw [Tryz.results11]) (HLess.refl _) ?_; simp only [go_sem, ↓reduceIte, aPack, Option.some.injEq, exists_eq_left', b1]) | with_reducible first | refine nS ?_ | refine nD ?_ | refine rS fun bq hbq => ?_ | refine rK ?_ | refine rE ?_ | refine rXx ?_ | refine rR ?_ | refine x2 ?_ | refine x3 ?_ | refine x4 ?_ | refine r2 ?_ | refine r3 ?_ | refine r4 ?_
      refine run_endcut ?_
      simp only [go_sem, ↓reduceIte, noMatch, b1]
    cases b2 : decide ((m.length : Int) > 6)
    case true =>
      try dsimp only
      repeat first | ((first | (with_reducible first | refine sS ?_ | refine sA ?_ | refine sC ?_) | (with_reducible refine iT ?_; refine sT rfl ?_) | (with_reducible refine i0 ?_; refine s0 rfl ?_) | (with_reducible refine iO ?_; refine sO rfl ?_)); intro bC bR bU hC hR hU; simp only [go_sem, ↓reduceIte, b1, b2]; subst hC hR hU) | (with_reducible refine rN ?_; subst hbq) | (with_reducible refine iR ?_; refine rG (by simp only [compL, gtOf, nthDst]; exact rfl) ?_) | (with_reducible refine rB fun cq hcq => ?_; subst hcq) | (with_reducible refine x1 ?_; clear hbq bq) | (with_reducible refine r1 ?_; clear hbq bq) | (with_reducible refine x5 ?_ ?_; focus rfl) | (with_reducible refine iL ?_; refine rL (by rw [Tryz.results11]) (HLess.refl _) ?_; simp only [go_sem, ↓reduceIte, aPack, Option.some.injEq, exists_eq_left', b1, b2]) | with_reducible first | refine nS ?_ | refine nD ?_ | refine rS fun bq hbq => ?_ | refine rK ?_ | refine rE ?_ | refine rXx ?_ | refine rR ?_ | refine x2 ?_ | refine x3 ?_ | refine x4 ?_ | refine r2 ?_ | refine r3 ?_ | refine r4 ?_
      refine run_endcut ?_
      simp only [go_sem, ↓reduceIte, noMatch, b1, b2]
    have h1 : l.length ≤ 6 := by simp only [decide_eq_false_iff_not] at b1; omega
    have h2 : m.length ≤ 6 := by simp only [decide_eq_false_iff_not] at b2; omega
    try dsimp only
    repeat first | ((first | (with_reducible first | refine sS ?_ | refine sA ?_ | refine sC ?_) | (with_reducible refine iT ?_; refine sT rfl ?_) | (with_reducible refine i0 ?_; refine s0 rfl ?_) | (with_reducible refine iO ?_; refine sO rfl ?_)); intro bC bR bU hC hR hU; simp only [go_sem, ↓reduceIte, b1, b2, build24_0]; subst hC hR hU) | (with_reducible refine rN ?_; subst hbq) | (with_reducible refine iR ?_; refine rG (by simp only [compL, gtOf, nthDst]; exact rfl) ?_) | (with_reducible refine rB fun cq hcq => ?_; subst hcq) | (with_reducible refine x1 ?_; clear hbq bq) | (with_reducible refine r1 ?_; clear hbq bq) | (with_reducible refine x5 ?_ ?_; focus rfl) | (with_reducible refine iL ?_; refine rL (by rw [Tryz.results11]) (HLess.refl _) ?_; simp only [go_sem, ↓reduceIte, aPack, Option.some.injEq, exists_eq_left', b1, b2, build24_0]) | with_reducible first | refine nS ?_ | refine nD ?_ | refine rS fun bq hbq => ?_ | refine rK ?_ | refine rE ?_ | refine rXx ?_ | refine rR ?_ | refine x2 ?_ | refine x3 ?_ | refine x4 ?_ | refine r2 ?_ | refine r3 ?_ | refine r4 ?_
    refine few_am 0 .nil l _ _ (by omega) ?_
    cases b3 : fewL l
    · try dsimp only
      repeat first | ((first | (with_reducible first | refine sS ?_ | refine sA ?_ | refine sC ?_) | (with_reducible refine iT ?_; refine sT rfl ?_) | (with_reducible refine i0 ?_; refine s0 rfl ?_) | (with_reducible refine iO ?_; refine sO rfl ?_)); intro bC bR bU hC hR hU; simp only [go_sem, ↓reduceIte, b1, b2, b3]; subst hC hR hU) | (with_reducible refine rN ?_; subst hbq) | (with_reducible refine iR ?_; refine rG (by simp only [compL, gtOf, nthDst]; exact rfl) ?_) | (with_reducible refine rB fun cq hcq => ?_; subst hcq) | (with_reducible refine x1 ?_; clear hbq bq) | (with_reducible refine r1 ?_; clear hbq bq) | (with_reducible refine x5 ?_ ?_; focus rfl) | (with_reducible refine iL ?_; refine rL (by rw [Tryz.results11]) (HLess.refl _) ?_; simp only [go_sem, ↓reduceIte, aPack, Option.some.injEq, exists_eq_left', b1, b2, b3]) | with_reducible first | refine nS ?_ | refine nD ?_ | refine rS fun bq hbq => ?_ | refine rK ?_ | refine rE ?_ | refine rXx ?_ | refine rR ?_ | refine x2 ?_ | refine x3 ?_ | refine x4 ?_ | refine r2 ?_ | refine r3 ?_ | refine r4 ?_
      refine run_endcut ?_
      simp only [go_sem, ↓reduceIte, noMatch, b1, b2, b3]
    try dsimp only
    repeat first | ((first | (with_reducible first | refine sS ?_ | refine sA ?_ | refine sC ?_) | (with_reducible refine iT ?_; refine sT rfl ?_) | (with_reducible refine i0 ?_; refine s0 rfl ?_) | (with_reducible refine iO ?_; refine sO rfl ?_)); intro bC bR bU hC hR hU; simp only [go_sem, ↓reduceIte, b1, b2, b3, build24_0]; subst hC hR hU) | (with_reducible refine rN ?_; subst hbq) | (with_reducible refine iR ?_; refine rG (by simp only [compL, gtOf, nthDst]; exact rfl) ?_) | (with_reducible refine rB fun cq hcq => ?_; subst hcq) | (with_reducible refine x1 ?_; clear hbq bq) | (with_reducible refine r1 ?_; clear hbq bq) | (with_reducible refine x5 ?_ ?_; focus rfl) | (with_reducible refine iL ?_; refine rL (by rw [Tryz.results11]) (HLess.refl _) ?_; simp only [go_sem, ↓reduceIte, aPack, Option.some.injEq, exists_eq_left', b1, b2, b3, build24_0]) | with_reducible first | refine nS ?_ | refine nD ?_ | refine rS fun bq hbq => ?_ | refine rK ?_ | refine rE ?_ | refine rXx ?_ | refine rR ?_ | refine x2 ?_ | refine x3 ?_ | refine x4 ?_ | refine r2 ?_ | refine r3 ?_ | refine r4 ?_
    refine few_am 0 .nil m _ _ (by omega) ?_
    try dsimp only
    repeat first | ((first | (with_reducible first | refine sS ?_ | refine sA ?_ | refine sC ?_) | (with_reducible refine iT ?_; refine sT rfl ?_) | (with_reducible refine i0 ?_; refine s0 rfl ?_) | (with_reducible refine iO ?_; refine sO rfl ?_)); intro bC bR bU hC hR hU; simp only [go_sem, ↓reduceIte, b1, b2, b3]; subst hC hR hU) | (with_reducible refine rN ?_; subst hbq) | (with_reducible refine iR ?_; refine rG (by simp only [compL, gtOf, nthDst]; exact rfl) ?_) | (with_reducible refine rB fun cq hcq => ?_; subst hcq) | (with_reducible refine x1 ?_; clear hbq bq) | (with_reducible refine r1 ?_; clear hbq bq) | (with_reducible refine x5 ?_ ?_; focus rfl) | (with_reducible refine iL ?_; refine rL (by rw [Tryz.results11]) (HLess.refl _) ?_; simp only [go_sem, ↓reduceIte, aPack, Option.some.injEq, exists_eq_left', b1, b2, b3]) | with_reducible first | refine nS ?_ | refine nD ?_ | refine rS fun bq hbq => ?_ | refine rK ?_ | refine rE ?_ | refine rXx ?_ | refine rR ?_ | refine x2 ?_ | refine x3 ?_ | refine x4 ?_ | refine r2 ?_ | refine r3 ?_ | refine r4 ?_
    refine run_endcut ?_
    simp only [go_sem, ↓reduceIte, noMatch, b1, b2, b3]
  obtain ⟨f0, f1, f2, f7, f32, hh⟩ := hI
  rw [hh]; clear hh h'
  subst hbq
  cases hb : noMatch l m
  case true =>
    rw [hb] at f32
    try dsimp only
    repeat first | ((first | (with_reducible first | refine sS ?_ | refine sA ?_ | refine sC ?_) | (with_reducible refine iT ?_; refine sT rfl ?_) | (with_reducible refine i0 ?_; refine s0 rfl ?_) | (with_reducible refine iO ?_; refine sO rfl ?_)); intro bC bR bU hC hR hU; simp only [go_sem, ↓reduceIte, f32, f7]; subst hC hR hU) | (with_reducible refine rN ?_; subst hbq) | (with_reducible refine iR ?_; refine rG (by simp only [compL, gtOf, nthDst]; exact rfl) ?_) | (with_reducible refine rB fun cq hcq => ?_; subst hcq) | (with_reducible refine x1 ?_; clear hbq bq) | (with_reducible refine r1 ?_; clear hbq bq) | (with_reducible refine x5 ?_ ?_; focus rfl) | (with_reducible refine iL ?_; refine rL (by rw [Tryz.results11]) (HLess.refl _) ?_; simp only [go_sem, ↓reduceIte, aPack, Option.some.injEq, exists_eq_left', f32, f7]) | with_reducible first | refine nS ?_ | refine nD ?_ | refine rS fun bq hbq => ?_ | refine rK ?_ | refine rE ?_ | refine rXx ?_ | refine rR ?_ | refine x2 ?_ | refine x3 ?_ | refine x4 ?_ | refine r2 ?_ | refine r3 ?_ | refine r4 ?_
    exact hq
  rw [hb] at f32
  have hlm : l.length ≤ 6 ∧ m.length ≤ 6 := by
    simp only [noMatch, Bool.or_eq_false_iff, decide_eq_false_iff_not] at hb
    omega
  try dsimp only
  repeat first | ((first | (with_reducible first | refine sS ?_ | refine sA ?_ | refine sC ?_) | (with_reducible refine iT ?_; refine sT rfl ?_) | (with_reducible refine i0 ?_; refine s0 rfl ?_) | (with_reducible refine iO ?_; refine sO rfl ?_)); intro bC bR bU hC hR hU; simp only [go_sem, ↓reduceIte, f0, f1, f2, f32, f7]; subst hC hR hU) | (with_reducible refine rN ?_; subst hbq) | (with_reducible refine iR ?_; refine rG (by simp only [compL, gtOf, nthDst]; exact rfl) ?_) | (with_reducible refine rB fun cq hcq => ?_; subst hcq) | (with_reducible refine x1 ?_; clear hbq bq) | (with_reducible refine r1 ?_; clear hbq bq) | (with_reducible refine x5 ?_ ?_; focus rfl) | (with_reducible refine iL ?_; refine rL (by rw [Tryz.results11]) (HLess.refl _) ?_; simp only [go_sem, ↓reduceIte, aPack, Option.some.injEq, exists_eq_left', f0, f1, f2, f32, f7]) | with_reducible first | refine nS ?_ | refine nD ?_ | refine rS fun bq hbq => ?_ | refine rK ?_ | refine rE ?_ | refine rXx ?_ | refine rR ?_ | refine x2 ?_ | refine x3 ?_ | refine x4 ?_ | refine r2 ?_ | refine r3 ?_ | refine r4 ?_
  refine instance_am pars l m _ _ (by omega) (by omega) ?_
  try dsimp only
  repeat first | ((first | (with_reducible first | refine sS ?_ | refine sA ?_ | refine sC ?_) | (with_reducible refine iT ?_; refine sT rfl ?_) | (with_reducible refine i0 ?_; refine s0 rfl ?_) | (with_reducible refine iO ?_; refine sO rfl ?_)); intro bC bR bU hC hR hU; simp only [go_sem, ↓reduceIte, f0, f1, f2, f32, f7]; subst hC hR hU) | (with_reducible refine rN ?_; subst hbq) | (with_reducible refine iR ?_; refine rG (by simp only [compL, gtOf, nthDst]; exact rfl) ?_) | (with_reducible refine rB fun cq hcq => ?_; subst hcq) | (with_reducible refine x1 ?_; clear hbq bq) | (with_reducible refine r1 ?_; clear hbq bq) | (with_reducible refine x5 ?_ ?_; focus rfl) | (with_reducible refine iL ?_; refine rL (by rw [Tryz.results11]) (HLess.refl _) ?_; simp only [go_sem, ↓reduceIte, aPack, Option.some.injEq, exists_eq_left', f0, f1, f2, f32, f7]) | with_reducible first | refine nS ?_ | refine nD ?_ | refine rS fun bq hbq => ?_ | refine rK ?_ | refine rE ?_ | refine rXx ?_ | refine rR ?_ | refine x2 ?_ | refine x3 ?_ | refine x4 ?_ | refine r2 ?_ | refine r3 ?_ | refine r4 ?_
  refine refInstance_am pars l m _ _ (by omega) (by omega) ?_
  rw [← hpl]
  generalize instF pars l m = r
  try dsimp only
  repeat first | ((first | (with_reducible first | refine sS ?_ | refine sA ?_ | refine sC ?_) | (with_reducible refine iT ?_; refine sT rfl ?_) | (with_reducible refine i0 ?_; refine s0 rfl ?_) | (with_reducible refine iO ?_; refine sO rfl ?_)); intro bC bR bU hC hR hU; simp only [go_sem, ↓reduceIte, f0, f1, f2, f32, f7]; subst hC hR hU) | (with_reducible refine rN ?_; subst hbq) | (with_reducible refine iR ?_; refine rG (by simp only [compL, gtOf, nthDst]; exact rfl) ?_) | (with_reducible refine rB fun cq hcq => ?_; subst hcq) | (with_reducible refine x1 ?_; clear hbq bq) | (with_reducible refine r1 ?_; clear hbq bq) | (with_reducible refine x5 ?_ ?_; focus rfl) | (with_reducible refine iL ?_; refine rL (by rw [Tryz.results11]) (HLess.refl _) ?_; simp only [go_sem, ↓reduceIte, aPack, Option.some.injEq, exists_eq_left', f0, f1, f2, f32, f7]) | with_reducible first | refine nS ?_ | refine nD ?_ | refine rS fun bq hbq => ?_ | refine rK ?_ | refine rE ?_ | refine rXx ?_ | refine rR ?_ | refine x2 ?_ | refine x3 ?_ | refine x4 ?_ | refine r2 ?_ | refine r3 ?_ | refine r4 ?_
  exact hq
end Go.Proofs.YthkjmiejaoomcaaGreat.Am
