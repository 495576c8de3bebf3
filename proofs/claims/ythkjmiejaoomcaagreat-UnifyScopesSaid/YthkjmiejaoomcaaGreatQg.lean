/- Part of the proof of a law of layer 5: own texts, joined. -/
import Derived.Test.YthkjmiejaoomcaaGreatQb
set_option linter.unusedVariables false
set_option linter.unusedSimpArgs false
set_option linter.unnecessarySimpa false
namespace Go.Proofs.YthkjmiejaoomcaaGreat.Am
open Go Go.RowKit Go.Proofs
set_option linter.unusedVariables false
set_option linter.unusedSimpArgs false
set_option maxRecDepth 100000
set_option maxHeartbeats 1000000
attribute [local go_sem] cSeq cDr cOne cStays nthCO panK aKind gWanted panC cPanic cOp needsName cStep aop aEval argEnv List.getD_cons_zero List.getD_cons_succ AV.known AV.cells if_true if_false cond_true cond_false aPut true_and and_true ofConst ofLeaf true_imp false_imp true_imp' false_imp' btt btf
 aFieldAt aAssert aLoad aPick aBin aInt aShift aStr unSl aLen aBuiltin Option.map_some Option.map_none upd_same eupd_at Nat.reduceBEq List.drop_zero List.drop_succ_cons List.drop_nil List.take_succ_cons List.take_zero List.head?_cons List.length_cons List.length_nil Nat.reduceAdd Nat.reduceLeDiff Nat.reduceEqDiff List.map_cons List.map_nil Nat.zero_add Nat.add_zero reduceCtorEq Bool.false_eq_true
 aResL aRes1 true_implies false_implies implies_true forall_const and_self Bool.not_true Bool.not_false Bool.cond_self upd_if aExtract aNil aIface aMax aMin aNot List.getElem?_cons_zero List.getElem?_cons_succ aIndexAt aStore aSplice AV.flat List.all_cons List.all_nil Bool.and_true Bool.true_and Bool.and_false Bool.false_and Int.natCast_nonneg Int.ofNat_lt Int.toNat_natCast cCall Nat.le_add_left List.append_nil List.contains_cons List.contains_nil Bool.or_true Bool.or_false Bool.true_or Bool.false_or Nat.reduceBEq List.cons_append List.nil_append
 sz_1 by_1 ag_1 tk_1 ze_1 sz_3 by_3 ag_3 tk_3 ze_3 sz_4 by_4 ag_4 tk_4 ze_4 sz_9 by_9 ag_9 tk_9 ze_9
 sz_20 by_20 ag_20 tk_20 ze_20 sz_22 by_22 ag_22 tk_22 el_22 ze_22 sz_24 by_24 ag_24 tk_24 ze_24 fi_24_0 pl_24 sz_25 by_25
 ag_25 tk_25 el_25 ze_25 sz_27 by_27 ag_27 tk_27 ze_27 fi_27_0 fi_27_1 fi_27_2 fi_27_3 pl_27 sz_30 by_30 ag_30 tk_30 ze_30 sz_34
 by_34 ag_34 tk_34 ze_34 fi_34_0 fi_34_1 fi_34_2 fi_34_3 pl_34 sz_40 by_40 ag_40 tk_40 el_40 ze_40 sz_42 by_42 ag_42 tk_42 ze_42
 fi_42_0 fi_42_1 fi_42_2 pl_42 sz_52 by_52 ag_52 tk_52 ze_52 fi_52_0 fi_52_1 fi_52_2 fi_52_3 pl_52 sz_60 by_60 ag_60 tk_60 ze_60 fi_60_0
 fi_60_1 pl_60 sz_62 by_62 ag_62 tk_62 ze_62 fi_62_0 fi_62_1 fi_62_2 fi_62_3 pl_62 sz_68 by_68 ag_68 tk_68 ze_68 fi_68_0 fi_68_1 pl_68
 sz_70 by_70 ag_70 tk_70 el_70 ze_70 sz_77 by_77 ag_77 tk_77 el_77 ze_77 sz_80 by_80 ag_80 tk_80 ze_80 sz_83 by_83 ag_83
 tk_83 ze_83 fi_83_0 fi_83_1 pl_83 sz_95 by_95 ag_95 tk_95 ze_95 sz_97 by_97 ag_97 tk_97 ze_97 sz_99 by_99 ag_99 tk_99 mp_99
 ze_99 sz_101 by_101 ag_101 tk_101 ze_101 fi_101_0 fi_101_1 fi_101_2 pl_101 sz_104 by_104 ag_104 tk_104 ze_104 sz_106 by_106 ag_106 tk_106 ze_106
 fi_106_0 fi_106_1 fi_106_2 pl_106 sz_108 by_108 ag_108 tk_108 ze_108 sz_109 by_109 ag_109 tk_109 ze_109 sz_110 by_110 ag_110 tk_110 el_110 ze_110
 sz_112 by_112 ag_112 tk_112 ze_112 fi_112_0 fi_112_1 fi_112_2 fi_112_3 pl_112 sz_115 by_115 ag_115 tk_115 ze_115 fi_115_0 fi_115_1 pl_115 sz_121 by_121
 ag_121 tk_121 ze_121 sz_125 by_125 ag_125 tk_125 ze_125 sz_126 by_126 ag_126 tk_126 mp_126 ze_126 sz_128 by_128 ag_128 tk_128 ze_128 fi_128_0
 fi_128_1 fi_128_2 fi_128_3 pl_128 sz_136 by_136 ag_136 tk_136 el_136 ze_136 sz_140 by_140 ag_140 tk_140 mp_140 ze_140 sz_142 by_142 ag_142 tk_142
 ze_142 fi_142_0 fi_142_1 pl_142 sz_144 by_144 ag_144 tk_144 ze_144 sz_145 by_145 ag_145 tk_145 el_145 ze_145 sz_147 by_147 ag_147 tk_147 ze_147
 fi_147_0 fi_147_1 fi_147_2 fi_147_3 pl_147 sz_150 by_150 ag_150 tk_150 ze_150 pl_150 sz_152 by_152 ag_152 tk_152 ze_152 fi_152_0 pl_152 sz_156 by_156
 ag_156 tk_156 ze_156 sz_158 by_158 ag_158 tk_158 ze_158 fi_158_0 fi_158_1 fi_158_2 pl_158 sz_160 by_160 ag_160 tk_160 mp_160 ze_160 sz_162 by_162
 ag_162 tk_162 ze_162 sz_164 by_164 ag_164 tk_164 ze_164 fi_164_0 fi_164_1 fi_164_2 pl_164 sz_167 by_167 ag_167 tk_167 ze_167 fi_167_0 fi_167_1 pl_167
 sz_173 by_173 ag_173 tk_173 el_173 ze_173 sz_189 by_189 ag_189 tk_189 ze_189 sz_198 by_198 ag_198 tk_198 ze_198
structure Term where
 kind : Int
 n : Int
 name : ByteArray
 args : List Term
def encs : List Term → List AV
 | [] => []
 | ⟨k, n, s, l⟩ :: ts => .int .i64 k :: .int .i64 n :: .str s :: .list 4 (encs l) l.length .none :: encs ts
abbrev cellsT (t : Term) : List AV := [.int .i64 t.kind, .int .i64 t.n, .str t.name, .list 4 (encs t.args) t.args.length .none]
abbrev enc (t : Term) : AV := .agg (cellsT t)
theorem encs_cons (t : Term) (ts : List Term) : encs (t :: ts) = .int .i64 t.kind :: .int .i64 t.n :: .str t.name :: .list 4 (encs t.args) t.args.length .none :: encs ts := by cases t; rw [encs]
theorem flat_drop {α : Type} {c : α → List AV} {z : Nat} (hz : ∀ x, (c x).length = z) : ∀ (l : List α) (k : Nat) {x : α}, l[k]? = some x → ∃ r, (l.flatMap c).drop (k * z) = c x ++ r
 | [], k, x, hk => by simp at hk
 | y :: l, 0, x, hk => by
  simp only [List.getElem?_cons_zero, Option.some.injEq] at hk; subst hk
  exact ⟨l.flatMap c, by simp⟩
 | y :: l, k + 1, x, hk => by
  simp only [List.getElem?_cons_succ] at hk
  obtain ⟨r, hr⟩ := flat_drop hz l k hk
  refine ⟨r, ?_⟩
  rw [List.flatMap_cons, Nat.add_mul, Nat.one_mul, Nat.add_comm, ← List.drop_drop, ← hz y, List.drop_left, hz y]
  exact hr
theorem encs_eq : ∀ ts : List Term, encs ts = ts.flatMap cellsT
 | [] => by rw [encs]; rfl
 | t :: ts => by rw [encs_cons, encs_eq ts]; rfl
theorem encs_at (ts : List Term) (k : Nat) {t : Term} (hk : ts[k]? = some t) : ∃ r, (encs ts).drop (k * 4) = .int .i64 t.kind :: .int .i64 t.n :: .str t.name :: .list 4 (encs t.args) t.args.length .none :: r := by
 rw [encs_eq]
 exact flat_drop (z := 4) (fun _ => rfl) ts k hk
theorem build1 {P : Program} {t E : TypeId} {z : Nat} {zv : Value} (hE : telem P t = some E) (hz : tsz P E = some z) (hv : tzero P E = some zv) {v : AV} (hl : v.cells.length = z) (hf : v.cells.all AV.flat = true) (hk : v.known = true) (hs : z ≤ 16777216) :
  aBuildSlice P t 1 [(0, v)] = some (.list z v.cells 1 .full) := by
 simp only [aBuildSlice, hE, hz, hv, Nat.one_mul]
 rw [if_pos hs]
 have : aFill (fun i => some (i * z, z)) (List.replicate z .any) [(0, v)] = some v.cells := by
  simp only [aFill, Nat.zero_mul, Nat.zero_add]
  rw [if_pos ⟨hk, hl, by simp⟩]
  simp only [aSplice, List.take_zero, List.nil_append, Option.some.injEq, hl]
  simp
 rw [this]
 simp only [hf, hl, and_self, if_true]
theorem build_term (x : Term) : aBuildSlice Tryz.prog 25 1 [(0, .agg (cellsT x))] = some (.list 4 (cellsT x) 1 .full) := build1 el_25 sz_27 ze_27 rfl rfl rfl (by decide)
theorem encs_nil : encs [] = [] := by rw [encs]
theorem encs_take (l : List Term) (i : Nat) {x : Term} (hx : l[i]? = some x) : encs (l.take (i + 1)) = encs (l.take i) ++ cellsT x := by
 rw [encs_eq, encs_eq, List.take_add_one, hx]
 simp
def isSimpleF (t : Term) : Bool := (t.kind == 2 || t.kind == 3) && (t.args.length : Int) == 0
theorem isSimple_am (t : Term) (h : AHeap) (Q : AOut → AHeap → Prop) (hq : Q (.ret (.bool (isSimpleF t))) h) : AmCalls Tryz.prog 137 [enc t] h Q := by
 refine AmCalls.of_sem (fn := Tryz.f137) Tryz.func137 rfl (by kernel_rfl) (by rw [Tryz.ntmps137]; simp) (enters_of Tryz.func137 (by kernel_rfl) (by kernel_rfl)) ?_
 repeat refine run_seq fun bq hbq => ?_
 refine run_region (by simp only [compL, gtOf, nthDst]; exact rfl) ?_
 simp only [go_sem, ↓reduceIte]
 intro p hp
 refine run_next ?_; subst hbq
 repeat refine run_seq fun bq hbq => ?_
 refine run_region (by simp only [compL, gtOf, nthDst]; exact rfl) ?_
 have fin : HLess (upd h p (some (AObj.cells [.int .i64 t.kind, .int .i64 t.n, .str t.name, .list 4 (encs t.args) t.args.length .none] 27))) h := HLess.one hp
 cases hk : (t.kind == 2) <;> cases hk3 : (t.kind == 3)
 all_goals
  simp only [go_sem, ↓reduceIte, hk, hk3]
  refine run_next ?_; subst hbq
  refine run_ret (by rw [Tryz.results137]) fin ?_
  simp only [go_sem, ↓reduceIte, aPack, Option.some.injEq, exists_eq_left']
  exact ret_as (by simp [isSimpleF, hk, hk3]) hq
def isF (a b : Term) : Bool := a.kind == b.kind && a.n == b.n
theorem is_am (a b : Term) (h : AHeap) (Q : AOut → AHeap → Prop) (hq : Q (.ret (.bool (isF a b))) h) : AmCalls Tryz.prog 139 [enc a, enc b] h Q := by
 refine AmCalls.of_sem (fn := Tryz.f139) Tryz.func139 rfl (by kernel_rfl) (by rw [Tryz.ntmps139]; simp) (enters_of Tryz.func139 (by kernel_rfl) (by kernel_rfl)) ?_
 repeat refine run_seq fun bq hbq => ?_
 refine run_region (by simp only [compL, gtOf, nthDst]; exact rfl) ?_
 simp only [go_sem, ↓reduceIte]
 intro p hp q hq'
 have hne := fresh_two hq'
 refine run_next ?_; subst hbq
 repeat refine run_seq fun bq hbq => ?_
 refine run_region (by simp only [compL, gtOf, nthDst]; exact rfl) ?_
 have fin : HLess (upd (upd h p (some (AObj.cells (cellsT a) 27))) q (some (AObj.cells (cellsT b) 27))) h := (HLess.one hq').trans (HLess.one hp)
 cases hk : (a.kind == b.kind)
 all_goals
  simp only [go_sem, ↓reduceIte, hne.1, hne.1.symm, hk]
  refine run_next ?_; subst hbq
  refine run_ret (by rw [Tryz.results139]) fin ?_
  simp only [go_sem, ↓reduceIte, aPack, Option.some.injEq, exists_eq_left']
  exact ret_as (by simp [isF, hk]) hq
theorem run_cond_any {P : Program} {h : AHeap} {c : Operand} {a b : Code} {K : AK} {τ : Env} (hc : aEval τ c = .someBool) (h1 : AmSem P a K τ h) (h2 : AmSem P b K τ h) : AmSem P (.cond c a b) K τ h := .cond_any hc h1 h2
theorem build0_25 : aBuildSlice Tryz.prog 25 0 [] = some (.list 4 [] 0 .full) := by
 simp only [aBuildSlice, el_25, sz_27, ze_27, aFill]; rfl
theorem clone98_am (ts : List Term) (h : AHeap) (Q : AOut → AHeap → Prop) (hn : ts.length ≤ 1000000000) (h0 : ts = [] → Q (.ret (.list 4 [] 0 .full)) h) (h1 : ts ≠ [] → ∀ p, h p = Option.none → Q (.ret (.sl p 0 ts.length)) (upd h p (some (.cells (encs ts) 27)))) :
  AmCalls Tryz.prog 98 [.list 4 (encs ts) ts.length .none] h Q := by
 refine AmCalls.of_sem (fn := Tryz.f98) Tryz.func98 rfl (by kernel_rfl) (by rw [Tryz.ntmps98]; simp) (enters_of Tryz.func98 (by kernel_rfl) (by kernel_rfl)) ?_
 repeat refine run_seq fun bq hbq => ?_
 refine run_region (by simp only [compL, gtOf, nthDst]; exact rfl) ?_
 simp only [go_sem, ↓reduceIte]
 refine run_next ?_; subst hbq
 repeat refine run_seq fun bq hbq => ?_
 refine run_region (by simp only [compL, gtOf, nthDst]; exact rfl) ?_
 by_cases hts : ts = []
 ·subst hts
  simp only [go_sem, ↓reduceIte]
  refine run_next ?_; subst hbq
  repeat refine run_seq fun bq hbq => ?_
  refine run_cond_any (by simp only [go_sem, ↓reduceIte]) ?_ ?_
  ·repeat refine run_seq fun bq hbq => ?_
   refine run_region (by simp only [compL, gtOf, nthDst]; exact rfl) ?_
   simp only [go_sem, ↓reduceIte]
   refine run_next ?_; subst hbq
   refine run_ret_in ?_
   repeat first | (refine seqK_ret ?_; clear hbq bq) | refine cutK_ret ?_ | refine loopK_ret ?_ | refine blockK_ret ?_
   refine last_as (v := .list 4 [] 0 .full) (by rw [Tryz.results98]) (HLess.refl h) ?_ (h0 rfl)
   simp only [go_sem, ↓reduceIte, aPack, Option.some.injEq, exists_eq_left']
   exact LeAV.nil_full _ _
  ·refine run_skip ?_
   refine run_next ?_; subst hbq
   repeat refine run_seq fun bq hbq => ?_
   refine run_region (by simp only [compL, gtOf, nthDst]; exact rfl) ?_
   simp only [go_sem, ↓reduceIte, build0_25]
   refine cAppend_list ?_
   simp only [go_sem, ↓reduceIte, build0_25]
   intro p hp
   rw [append_idle el_25 el_25 sz_27 by_27 ze_27 ⟨rfl, by decide⟩ (.inl rfl) (.inl rfl) (by decide)]
   refine run_next ?_; subst hbq
   refine run_ret_as (v := .list 4 [] 0 .full) (by rw [Tryz.results98]) (HLess.refl h) ?_ (h0 rfl)
   simp only [go_sem, ↓reduceIte, aPack, Option.some.injEq, exists_eq_left']
   exact LeAV.refl _
 ·have hl : ts.length ≠ 0 := by simpa using hts
  simp only [go_sem, ↓reduceIte, hl]
  refine run_next ?_; subst hbq
  repeat refine run_seq fun bq hbq => ?_
  refine run_cond (t := false) (by simp only [go_sem, ↓reduceIte]) ?_ ?_
  ·intro hf; cases hf
  ·intro _
   refine run_skip ?_
   refine run_next ?_; subst hbq
   repeat refine run_seq fun bq hbq => ?_
   refine run_region (by simp only [compL, gtOf, nthDst]; exact rfl) ?_
   simp only [go_sem, ↓reduceIte, build0_25]
   refine cAppend_own ?_
   simp only [go_sem, ↓reduceIte, cOwnStep, build0_25]
   intro p hp
   rw [own_new el_25 el_25 sz_27 by_27 ze_27 ⟨rfl, by decide⟩ (.inl rfl) (.inl rfl) rfl hl (by omega)]
   refine run_next ?_; subst hbq
   refine run_ret (by rw [Tryz.results98]) (HLess.refl _) ?_
   simp only [go_sem, ↓reduceIte, aPack, Option.some.injEq, exists_eq_left']
   exact h1 hts p hp
mutual
def partsF : Term → Int → Int
 | ⟨_, _, _, l⟩, m => partsL l m 1
def partsL : List Term → Int → Int → Int
 | [], _, n => n
 | t :: ts, m, n => if n ≤ m then partsL ts m (n + partsF t (m - n)) else n
end
mutual
def Term.size : Term → Nat
 | ⟨_, _, _, l⟩ => sizes l + 1
def sizes : List Term → Nat
 | [] => 0
 | t :: ts => t.size + sizes ts
end
theorem size_at : ∀ (l : List Term) (k : Nat) {t : Term}, l[k]? = some t → t.size ≤ sizes l
 | [], k, t, hk => by simp at hk
 | y :: l, 0, t, hk => by simp only [List.getElem?_cons_zero, Option.some.injEq] at hk; subst hk; rw [sizes]; omega
 | y :: l, k + 1, t, hk => by
  simp only [List.getElem?_cons_succ] at hk
  have := size_at l k hk
  rw [sizes]; omega
theorem size_arg (u : Term) (k : Nat) {t : Term} (hk : u.args[k]? = some t) : t.size < u.size := by
 have := size_at u.args k hk
 obtain ⟨a, b, c, l⟩ := u
 rw [Term.size]
 exact Nat.lt_succ_of_le this
theorem partsL_bound : ∀ (s : Nat), (∀ (t : Term) (m : Int), t.size ≤ s → 1 ≤ partsF t m ∧ partsF t m ≤ max 1 (m + 1)) ∧ (∀ (l : List Term) (m n : Int), sizes l ≤ s → n ≤ partsL l m n ∧ partsL l m n ≤ max n (m + 1)) := by
 intro s
 induction s with
 | zero =>
  refine ⟨fun t m ht => ?_, fun l m n hl => ?_⟩
  ·obtain ⟨a, b, c, l⟩ := t
   rw [Term.size] at ht; omega
  ·cases l with
   | nil => rw [partsL]; omega
   | cons t ts => obtain ⟨a, b, c, l⟩ := t; rw [sizes, Term.size] at hl; omega
 | succ s ih =>
  have ht : ∀ (t : Term) (m : Int), t.size ≤ s + 1 → 1 ≤ partsF t m ∧ partsF t m ≤ max 1 (m + 1) := by
   intro t m ht
   obtain ⟨a, b, c, l⟩ := t
   rw [Term.size] at ht
   rw [partsF]
   exact ih.2 l m 1 (by omega)
  refine ⟨ht, fun l => ?_⟩
  induction l with
  | nil => intro m n _; rw [partsL]; omega
  | cons t ts ihl =>
   intro m n hl
   rw [sizes] at hl
   rw [partsL]
   split
   ·have h1 := ht t (m - n) (by omega)
    have h2 := ihl m (n + partsF t (m - n)) (by omega)
    omega
   ·omega
theorem parts_am : ∀ (s : Nat) (t : Term) (m : Int) (h : AHeap) (Q : AOut → AHeap → Prop), t.size ≤ s → -1000000000 ≤ m → m ≤ 1000000000 → Q (.ret (.int .i64 (partsF t m))) h → AmCalls Tryz.prog 70 [enc t, .int .i64 m] h Q := by
 intro s
 induction s with
 | zero => intro t m h Q ht; obtain ⟨a, b, c, l⟩ := t; rw [Term.size] at ht; omega
 | succ s ih =>
  intro t m h Q ht hm1 hm2 hq
  refine AmCalls.of_sem (fn := Tryz.f70) Tryz.func70 rfl (by kernel_rfl) (by rw [Tryz.ntmps70]; simp) (enters_of Tryz.func70 (by kernel_rfl) (by kernel_rfl)) ?_
  repeat refine run_seq fun bq hbq => ?_
  refine run_region (by simp only [compL, gtOf, nthDst]; exact rfl) ?_
  simp only [go_sem, ↓reduceIte]
  intro p hp
  refine run_next ?_; subst hbq
  repeat refine run_seq fun bq hbq => ?_
  refine run_region (by simp only [compL, gtOf, nthDst]; exact rfl) ?_
  simp only [go_sem, ↓reduceIte]
  refine run_next ?_; subst hbq
  repeat refine run_seq fun bq hbq => ?_
  refine run_region (by simp only [compL, gtOf, nthDst]; exact rfl) ?_
  simp only [go_sem, ↓reduceIte]
  refine run_next ?_; subst hbq
  repeat refine run_seq fun bq hbq => ?_
  refine run_block fun cq hcq => ?_
  subst hcq
  refine run_loop (fun k τ h' => ∃ (i : Nat) (n : Int), k + i = t.args.length ∧ τ 1 = .int .i64 m ∧ τ 2 = .ptr p 0 ∧ τ 5 = .int .i64 n ∧ τ 6 = .int .i64 i ∧ h' = upd h p (some (.cells (cellsT t) 27)) ∧ (i : Int) + 1 ≤ n ∧ n ≤ max 1 (m + 1) ∧ partsL (t.args.drop i) m n = partsF t m) t.args.length ?_ ?_
  ·refine ⟨0, 1, rfl, ?_⟩
   simp only [go_sem, ↓reduceIte]
   refine ⟨rfl, by omega, by omega, ?_⟩
   obtain ⟨a, b, c, l⟩ := t
   simp only [List.drop_zero, partsF]
  ·intro c hc k τ h' hI
   obtain ⟨i, n, hk, e1, e2, e5, e6, rfl, hn1, hn2, hpart⟩ := hI
   subst hc
   repeat refine run_seq fun bq hbq => ?_
   refine run_region (by simp only [compL, gtOf, nthDst]; exact rfl) ?_
   simp only [go_sem, ↓reduceIte, e1, e2, e5, e6]
   by_cases hi : i < t.args.length
   ·have hd : decide (i < t.args.length) = true := by simpa using hi
    obtain ⟨u, hu⟩ : ∃ u, t.args[i]? = some u := ⟨_, List.getElem?_eq_getElem hi⟩
    have hdrop : t.args.drop i = u :: t.args.drop (i + 1) := by
     rw [List.drop_eq_getElem_cons hi]
     rw [List.getElem?_eq_getElem hi] at hu; injection hu with hu; rw [hu]
    simp only [go_sem, ↓reduceIte, e1, e2, e5, e6, hd]
    refine run_next ?_; subst hbq
    repeat refine run_seq fun bq hbq => ?_
    refine run_cond (t := decide (n ≤ m)) (by simp only [go_sem, ↓reduceIte]) ?_ ?_
    ·intro hnm
     have hnm' : n ≤ m := by simpa using hnm
     obtain ⟨r, hr⟩ := encs_at t.args i hu
     have hsz := size_arg t i hu
     have hb := (partsL_bound u.size).1 u (m - n) (Nat.le_refl _)
     refine run_skip ?_
     refine run_next ?_; subst hbq
     repeat refine run_seq fun bq hbq => ?_
     refine run_block fun cq hcq => ?_
     subst hcq
     repeat refine run_seq fun bq hbq => ?_
     refine run_region (by simp only [compL, gtOf, nthDst]; exact rfl) ?_
     simp only [go_sem, ↓reduceIte, e1, e2, e5, e6, hd, wrapI (m - n) (by omega), hi, hr]
     refine ih u (m - n) _ _ (by omega) (by omega) (by omega) ?_
     simp only [go_sem, ↓reduceIte, e1, e2, e5, e6, wrapI (n + partsF u (m - n)) (by omega)]
     refine run_endblock ?_
     refine run_next ?_; subst hbq
     repeat refine run_seq fun bq hbq => ?_
     refine run_region (by simp only [compL, gtOf, nthDst]; exact rfl) ?_
     simp only [go_sem, ↓reduceIte, e6, wrapI ((i : Int) + 1) (by omega)]
     refine run_loopN (m := k - 1) (by omega) ⟨i + 1, n + partsF u (m - n), by omega, ?_⟩
     simp only [go_sem, ↓reduceIte, e1, e2]
     rw [hdrop, partsL, if_pos hnm'] at hpart
     exact ⟨rfl, by omega, by omega, hpart⟩
    ·intro hnm
     have hnm' : ¬ n ≤ m := by simpa using hnm
     refine run_exit ?_
     repeat first | (refine seqK_exit ?_; clear hbq bq) | refine cutK_exit ?_ | refine loopK_exit ?_ | refine run_exit_eq ?_ | refine blockK_ne rfl ?_
     refine run_next ?_; subst hbq
     repeat refine run_seq fun bq hbq => ?_
     refine run_region (by simp only [compL, gtOf, nthDst]; exact rfl) ?_
     simp only [go_sem, ↓reduceIte, e5]
     refine run_next ?_; subst hbq
     refine run_ret (by rw [Tryz.results70]) (HLess.one hp) ?_
     simp only [go_sem, ↓reduceIte, aPack, Option.some.injEq, exists_eq_left']
     rw [hdrop, partsL, if_neg hnm'] at hpart
     exact ret_as (by rw [hpart]) hq
   ·have hd : decide (i < t.args.length) = false := by simpa using hi
    simp only [go_sem, ↓reduceIte, e1, e2, e5, e6, hd]
    refine run_next ?_; subst hbq
    repeat refine run_seq fun bq hbq => ?_
    refine run_cond (t := false) (by simp only [go_sem, ↓reduceIte]) ?_ ?_
    ·intro hf; cases hf
    ·intro _
     refine run_exit ?_
     repeat first | (refine seqK_exit ?_; clear hbq bq) | refine cutK_exit ?_ | refine loopK_exit ?_ | refine run_exit_eq ?_ | refine blockK_ne rfl ?_
     refine run_next ?_; subst hbq
     repeat refine run_seq fun bq hbq => ?_
     refine run_region (by simp only [compL, gtOf, nthDst]; exact rfl) ?_
     simp only [go_sem, ↓reduceIte, e5]
     refine run_next ?_; subst hbq
     refine run_ret (by rw [Tryz.results70]) (HLess.one hp) ?_
     simp only [go_sem, ↓reduceIte, aPack, Option.some.injEq, exists_eq_left']
     rw [List.drop_eq_nil_of_le (by omega), partsL] at hpart
     exact ret_as (by rw [hpart]) hq
theorem refParts_am : ∀ (s : Nat) (t : Term) (m : Int) (h : AHeap) (Q : AOut → AHeap → Prop), t.size ≤ s → -1000000000 ≤ m → m ≤ 1000000000 → Q (.ret (.int .i64 (partsF t m))) h → AmCalls Tryz.prog 86 [enc t, .int .i64 m] h Q := by
 intro s
 induction s with
 | zero => intro t m h Q ht; obtain ⟨a, b, c, l⟩ := t; rw [Term.size] at ht; omega
 | succ s ih =>
  intro t m h Q ht hm1 hm2 hq
  refine AmCalls.of_sem (fn := Tryz.f86) Tryz.func86 rfl (by kernel_rfl) (by rw [Tryz.ntmps86]; simp) (enters_of Tryz.func86 (by kernel_rfl) (by kernel_rfl)) ?_
  repeat with_reducible refine run_seq fun bq hbq => ?_
  refine run_region (by simp only [compL, gtOf, nthDst]; exact rfl) ?_
  simp only [go_sem, ↓reduceIte]
  intro p hp
  refine run_next ?_; subst hbq
  repeat with_reducible refine run_seq fun bq hbq => ?_
  refine run_region (by simp only [compL, gtOf, nthDst]; exact rfl) ?_
  simp only [go_sem, ↓reduceIte]
  refine run_next ?_; subst hbq
  repeat with_reducible refine run_seq fun bq hbq => ?_
  refine run_region (by simp only [compL, gtOf, nthDst]; exact rfl) ?_
  simp only [go_sem, ↓reduceIte]
  refine run_next ?_; subst hbq
  repeat with_reducible refine run_seq fun bq hbq => ?_
  refine run_block fun cq hcq => ?_
  subst hcq
  refine run_loop (fun k τ h' => ∃ (i : Nat) (n : Int), k + i = t.args.length ∧ τ 1 = .int .i64 m ∧ τ 2 = .ptr p 0 ∧ τ 5 = .int .i64 n ∧ τ 6 = .int .i64 i ∧ h' = upd h p (some (.cells (cellsT t) 27)) ∧ (i : Int) + 1 ≤ n ∧ n ≤ max 1 (m + 1) ∧ partsL (t.args.drop i) m n = partsF t m) t.args.length ?_ ?_
  ·refine ⟨0, 1, rfl, ?_⟩
   simp only [go_sem, ↓reduceIte]
   refine ⟨rfl, by omega, by omega, ?_⟩
   obtain ⟨a, b, c, l⟩ := t
   simp only [List.drop_zero, partsF]
  ·intro c hc k τ h' hI
   obtain ⟨i, n, hk, e1, e2, e5, e6, rfl, hn1, hn2, hpart⟩ := hI
   subst hc
   repeat with_reducible refine run_seq fun bq hbq => ?_
   refine run_region (by simp only [compL, gtOf, nthDst]; exact rfl) ?_
   simp only [go_sem, ↓reduceIte, e1, e2, e5, e6]
   by_cases hi : i < t.args.length
   ·have hd : decide (i < t.args.length) = true := by simpa using hi
    obtain ⟨u, hu⟩ : ∃ u, t.args[i]? = some u := ⟨_, List.getElem?_eq_getElem hi⟩
    have hdrop : t.args.drop i = u :: t.args.drop (i + 1) := by
     rw [List.drop_eq_getElem_cons hi]
     rw [List.getElem?_eq_getElem hi] at hu; injection hu with hu; rw [hu]
    simp only [go_sem, ↓reduceIte, e1, e2, e5, e6, hd]
    refine run_next ?_; subst hbq
    repeat with_reducible refine run_seq fun bq hbq => ?_
    refine run_cond (t := decide (n ≤ m)) (by simp only [go_sem, ↓reduceIte]) ?_ ?_
    ·intro hnm
     have hnm' : n ≤ m := by simpa using hnm
     obtain ⟨r, hr⟩ := encs_at t.args i hu
     have hsz := size_arg t i hu
     have hb := (partsL_bound u.size).1 u (m - n) (Nat.le_refl _)
     refine run_skip ?_
     refine run_next ?_; subst hbq
     repeat with_reducible refine run_seq fun bq hbq => ?_
     refine run_block fun cq hcq => ?_
     subst hcq
     repeat with_reducible refine run_seq fun bq hbq => ?_
     refine run_region (by simp only [compL, gtOf, nthDst]; exact rfl) ?_
     simp only [go_sem, ↓reduceIte, e1, e2, e5, e6, hd, wrapI (m - n) (by omega), hi, hr]
     refine ih u (m - n) _ _ (by omega) (by omega) (by omega) ?_
     simp only [go_sem, ↓reduceIte, e1, e2, e5, e6, wrapI (n + partsF u (m - n)) (by omega)]
     refine run_endblock ?_
     refine run_next ?_; subst hbq
     repeat with_reducible refine run_seq fun bq hbq => ?_
     refine run_region (by simp only [compL, gtOf, nthDst]; exact rfl) ?_
     simp only [go_sem, ↓reduceIte, e6, wrapI ((i : Int) + 1) (by omega)]
     refine run_loopN (m := k - 1) (by omega) ⟨i + 1, n + partsF u (m - n), by omega, ?_⟩
     simp only [go_sem, ↓reduceIte, e1, e2]
     rw [hdrop, partsL, if_pos hnm'] at hpart
     exact ⟨rfl, by omega, by omega, hpart⟩
    ·intro hnm
     have hnm' : ¬ n ≤ m := by simpa using hnm
     refine run_exit ?_
     repeat first | (with_reducible refine seqK_exit ?_; clear hbq bq) | with_reducible refine cutK_exit ?_ | with_reducible refine loopK_exit ?_ | with_reducible refine run_exit_eq ?_ | (with_reducible refine blockK_ne ?_ ?_; focus rfl)
     refine run_next ?_; subst hbq
     repeat with_reducible refine run_seq fun bq hbq => ?_
     refine run_region (by simp only [compL, gtOf, nthDst]; exact rfl) ?_
     simp only [go_sem, ↓reduceIte, e5]
     refine run_next ?_; subst hbq
     refine run_ret (by rw [Tryz.results86]) (HLess.one hp) ?_
     simp only [go_sem, ↓reduceIte, aPack, Option.some.injEq, exists_eq_left']
     rw [hdrop, partsL, if_neg hnm'] at hpart
     exact ret_as (by rw [hpart]) hq
   ·have hd : decide (i < t.args.length) = false := by simpa using hi
    simp only [go_sem, ↓reduceIte, e1, e2, e5, e6, hd]
    refine run_next ?_; subst hbq
    repeat with_reducible refine run_seq fun bq hbq => ?_
    refine run_cond (t := false) (by simp only [go_sem, ↓reduceIte]) ?_ ?_
    ·intro hf; cases hf
    ·intro _
     refine run_exit ?_
     repeat first | (with_reducible refine seqK_exit ?_; clear hbq bq) | with_reducible refine cutK_exit ?_ | with_reducible refine loopK_exit ?_ | with_reducible refine run_exit_eq ?_ | (with_reducible refine blockK_ne ?_ ?_; focus rfl)
     refine run_next ?_; subst hbq
     repeat with_reducible refine run_seq fun bq hbq => ?_
     refine run_region (by simp only [compL, gtOf, nthDst]; exact rfl) ?_
     simp only [go_sem, ↓reduceIte, e5]
     refine run_next ?_; subst hbq
     refine run_ret (by rw [Tryz.results86]) (HLess.one hp) ?_
     simp only [go_sem, ↓reduceIte, aPack, Option.some.injEq, exists_eq_left']
     rw [List.drop_eq_nil_of_le (by omega), partsL] at hpart
     exact ret_as (by rw [hpart]) hq
def goMax (x y : Int) : Int := if y > x then y else x
mutual
def levelsF : Term → Int → Int
 | ⟨_, _, _, l⟩, m => levelsL l m 0 + 1
def levelsL : List Term → Int → Int → Int
 | [], _, n => n
 | t :: ts, m, n => if m > 0 then levelsL ts m (goMax n (levelsF t (m - 1))) else n
end
theorem length_sizes : ∀ l : List Term, l.length ≤ sizes l := by
 intro l
 induction l with
 | nil => exact Nat.zero_le _
 | cons x l ih => obtain ⟨a, b, c, m⟩ := x; rw [sizes, Term.size, List.length_cons]; omega
theorem length_args (t : Term) : t.args.length < t.size := by
 obtain ⟨a, b, c, l⟩ := t
 rw [Term.size]
 exact Nat.lt_succ_of_le (length_sizes l)
theorem levels_bound : ∀ (s : Nat), (∀ (t : Term) (m : Int), t.size ≤ s → 1 ≤ levelsF t m ∧ levelsF t m ≤ t.size) ∧ (∀ (l : List Term) (m n : Int), sizes l ≤ s → n ≤ levelsL l m n ∧ levelsL l m n ≤ max n (sizes l)) := by
 intro s
 induction s with
 | zero =>
  refine ⟨fun t m ht => ?_, fun l m n hl => ?_⟩
  ·obtain ⟨a, b, c, l⟩ := t
   rw [Term.size] at ht; omega
  ·cases l with
   | nil => rw [levelsL]; omega
   | cons t ts => obtain ⟨a, b, c, l⟩ := t; rw [sizes, Term.size] at hl; omega
 | succ s ih =>
  have ht : ∀ (t : Term) (m : Int), t.size ≤ s + 1 → 1 ≤ levelsF t m ∧ levelsF t m ≤ t.size := by
   intro t m ht
   obtain ⟨a, b, c, l⟩ := t
   rw [Term.size] at ht ⊢
   rw [levelsF]
   have := ih.2 l m 0 (by omega)
   omega
  refine ⟨ht, fun l => ?_⟩
  induction l with
  | nil => intro m n _; rw [levelsL]; omega
  | cons t ts ihl =>
   intro m n hl
   rw [sizes] at hl ⊢
   rw [levelsL]
   split
   ·have h1 := ht t (m - 1) (by omega)
    have h2 := ihl m (goMax n (levelsF t (m - 1))) (by omega)
    have h3 : n ≤ goMax n (levelsF t (m - 1)) ∧ goMax n (levelsF t (m - 1)) ≤ max n (levelsF t (m - 1)) := by unfold goMax; split <;> omega
    omega
   ·omega
theorem levels_am : ∀ (s : Nat) (t : Term) (m : Int) (h : AHeap) (Q : AOut → AHeap → Prop), t.size ≤ s → t.size ≤ 1000000000 → -1000000000 ≤ m - t.size → m ≤ 1000000000 → Q (.ret (.int .i64 (levelsF t m))) h → AmCalls Tryz.prog 124 [enc t, .int .i64 m] h Q := by
 intro s
 induction s with
 | zero => intro t m h Q ht; obtain ⟨a, b, c, l⟩ := t; rw [Term.size] at ht; omega
 | succ s ih =>
  intro t m h Q ht htb hm1 hm2 hq
  have hlen := length_args t
  refine AmCalls.of_sem (fn := Tryz.f124) Tryz.func124 rfl (by kernel_rfl) (by rw [Tryz.ntmps124]; simp) (enters_of Tryz.func124 (by kernel_rfl) (by kernel_rfl)) ?_
  repeat with_reducible refine run_seq fun bq hbq => ?_
  refine run_region (by simp only [compL, gtOf, nthDst]; exact rfl) ?_
  simp only [go_sem, ↓reduceIte]
  intro p hp
  refine run_next ?_; subst hbq
  repeat with_reducible refine run_seq fun bq hbq => ?_
  refine run_region (by simp only [compL, gtOf, nthDst]; exact rfl) ?_
  simp only [go_sem, ↓reduceIte]
  refine run_next ?_; subst hbq
  repeat with_reducible refine run_seq fun bq hbq => ?_
  refine run_region (by simp only [compL, gtOf, nthDst]; exact rfl) ?_
  simp only [go_sem, ↓reduceIte]
  refine run_next ?_; subst hbq
  repeat with_reducible refine run_seq fun bq hbq => ?_
  refine run_block fun cq hcq => ?_
  subst hcq
  refine run_loop (fun k τ h' => ∃ (i : Nat) (n : Int), k + i = t.args.length ∧ τ 1 = .int .i64 m ∧ τ 2 = .ptr p 0 ∧ τ 5 = .int .i64 n ∧ τ 6 = .int .i64 i ∧ h' = upd h p (some (.cells (cellsT t) 27)) ∧ 0 ≤ n ∧ n ≤ 1000000000 ∧ levelsL (t.args.drop i) m n + 1 = levelsF t m) t.args.length ?_ ?_
  ·refine ⟨0, 0, rfl, ?_⟩
   simp only [go_sem, ↓reduceIte]
   refine ⟨rfl, by omega, by omega, ?_⟩
   obtain ⟨a, b, c, l⟩ := t
   simp only [List.drop_zero, levelsF]
  ·intro c hc k τ h' hI
   obtain ⟨i, n, hk, e1, e2, e5, e6, rfl, hn1, hn2, hpart⟩ := hI
   subst hc
   repeat with_reducible refine run_seq fun bq hbq => ?_
   refine run_region (by simp only [compL, gtOf, nthDst]; exact rfl) ?_
   simp only [go_sem, ↓reduceIte, e1, e2, e5, e6]
   by_cases hi : i < t.args.length
   ·have hd : decide (i < t.args.length) = true := by simpa using hi
    obtain ⟨u, hu⟩ : ∃ u, t.args[i]? = some u := ⟨_, List.getElem?_eq_getElem hi⟩
    have hdrop : t.args.drop i = u :: t.args.drop (i + 1) := by
     rw [List.drop_eq_getElem_cons hi]
     rw [List.getElem?_eq_getElem hi] at hu; injection hu with hu; rw [hu]
    simp only [go_sem, ↓reduceIte, e1, e2, e5, e6, hd]
    refine run_next ?_; subst hbq
    repeat with_reducible refine run_seq fun bq hbq => ?_
    refine run_cond (t := decide (m > 0)) (by simp only [go_sem, ↓reduceIte]) ?_ ?_
    ·intro hnm
     have hnm' : m > 0 := by simpa using hnm
     obtain ⟨r, hr⟩ := encs_at t.args i hu
     have hsz := size_arg t i hu
     have hb := (levels_bound u.size).1 u (m - 1) (Nat.le_refl _)
     have hg : goMax n (levelsF u (m - 1)) = (if levelsF u (m - 1) > n then levelsF u (m - 1) else n) := rfl
     have hg2 : 0 ≤ goMax n (levelsF u (m - 1)) ∧ goMax n (levelsF u (m - 1)) ≤ 1000000000 := by unfold goMax; split <;> omega
     refine run_skip ?_
     refine run_next ?_; subst hbq
     repeat with_reducible refine run_seq fun bq hbq => ?_
     refine run_block fun cq hcq => ?_
     subst hcq
     repeat with_reducible refine run_seq fun bq hbq => ?_
     refine run_region (by simp only [compL, gtOf, nthDst]; exact rfl) ?_
     simp only [go_sem, ↓reduceIte, e1, e2, e5, e6, hd, wrapI (m - 1) (by omega), hi, hr]
     refine ih u (m - 1) _ _ (by omega) (by omega) (by omega) (by omega) ?_
     simp only [go_sem, ↓reduceIte, e1, e2, e5, e6, ← hg]
     refine run_endblock ?_
     refine run_next ?_; subst hbq
     repeat with_reducible refine run_seq fun bq hbq => ?_
     refine run_region (by simp only [compL, gtOf, nthDst]; exact rfl) ?_
     simp only [go_sem, ↓reduceIte, e6, wrapI ((i : Int) + 1) (by omega)]
     refine run_loopN (m := k - 1) (by omega) ⟨i + 1, goMax n (levelsF u (m - 1)), by omega, ?_⟩
     simp only [go_sem, ↓reduceIte, e1, e2]
     rw [hdrop, levelsL, if_pos hnm'] at hpart
     exact ⟨rfl, hg2.1, hg2.2, hpart⟩
    ·intro hnm
     have hnm' : ¬ m > 0 := by simpa using hnm
     rw [hdrop, levelsL, if_neg hnm'] at hpart
     refine run_exit ?_
     repeat first | (with_reducible refine seqK_exit ?_; clear hbq bq) | with_reducible refine cutK_exit ?_ | with_reducible refine loopK_exit ?_ | with_reducible refine run_exit_eq ?_ | (with_reducible refine blockK_ne ?_ ?_; focus rfl)
     refine run_next ?_; subst hbq
     repeat with_reducible refine run_seq fun bq hbq => ?_
     refine run_region (by simp only [compL, gtOf, nthDst]; exact rfl) ?_
     simp only [go_sem, ↓reduceIte, e5, wrapI (n + 1) (by omega)]
     refine run_next ?_; subst hbq
     refine run_ret (by rw [Tryz.results124]) (HLess.one hp) ?_
     simp only [go_sem, ↓reduceIte, aPack, Option.some.injEq, exists_eq_left']
     exact ret_as (by rw [hpart]) hq
   ·have hd : decide (i < t.args.length) = false := by simpa using hi
    rw [List.drop_eq_nil_of_le (by omega), levelsL] at hpart
    simp only [go_sem, ↓reduceIte, e1, e2, e5, e6, hd]
    refine run_next ?_; subst hbq
    repeat with_reducible refine run_seq fun bq hbq => ?_
    refine run_cond (t := false) (by simp only [go_sem, ↓reduceIte]) ?_ ?_
    ·intro hf; cases hf
    ·intro _
     refine run_exit ?_
     repeat first | (with_reducible refine seqK_exit ?_; clear hbq bq) | with_reducible refine cutK_exit ?_ | with_reducible refine loopK_exit ?_ | with_reducible refine run_exit_eq ?_ | (with_reducible refine blockK_ne ?_ ?_; focus rfl)
     refine run_next ?_; subst hbq
     repeat with_reducible refine run_seq fun bq hbq => ?_
     refine run_region (by simp only [compL, gtOf, nthDst]; exact rfl) ?_
     simp only [go_sem, ↓reduceIte, e5, wrapI (n + 1) (by omega)]
     refine run_next ?_; subst hbq
     refine run_ret (by rw [Tryz.results124]) (HLess.one hp) ?_
     simp only [go_sem, ↓reduceIte, aPack, Option.some.injEq, exists_eq_left']
     exact ret_as (by rw [hpart]) hq
def sizedF (t : Term) : Int := if partsF t 4000 > 4000 then 2 else if levelsF t 100 > 100 then 5 else 0
theorem parts_exact : ∀ (s : Nat), (∀ (t : Term) (m : Int), t.size ≤ s → partsF t m ≤ m → partsF t m = t.size) ∧ (∀ (l : List Term) (m n : Int), sizes l ≤ s → partsL l m n ≤ m → partsL l m n = n + sizes l) := by
 intro s
 induction s with
 | zero =>
  refine ⟨fun t m ht => ?_, fun l m n hl => ?_⟩
  ·obtain ⟨a, b, c, l⟩ := t
   rw [Term.size] at ht; omega
  ·cases l with
   | nil => intro _; rw [partsL, sizes]; omega
   | cons t ts => obtain ⟨a, b, c, l⟩ := t; rw [sizes, Term.size] at hl; omega
 | succ s ih =>
  have ht : ∀ (t : Term) (m : Int), t.size ≤ s + 1 → partsF t m ≤ m → partsF t m = t.size := by
   intro t m ht hm
   obtain ⟨a, b, c, l⟩ := t
   rw [Term.size] at ht ⊢
   rw [partsF] at hm ⊢
   have := ih.2 l m 1 (by omega) hm
   omega
  refine ⟨ht, fun l => ?_⟩
  induction l with
  | nil => intro m n _ _; rw [partsL, sizes]; omega
  | cons t ts ihl =>
   intro m n hl hm
   rw [sizes] at hl ⊢
   have h0 := (partsL_bound (sizes (t :: ts))).2 (t :: ts) m n (Nat.le_refl _)
   have hnm : n ≤ m := by omega
   rw [partsL, if_pos hnm] at hm ⊢
   have h1 := (partsL_bound (sizes ts)).2 ts m (n + partsF t (m - n)) (Nat.le_refl _)
   have h2 := ht t (m - n) (by omega) (by omega)
   have h3 := ihl m (n + partsF t (m - n)) (by omega) hm
   omega
theorem parts_small (t : Term) (h : ¬ partsF t 4000 > 4000) : t.size ≤ 4000 := by
 have := (parts_exact t.size).1 t 4000 (Nat.le_refl _) (by omega)
 omega
theorem sized_am (t : Term) (h : AHeap) (Q : AOut → AHeap → Prop) (hq : Q (.ret (.int .i64 (sizedF t))) h) : AmCalls Tryz.prog 78 [enc t] h Q := by
 refine AmCalls.of_sem (fn := Tryz.f78) Tryz.func78 rfl (by kernel_rfl) (by rw [Tryz.ntmps78]; simp) (enters_of Tryz.func78 (by kernel_rfl) (by kernel_rfl)) ?_
 repeat with_reducible refine run_seq fun bq hbq => ?_
 refine run_region (by simp only [compL, gtOf, nthDst]; exact rfl) ?_
 simp only [go_sem, ↓reduceIte]
 intro p hp
 refine run_next ?_; subst hbq
 repeat with_reducible refine run_seq fun bq hbq => ?_
 repeat with_reducible refine run_seq fun bq hbq => ?_
 refine run_block fun cq hcq => ?_
 subst hcq
 repeat with_reducible refine run_seq fun bq hbq => ?_
 refine run_region (by simp only [compL, gtOf, nthDst]; exact rfl) ?_
 simp only [go_sem, ↓reduceIte]
 refine parts_am t.size t 4000 _ _ (Nat.le_refl _) (by decide) (by decide) ?_
 simp only [go_sem, ↓reduceIte]
 refine run_next ?_; subst hbq
 repeat with_reducible refine run_seq fun bq hbq => ?_
 refine run_cond (t := decide (partsF t 4000 > 4000)) (by simp only [go_sem, ↓reduceIte]) ?_ ?_
 ·intro hc
  have hc' : partsF t 4000 > 4000 := by simpa using hc
  repeat with_reducible refine run_seq fun bq hbq => ?_
  refine run_region (by simp only [compL, gtOf, nthDst]; exact rfl) ?_
  simp only [go_sem, ↓reduceIte]
  refine run_next ?_; subst hbq
  refine run_ret_in ?_
  repeat first | (with_reducible refine seqK_ret ?_; clear hbq bq) | with_reducible refine cutK_ret ?_ | with_reducible refine loopK_ret ?_ | with_reducible refine blockK_ret ?_
  refine run_lastret (by rw [Tryz.results78]) (HLess.one hp) ?_
  simp only [go_sem, ↓reduceIte, aPack, Option.some.injEq, exists_eq_left']
  exact ret_as (by simp [sizedF, hc']) hq
 ·intro hc
  have hc' : ¬ partsF t 4000 > 4000 := by simpa using hc
  have hsz := parts_small t hc'
  repeat with_reducible refine run_seq fun bq hbq => ?_
  refine run_region (by simp only [compL, gtOf, nthDst]; exact rfl) ?_
  simp only [go_sem, ↓reduceIte]
  refine levels_am t.size t 100 _ _ (Nat.le_refl _) (by omega) (by omega) (by decide) ?_
  simp only [go_sem, ↓reduceIte]
  refine run_next ?_; subst hbq
  repeat with_reducible refine run_seq fun bq hbq => ?_
  refine run_cond (t := decide (levelsF t 100 > 100)) (by simp only [go_sem, ↓reduceIte]) ?_ ?_
  ·intro hc2
   have hc2' : levelsF t 100 > 100 := by simpa using hc2
   repeat with_reducible refine run_seq fun bq hbq => ?_
   refine run_region (by simp only [compL, gtOf, nthDst]; exact rfl) ?_
   simp only [go_sem, ↓reduceIte]
   refine run_next ?_; subst hbq
   refine run_ret_in ?_
   repeat first | (with_reducible refine seqK_ret ?_; clear hbq bq) | with_reducible refine cutK_ret ?_ | with_reducible refine loopK_ret ?_ | with_reducible refine blockK_ret ?_
   refine run_lastret (by rw [Tryz.results78]) (HLess.one hp) ?_
   simp only [go_sem, ↓reduceIte, aPack, Option.some.injEq, exists_eq_left']
   exact ret_as (by simp [sizedF, hc', hc2']) hq
  ·intro hc2
   have hc2' : ¬ levelsF t 100 > 100 := by simpa using hc2
   refine run_skip ?_
   refine run_endblock ?_
   refine run_next ?_; subst hbq
   repeat with_reducible refine run_seq fun bq hbq => ?_
   refine run_region (by simp only [compL, gtOf, nthDst]; exact rfl) ?_
   simp only [go_sem, ↓reduceIte]
   refine run_next ?_; subst hbq
   refine run_ret (by rw [Tryz.results78]) (HLess.one hp) ?_
   simp only [go_sem, ↓reduceIte, aPack, Option.some.injEq, exists_eq_left']
   exact ret_as (by simp [sizedF, hc', hc2']) hq
def fewF (t : Term) : Bool := decide (partsF t 4000 ≤ 60) || decide (partsF t 4000 > 4000)
theorem fewT_am (t : Term) (h : AHeap) (Q : AOut → AHeap → Prop) (hq : Q (.ret (.bool (fewF t))) h) : AmCalls Tryz.prog 56 [enc t] h Q := by
 refine AmCalls.of_sem (fn := Tryz.f56) Tryz.func56 rfl (by kernel_rfl) (by rw [Tryz.ntmps56]; simp) (enters_of Tryz.func56 (by kernel_rfl) (by kernel_rfl)) ?_
 repeat with_reducible refine run_seq fun bq hbq => ?_
 refine run_region (by simp only [compL, gtOf, nthDst]; exact rfl) ?_
 simp only [go_sem, ↓reduceIte]
 intro p hp
 refine run_next ?_; subst hbq
 repeat with_reducible refine run_seq fun bq hbq => ?_
 refine run_region (by simp only [compL, gtOf, nthDst]; exact rfl) ?_
 simp only [go_sem, ↓reduceIte]
 refine refParts_am t.size t 4000 _ _ (Nat.le_refl _) (by decide) (by decide) ?_
 simp only [go_sem, ↓reduceIte]
 refine run_next ?_; subst hbq
 repeat with_reducible refine run_seq fun bq hbq => ?_
 refine run_region (by simp only [compL, gtOf, nthDst]; exact rfl) ?_
 simp only [go_sem, ↓reduceIte]
 cases hc : decide (partsF t 4000 ≤ 60)
 all_goals
  simp only [go_sem, ↓reduceIte, hc]
  refine run_next ?_; subst hbq
  refine run_ret (by rw [Tryz.results56]) (HLess.one hp) ?_
  simp only [go_sem, ↓reduceIte, aPack, Option.some.injEq, exists_eq_left']
  exact ret_as (by simp [fewF, hc]) hq
def Asks {α : Type} (P : Program) (enc : α → AV) (g : FuncId) (first cap : List AV) (l : List α) (f : α → Bool) (h : AHeap) : Prop :=
 ∀ (i : Nat) (u : α), l[i]? = some u → (∀ (j : Nat) (v : α), j < i → l[j]? = some v → f v = false) → ∀ (h' : AHeap) (Q : AOut → AHeap → Prop), HLess h' h → Q (.ret (.bool (f u))) h' → AmCalls P g (first ++ [enc u] ++ cap) h' Q
def indexF {α : Type} (f : α → Bool) : List α → Int → Int
 | [], _ => -1
 | u :: l, i => if f u then i else indexF f l (i + 1)
theorem indexFunc_am (l : List Term) (g : FuncId) (first cap : List AV) (f : Term → Bool) (h : AHeap) (Q : AOut → AHeap → Prop) (hl : l.length ≤ 1000000000) (hf : Asks Tryz.prog enc g first cap l f h) (hq : Q (.ret (.int .i64 (indexF f l 0))) h) :
  AmCalls Tryz.prog 153 [.list 4 (encs l) l.length .none, .func (.func g) first cap] h Q := by
 refine AmCalls.of_sem (fn := Tryz.f153) Tryz.func153 rfl (by kernel_rfl) (by rw [Tryz.ntmps153]; simp) (enters_of Tryz.func153 (by kernel_rfl) (by kernel_rfl)) ?_
 repeat with_reducible refine run_seq fun bq hbq => ?_
 refine run_region (by simp only [compL, gtOf, nthDst]; exact rfl) ?_
 simp only [go_sem, ↓reduceIte]
 refine run_next ?_; subst hbq
 repeat with_reducible refine run_seq fun bq hbq => ?_
 refine run_region (by simp only [compL, gtOf, nthDst]; exact rfl) ?_
 simp only [go_sem, ↓reduceIte]
 refine run_next ?_; subst hbq
 repeat with_reducible refine run_seq fun bq hbq => ?_
 repeat with_reducible refine run_seq fun bq hbq => ?_
 refine run_block fun cq hcq => ?_
 subst hcq
 refine run_loop (fun k τ h' => ∃ i : Nat, k + i = l.length ∧ τ 0 = .list 4 (encs l) l.length .none ∧ τ 1 = .func (.func g) first cap ∧ τ 7 = .int .i64 l.length ∧ τ 8 = .int .i64 i ∧ HLess h' h ∧ (∀ (j : Nat) (v : Term), j < i → l[j]? = some v → f v = false) ∧ indexF f (l.drop i) i = indexF f l 0) l.length ?_ ?_
 ·exact ⟨0, rfl, rfl, rfl, rfl, rfl, HLess.refl h, fun j v hj => absurd hj (Nat.not_lt_zero _), rfl⟩
 ·intro c hc k τ h' hI
  obtain ⟨i, hk, e0, e1, e7, e8, hless, hno, hix⟩ := hI
  subst hc
  repeat with_reducible refine run_seq fun bq hbq => ?_
  refine run_region (by simp only [compL, gtOf, nthDst]; exact rfl) ?_
  by_cases hi : i < l.length
  ·have hd : decide (i < l.length) = true := by simpa using hi
   obtain ⟨u, hu⟩ : ∃ u, l[i]? = some u := ⟨_, List.getElem?_eq_getElem hi⟩
   obtain ⟨r, hr⟩ := encs_at l i hu
   have hdrop : l.drop i = u :: l.drop (i + 1) := by
    rw [List.drop_eq_getElem_cons hi]
    rw [List.getElem?_eq_getElem hi] at hu; injection hu with hu; rw [hu]
   rw [hdrop, indexF] at hix
   simp only [go_sem, ↓reduceIte, e7, e8, hd]
   refine run_next ?_; subst hbq
   repeat with_reducible refine run_seq fun bq hbq => ?_
   refine run_cond (t := true) (by simp only [go_sem, ↓reduceIte]) ?_ ?_
   ·intro _
    refine run_skip ?_
    refine run_next ?_; subst hbq
    repeat with_reducible refine run_seq fun bq hbq => ?_
    refine run_block fun cq hcq => ?_
    subst hcq
    repeat with_reducible refine run_seq fun bq hbq => ?_
    refine run_region (by simp only [compL, gtOf, nthDst]; exact rfl) ?_
    simp only [go_sem, ↓reduceIte, e8]
    refine run_next ?_; subst hbq
    repeat with_reducible refine run_seq fun bq hbq => ?_
    refine run_region (by simp only [compL, gtOf, nthDst]; exact rfl) ?_
    simp only [go_sem, ↓reduceIte, e0, e1, hi, hr]
    refine hf i u hu hno _ _ hless ?_
    simp only [go_sem, ↓reduceIte]
    refine run_next ?_; subst hbq
    repeat with_reducible refine run_seq fun bq hbq => ?_
    refine run_cond (t := f u) (by simp only [go_sem, ↓reduceIte]) ?_ ?_
    ·intro hfu
     rw [if_pos hfu] at hix
     repeat with_reducible refine run_seq fun bq hbq => ?_
     refine run_region (by simp only [compL, gtOf, nthDst]; exact rfl) ?_
     simp only [go_sem, ↓reduceIte]
     refine run_next ?_; subst hbq
     refine run_ret_in ?_
     repeat first | (with_reducible refine seqK_ret ?_; clear hbq bq) | with_reducible refine cutK_ret ?_ | with_reducible refine loopK_ret ?_ | with_reducible refine blockK_ret ?_
     rw [← hix] at hq
     refine last_as (h' := h) (by rw [Tryz.results153]) hless ?_ hq
     simp only [go_sem, ↓reduceIte, aPack, Option.some.injEq, exists_eq_left']
     exact LeAV.refl _
    ·intro hfu
     rw [if_neg (by rw [hfu]; decide)] at hix
     refine run_skip ?_
     refine run_endblock ?_
     refine run_next ?_; subst hbq
     repeat with_reducible refine run_seq fun bq hbq => ?_
     refine run_region (by simp only [compL, gtOf, nthDst]; exact rfl) ?_
     simp only [go_sem, ↓reduceIte, e8, wrapI ((i : Int) + 1) (by omega)]
     refine run_loopN (m := k - 1) (by omega) ⟨i + 1, by omega, ?_⟩
     simp only [go_sem, ↓reduceIte, e0, e1, e7]
     refine ⟨rfl, hless, fun j v hj hv => ?_, hix⟩
     by_cases e : j = i
     ·subst e; rw [hu] at hv; injection hv with hv; subst hv; exact hfu
     ·exact hno j v (by omega) hv
   ·intro hf; cases hf
  ·have hd : decide (i < l.length) = false := by simpa using hi
   rw [List.drop_eq_nil_of_le (by omega), indexF] at hix
   simp only [go_sem, ↓reduceIte, e7, e8, hd]
   refine run_next ?_; subst hbq
   repeat with_reducible refine run_seq fun bq hbq => ?_
   refine run_cond (t := false) (by simp only [go_sem, ↓reduceIte]) ?_ ?_
   ·intro hf; cases hf
   ·intro _
    refine run_exit ?_
    repeat first | (with_reducible refine seqK_exit ?_; clear hbq bq) | with_reducible refine cutK_exit ?_ | with_reducible refine loopK_exit ?_ | with_reducible refine run_exit_eq ?_ | (with_reducible refine blockK_ne ?_ ?_; focus rfl)
    refine run_next ?_; subst hbq
    repeat with_reducible refine run_seq fun bq hbq => ?_
    refine run_region (by simp only [compL, gtOf, nthDst]; exact rfl) ?_
    simp only [go_sem, ↓reduceIte]
    refine run_next ?_; subst hbq
    rw [← hix] at hq
    refine run_ret_as (h' := h) (by rw [Tryz.results153]) hless ?_ hq
    simp only [go_sem, ↓reduceIte, aPack, Option.some.injEq, exists_eq_left']
    exact LeAV.refl _
theorem indexF_any {α : Type} (f : α → Bool) : ∀ (l : List α) (i : Int), 0 ≤ i → decide (indexF f l i ≥ 0) = l.any f
 | [], i, _ => rfl
 | u :: l, i, hi => by
  rw [indexF, List.any_cons]
  cases hf : f u
  ·simp only [Bool.false_eq_true, if_false, Bool.false_or]; exact indexF_any f l (i + 1) (by omega)
  ·simp only [if_true, Bool.true_or]; simpa using hi
theorem containsFunc_am (l : List Term) (g : FuncId) (first cap : List AV) (f : Term → Bool) (h : AHeap) (Q : AOut → AHeap → Prop) (hl : l.length ≤ 1000000000) (hf : Asks Tryz.prog enc g first cap l f h) (hq : Q (.ret (.bool (l.any f))) h) :
  AmCalls Tryz.prog 121 [.list 4 (encs l) l.length .none, .func (.func g) first cap] h Q := by
 refine AmCalls.of_sem (fn := Tryz.f121) Tryz.func121 rfl (by kernel_rfl) (by rw [Tryz.ntmps121]; simp) (enters_of Tryz.func121 (by kernel_rfl) (by kernel_rfl)) ?_
 repeat with_reducible refine run_seq fun bq hbq => ?_
 refine run_region (by simp only [compL, gtOf, nthDst]; exact rfl) ?_
 simp only [go_sem, ↓reduceIte]
 refine run_next ?_; subst hbq
 repeat with_reducible refine run_seq fun bq hbq => ?_
 refine run_region (by simp only [compL, gtOf, nthDst]; exact rfl) ?_
 simp only [go_sem, ↓reduceIte]
 refine indexFunc_am l g first cap f h _ hl hf ?_
 simp only [go_sem, ↓reduceIte]
 refine run_next ?_; subst hbq
 refine run_ret (by rw [Tryz.results121]) (HLess.refl h) ?_
 simp only [go_sem, ↓reduceIte, aPack, Option.some.injEq, exists_eq_left']
 exact ret_as (by rw [← indexF_any f l 0 (by decide)]) hq
theorem same154_am (a b : Term) (h : AHeap) (r : Nat) (hr : h r = some (.cells (cellsT a) 27)) (Q : AOut → AHeap → Prop) (hq : Q (.ret (.bool (isF a b))) h) : AmCalls Tryz.prog 154 [enc b, .ptr r 0] h Q := by
 refine AmCalls.of_sem (fn := Tryz.f154) Tryz.func154 rfl (by kernel_rfl) (by rw [Tryz.ntmps154]; simp) (enters_of Tryz.func154 (by kernel_rfl) (by kernel_rfl)) ?_
 repeat with_reducible refine run_seq fun bq hbq => ?_
 refine run_region (by simp only [compL, gtOf, nthDst]; exact rfl) ?_
 simp only [go_sem, ↓reduceIte]
 intro p hp
 have hne := ne_of_new hp hr
 refine run_next ?_; subst hbq
 repeat with_reducible refine run_seq fun bq hbq => ?_
 refine run_region (by simp only [compL, gtOf, nthDst]; exact rfl) ?_
 simp only [go_sem, ↓reduceIte, hne, hr]
 refine is_am a b _ _ ?_
 simp only [go_sem, ↓reduceIte]
 refine run_next ?_; subst hbq
 refine run_ret (by rw [Tryz.results154]) (HLess.one hp) ?_
 simp only [go_sem, ↓reduceIte, aPack, Option.some.injEq, exists_eq_left']
 exact hq
end Go.Proofs.YthkjmiejaoomcaaGreat.Am
