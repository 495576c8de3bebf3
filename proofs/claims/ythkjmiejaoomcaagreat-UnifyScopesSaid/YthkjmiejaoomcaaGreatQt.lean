/- Part of the proof of a law of layer 5: own texts, joined. -/
import Derived.Test.YthkjmiejaoomcaaGreatQr
import Derived.Test.YthkjmiejaoomcaaGreatQs
set_option linter.unusedVariables false
set_option linter.unusedSimpArgs false
set_option linter.unnecessarySimpa false
namespace Go.Proofs.YthkjmiejaoomcaaGreat.Am
open Go Go.RowKit Go.Proofs
set_option linter.unusedVariables false
set_option linter.unusedSimpArgs false
set_option maxRecDepth 100000
set_option maxHeartbeats 1000000
attribute [local go_sem] cSeq cDr cOne cStays nthCO panK aKind gWanted panC cPanic cOp needsName cStep aop aEval argEnv List.getD_cons_zero List.getD_cons_succ AV.known AV.cells if_true if_false cond_true cond_false aPut true_and and_true ofConst ofLeaf true_imp false_imp true_imp' false_imp' btt btf
 aFieldAt aAssert aLoad aPick aBin aInt aShift aStr unSl aLen aBuiltin Option.map_some Option.map_none upd_same eupd_at Nat.reduceBEq List.drop_zero List.drop_succ_cons List.drop_nil List.take_succ_cons List.take_zero List.head?_cons List.length_cons List.length_nil Nat.reduceAdd Nat.reduceLeDiff Nat.reduceEqDiff List.map_cons List.map_nil Nat.zero_add Nat.add_zero reduceCtorEq Bool.false_eq_true
 aResL aRes1 true_implies false_implies implies_true forall_const and_self Bool.not_true Bool.not_false Bool.cond_self upd_if aExtract aNil aIface aMax aMin aNot List.getElem?_cons_zero List.getElem?_cons_succ aIndexAt aStore aSplice AV.flat List.all_cons List.all_nil Bool.and_true Bool.true_and Bool.and_false Bool.false_and Int.natCast_nonneg Int.ofNat_lt Int.toNat_natCast cCall Nat.le_add_left List.append_nil List.contains_cons List.contains_nil Bool.or_true Bool.or_false Bool.true_or Bool.false_or Nat.reduceBEq List.cons_append List.nil_append
 sz_1 by_1 ag_1 tk_1 ze_1 sz_3 by_3 ag_3 tk_3 ze_3 sz_4 by_4 ag_4 tk_4 ze_4 sz_9 by_9 ag_9 tk_9 ze_9
 sz_20 by_20 ag_20 tk_20 ze_20 sz_22 by_22 ag_22 tk_22 el_22 ze_22 sz_24 by_24 ag_24 tk_24 ze_24 fi_24_0 pl_24 sz_25 by_25
 ag_25 tk_25 el_25 ze_25 sz_27 by_27 ag_27 tk_27 ze_27 fi_27_0 fi_27_1 fi_27_2 fi_27_3 pl_27 sz_30 by_30 ag_30 tk_30 ze_30 sz_34
 by_34 ag_34 tk_34 ze_34 fi_34_0 fi_34_1 fi_34_2 fi_34_3 pl_34 sz_40 by_40 ag_40 tk_40 el_40 ze_40 sz_42 by_42 ag_42 tk_42 ze_42
 fi_42_0 fi_42_1 fi_42_2 pl_42 sz_52 by_52 ag_52 tk_52 ze_52 fi_52_0 fi_52_1 fi_52_2 fi_52_3 pl_52 sz_60 by_60 ag_60 tk_60 ze_60 fi_60_0
 fi_60_1 pl_60 sz_62 by_62 ag_62 tk_62 ze_62 fi_62_0 fi_62_1 fi_62_2 fi_62_3 pl_62 sz_68 by_68 ag_68 tk_68 ze_68 fi_68_0 fi_68_1 pl_68
 sz_70 by_70 ag_70 tk_70 el_70 ze_70 sz_77 by_77 ag_77 tk_77 el_77 ze_77 sz_80 by_80 ag_80 tk_80 ze_80 sz_83 by_83 ag_83
 tk_83 ze_83 fi_83_0 fi_83_1 pl_83 sz_95 by_95 ag_95 tk_95 ze_95 sz_97 by_97 ag_97 tk_97 ze_97 sz_99 by_99 ag_99 tk_99 mp_99
 ze_99 sz_101 by_101 ag_101 tk_101 ze_101 fi_101_0 fi_101_1 fi_101_2 pl_101 sz_104 by_104 ag_104 tk_104 ze_104 sz_106 by_106 ag_106 tk_106 ze_106
 fi_106_0 fi_106_1 fi_106_2 pl_106 sz_108 by_108 ag_108 tk_108 ze_108 sz_109 by_109 ag_109 tk_109 ze_109 sz_110 by_110 ag_110 tk_110 el_110 ze_110
 sz_112 by_112 ag_112 tk_112 ze_112 fi_112_0 fi_112_1 fi_112_2 fi_112_3 pl_112 sz_115 by_115 ag_115 tk_115 ze_115 fi_115_0 fi_115_1 pl_115 sz_121 by_121
 ag_121 tk_121 ze_121 sz_125 by_125 ag_125 tk_125 ze_125 sz_126 by_126 ag_126 tk_126 mp_126 ze_126 sz_128 by_128 ag_128 tk_128 ze_128 fi_128_0
 fi_128_1 fi_128_2 fi_128_3 pl_128 sz_136 by_136 ag_136 tk_136 el_136 ze_136 sz_140 by_140 ag_140 tk_140 mp_140 ze_140 sz_142 by_142 ag_142 tk_142
 ze_142 fi_142_0 fi_142_1 pl_142 sz_144 by_144 ag_144 tk_144 ze_144 sz_145 by_145 ag_145 tk_145 el_145 ze_145 sz_147 by_147 ag_147 tk_147 ze_147
 fi_147_0 fi_147_1 fi_147_2 fi_147_3 pl_147 sz_150 by_150 ag_150 tk_150 ze_150 pl_150 sz_152 by_152 ag_152 tk_152 ze_152 fi_152_0 pl_152 sz_156 by_156
 ag_156 tk_156 ze_156 sz_158 by_158 ag_158 tk_158 ze_158 fi_158_0 fi_158_1 fi_158_2 pl_158 sz_160 by_160 ag_160 tk_160 mp_160 ze_160 sz_162 by_162
 ag_162 tk_162 ze_162 sz_164 by_164 ag_164 tk_164 ze_164 fi_164_0 fi_164_1 fi_164_2 pl_164 sz_167 by_167 ag_167 tk_167 ze_167 fi_167_0 fi_167_1 pl_167
 sz_173 by_173 ag_173 tk_173 el_173 ze_173 sz_189 by_189 ag_189 tk_189 ze_189 sz_198 by_198 ag_198 tk_198 ze_198
 cStays_nil bne decide_true decide_false Nat.mul_one upd_twice beq_self_eq_true Int.reduceBEq Int.reduceLT Int.reduceLE
theorem inv_check {vs : List Va} (hc : checkF vs = 0) : Inv vs := by
 have hc' := hc
 unfold checkF at hc'
 split at hc'
 ·cases hc'
 rename_i h2000
 split at hc'
 ·cases hc'
 rename_i hl
 have hl' : longF vs 4000 = false := by simpa using hl
 split at hc'
 case isFalse => cases hc'
 rename_i hall
 split at hc'
 ·cases hc'
 rename_i hcirc
 have hacc := (circles_acc (good_of vs hl' hall).plain).1 (by simpa using hcirc)
 have hv := List.all_eq_true.1 hall
 refine ⟨by omega, fun v hm => ?_, fun n => ?_⟩
 ·have hva := hv v hm
  unfold validF at hva
  rw [Bool.and_eq_true] at hva
  refine ⟨hva.1, fun hi => ?_, fun hi => ?_⟩
  case refine_2 =>
   have h2 := hva.2
   rw [hi] at h2
   simp only [Bool.false_eq_true, if_false] at h2
   unfold isZeroF at h2
   simp only [Bool.and_eq_true] at h2
   have hz : v.t.args = [] := List.eq_nil_of_length_eq_zero (by have := h2.2; simpa using this)
   have := length_args v.t
   obtain ⟨la, lt, li, ⟨k, n, s, l⟩⟩ := v
   simp only at hz
   subst hz
   show Term.size _ ≤ _
   rw [Term.size, sizes]; decide
  have h2 := hva.2
  rw [hi] at h2
  simp only [if_true] at h2
  unfold inF at h2
  simp only [Bool.and_eq_true] at h2
  have hsz := long_small vs 4000 hl' _ hm hi
  exact ⟨h2.1, h2.2.2.1, h2.2.2.2, by omega⟩
 ·by_cases hn : n < vs.length
  ·have key : ∀ j : Int, Acc (Edge vs) j → ∀ n : Nat, (n : Int) = j → Acc (En vs) n := by
    intro j hj
    induction hj with
    | intro j _ ih =>
     intro n hnj
     refine .intro _ fun k hk => ih k ?_ k rfl
     unfold En at hk
     unfold Edge valAt
     rw [← hnj, Int.toNat_natCast]
     exact hk
   exact key n (hacc n hn) n rfl
  ·refine .intro _ fun k hk => ?_
   have := hk.1
   rw [List.getD_eq_getElem?_getD, List.getElem?_eq_none (by omega)] at this
   cases this
theorem solver60_am {x : Nat} {s : Sv} {h0 h : AHeap} (S : SObj x s h0 h) (I : Inv s.ms) (hw0 : 0 ≤ s.wk) (hw : s.wk ≤ 40000) {a b : Term} (ha : fitsF s.ms a 0 = true) (hb : fitsF s.ms b 0 = true) {px pa pb : Nat} (hx : h0 px = some (.cells [.ptr x 0] 97)) (hpa : h0 pa = some (.cells (cellsT a) 27)) (hpb : h0 pb = some (.cells (cellsT b) 27)) (Q : AOut → AHeap → Prop)
  (hq : ∀ s' h2, solveF 402 s a b 0 = .ok s' → SObj x s' h0 h2 → Q (.ret (.tuple [])) h2) (hp : ∀ pv h2, PanV (solveF 402 s a b 0) pv → HLess h2 h0 → Q (.panic pv) h2) : AmCalls Tryz.prog 60 [.ptr px 0, .ptr pa 0, .ptr pb 0] h Q := by
 have mx := S.lessOf _ _ hx
 have ma := S.lessOf _ _ hpa
 have mb := S.lessOf _ _ hpb
 refine AmCalls.of_sem (fn := Tryz.f60) Tryz.func60 rfl (by kernel_rfl) (by rw [Tryz.ntmps60]; simp) (enters_of Tryz.func60 (by kernel_rfl) (by kernel_rfl)) ?_
 repeat first | ((with_reducible refine sS ?_); intro _ _ _ C_ R_ U_; simp only [go_sem, ↓reduceIte, mx, ma, mb]; subst C_ R_ U_) | (with_reducible refine iR ?_; refine rG2 ?_)
 refine solve_am 402 s a b 0 0 _ _ _ S I hw0 hw ha hb (by decide) (by decide) (by decide) (by decide) (fun s' h2 hr _ S2 => ?_) (fun pv h2 hr hl2 => ?_)
 ·try dsimp only
  repeat (with_reducible refine nS ?_)
  exact lastn (by rw [Tryz.results60]) (HLess.refl _) (hq _ _ hr S2)
 ·dsimp only
  repeat with_reducible first | refine p5 ?_ | refine p1 ?_ | refine p2 ?_ | refine p3 ?_ | refine p4 ?_
  exact pL (HLess.refl _) (hp pv h2 hr hl2)
def fitTwo (vs : List Va) (a b : Term) : Int := if checkF vs == 0 then fitErrsS vs [a, b] else checkF vs
noncomputable def unifyF (vs : List Va) (a b : Term) : List Va × Bool × Int :=
 if fitTwo vs a b == 0 then (match solveF 402 ⟨vs, 0⟩ a b 0 with
  | .clash => (vs, false, 0)
  | .large e => if e == 0 then (vs, false, 0) else ([], false, e)
  | .ok s => if checkF s.ms == 2 || checkF s.ms == 50 then ([], false, 2) else (s.ms, true, 0)) else ([], false, fitTwo vs a b)
abbrev outU (r : List Va × Bool × Int) : AV := .tuple [.agg [.list 8 (encVs r.1) r.1.length .none], .bool r.2.1, .int .i64 r.2.2]
theorem build25_2 (a b : Term) : aBuildSlice Tryz.prog 25 2 [(0, .agg (cellsT a)), (1, .agg (cellsT b))] = some (.list 4 (cellsT a ++ cellsT b) 2 .full) := by
 simp only [aBuildSlice, el_25, sz_27, ze_27, aFill]
 rfl
theorem build101 (v : AV) (m : Nat) (hv : v.flat = true) (hk : v.known = true) : aBuild Tryz.prog 101 [(0, .agg [v]), (1, .map m)] = some (.agg [v, .map m, .int .i64 0]) := by
 simp only [aBuild, ze_101, pl_101, aFill]
 cases v <;> first | rfl | cases hv | cases hk
theorem fitTwo_ok {vs : List Va} {a b : Term} (h : (fitTwo vs a b == 0) = true) : checkF vs = 0 ∧ fitsF vs a 0 = true ∧ fitsF vs b 0 = true := by
 unfold fitTwo at h
 split at h
 ·rename_i hc
  refine ⟨by simpa using hc, ?_⟩
  rw [fitErrsS, fitErrsS, fitErrsS] at h
  have h1 : ∀ t, (fitErrS vs t == 0) = true → fitsF vs t 0 = true := fun t ht => by
   unfold fitErrS at ht
   split at ht
   ·split at ht
    ·assumption
    ·cases ht
   ·rename_i h2
    exact absurd ht h2
  split at h
  ·rename_i ha
   split at h
   ·rename_i hb
    exact ⟨h1 a ha, h1 b hb⟩
   ·rename_i hb; exact absurd h hb
  ·rename_i ha; exact absurd h ha
 ·rename_i hc; exact absurd h hc
theorem merge_nil (vs : List Va) : mergeV vs [] = vs := by
 unfold mergeV
 apply List.ext_getElem?
 intro i
 rw [List.getElem?_mapIdx]
 cases vs[i]? with
 | none => rfl
 | some v => rfl
theorem find_birth : ∀ (raw : List (AV × AV × Nat)) (e : AV × AV × Nat), (raw.map fun e => e.2.2).Nodup → e ∈ raw → raw.find? (fun e' => e'.2.2 == e.2.2) = some e
 | [], e, _, h => absurd h List.not_mem_nil
 | a :: raw, e, hn, h => by
  rw [List.map_cons, List.nodup_cons] at hn
  rw [List.find?_cons]
  rcases List.mem_cons.1 h with rfl | h
  ·simp
  ·have : (a.2.2 == e.2.2) = false := by
    have : a.2.2 ≠ e.2.2 := fun e2 => hn.1 (e2 ▸ List.mem_map.2 ⟨e, h, rfl⟩)
    simpa using this
   rw [this]
   exact find_birth raw e hn.2 h
theorem left_less {raw : List (AV × AV × Nat)} {sn : List Nat} {e : AV × AV × Nat} (he : e ∈ aLeft raw sn) : (aLeft raw (sn ++ [e.2.2])).length < (aLeft raw sn).length := by
 unfold aLeft at he ⊢
 have h1 : (raw.filter fun x => !(sn ++ [e.2.2]).contains x.2.2) = (raw.filter fun x => !sn.contains x.2.2).filter fun x => !(x.2.2 == e.2.2) := by
  rw [List.filter_filter]
  congr 1
  funext x
  by_cases h : x.2.2 = e.2.2 <;> simp [h, List.contains_eq_mem]
 rw [h1]
 exact List.length_filter_lt_length_iff_exists.2 ⟨e, he, by simp⟩
theorem encVs_put (v : Va) : ∀ (arr : List Va) (k : Nat), k < arr.length → List.take (k * 8) (encVs arr) ++ (cellsV v ++ List.drop (k * 8 + 8) (encVs arr)) = encVs (arr.set k v)
 | [], k, h => by simp at h
 | a :: arr, 0, h => by
  have e : encVs (a :: arr) = cellsV a ++ encVs arr := rfl
  rw [e]
  rfl
 | a :: arr, k + 1, h => by
  have e : encVs (a :: arr) = cellsV a ++ encVs arr := rfl
  have e2 : encVs ((a :: arr).set (k + 1) v) = cellsV a ++ encVs (arr.set k v) := rfl
  rw [e, e2, ← encVs_put v arr k (by simpa using h), show (k + 1) * 8 = 8 + k * 8 by omega, show 8 + k * 8 + 8 = 8 + (k * 8 + 8) by omega]
  have l8 : (cellsV a).length = 8 := rfl
  rw [List.take_append, List.drop_append, List.take_of_length_le (show (cellsV a).length ≤ 8 + k * 8 by omega), List.drop_eq_nil_of_le (show (cellsV a).length ≤ 8 + (k * 8 + 8) by omega), l8, show 8 + k * 8 - 8 = k * 8 by omega, show 8 + (k * 8 + 8) - 8 = k * 8 + 8 by omega, List.nil_append, List.append_assoc]
theorem freeze_store {f : FuncId} {p z n : Nat} {cs : List AV} {T : TypeId} {h : AHeap} {Q : AOut → AHeap → Prop} (hp : h p = some (.cells cs T)) (hl : cs.length = n * z) (hf : cs.all AV.flat = true)
  (k : AmCalls Tryz.prog f [.agg [.list z cs n .none]] (upd h p Option.none) Q) : AmCalls Tryz.prog f [.agg [.sl p 0 n]] h Q := by
 intro n0
 refine ⟨(k n0).1, fun F m G W vargs hF hr s hn r => ?_⟩
 obtain ⟨G', e, s', hL⟩ := freeze_sim s hp hl hf (h' := upd h p Option.none) (LeH.of (fun i o hi => by
  by_cases e : i = p
  ·subst e; rw [upd_same] at hi; cases hi
  ·rw [upd_other _ _ e] at hi; exact hi) (upd_same _ _ _))
 have r2 := RelL.mono e _ _ r
 have r' : RelL G' W [.agg [.list z cs n .none]] vargs.toList := by
  simp only [RelL] at r2 ⊢
  obtain ⟨v, q, hv, h1, h3⟩ := r2
  exact ⟨v, q, hv, (LeF.agg (.cons LeF.here .nil)) G' W hL v h1, h3⟩
 refine ((k G'.n).2 F m G' W vargs hF hr s' rfl r').mono fun e' W' ⟨o, h', G2, q, s2, ev, ro⟩ => ⟨o, h', G2, q, s2, e.trans ev, ro⟩
theorem end15 {τ : Env} {h3 h : AHeap} {p6 : Nat} {vs : List Va} {vv : AV} {is : Bool} {e : Int} {Q : AOut → AHeap → Prop} (f6 : τ 6 = .ptr p6 0) (f7 : τ 7 = .bool is) (f8 : τ 8 = .int .i64 e) (hvv : (vs = [] ∧ ∃ sz tok, vv = .list sz [] 0 tok) ∨ ∃ p, vv = .sl p 0 vs.length ∧ h3 p = some (.cells (encVs vs) 62) ∧ h p = Option.none)
  (h6 : h3 p6 = some (.cells [vv] 24)) (hk : vv.known = true) (hl : HLess h3 h) (hq : Q (.ret (outU (vs, is, e))) h) : bodyK Tryz.prog Tryz.f15 Q .ret τ h3 := by
 refine ⟨[.agg [vv], .bool is, .int .i64 e], ?_, outU (vs, is, e), h, ?_, hq⟩
 ·rw [Tryz.results15]
  rcases hvv with ⟨_, sz, tok, rfl⟩ | ⟨p, rfl, _⟩ <;> simp only [go_sem, ↓reduceIte, f6, f7, f8, h6]
 ·rcases hvv with ⟨rfl, sz, tok, rfl⟩ | ⟨p, rfl, hp, hp0⟩
  ·exact WeakV.of (LeAV.tuple (.cons (LeAV.agg (.cons (LeAV.nil _ _ _) .nil)) (.cons (LeAV.refl _) (.cons (LeAV.refl _) .nil)))) hl
  ·exact WeakV.freeze (p := p) (n := vs.length) (z := 8) (cs := encVs vs) (T := 62) hp (encVs_length vs) (encVs_flat vs) (LeF.tuple (.cons (LeF.agg (.cons LeF.here .nil)) (.cons (LeF.refl _) (.cons (LeF.refl _) .nil)))) (LeH.of hl hp0)
theorem unify_am (vs : List Va) (hvs : vs.length ≤ 1000000) (tk : Tok) (a b : Term) (h : AHeap) (Q : AOut → AHeap → Prop) (hq : Q (.ret (outU (unifyF vs a b))) h) : AmCalls Tryz.prog 15 [.agg [.list 8 (encVs vs) vs.length tk], enc a, enc b] h Q := by
 refine AmCalls.of_sem (fn := Tryz.f15) Tryz.func15 rfl (by kernel_rfl) (by rw [Tryz.ntmps15]; simp) (enters_of Tryz.func15 (by kernel_rfl) (by kernel_rfl)) ?_
 repeat first | ((with_reducible refine sS ?_); intro _ _ _ C_ R_ U_; simp only [go_sem, ↓reduceIte]; subst C_ R_ U_) | (with_reducible refine iR ?_; refine rG2 ?_) | with_reducible refine rS fun bq hbq => ?_
 intro p3 hp3
 repeat (((with_reducible refine sS ?_); intro _ _ _ C_ R_ U_; simp only [go_sem, ↓reduceIte]; subst C_ R_ U_))
 intro p4 hp4
 have e4 := fresh_if hp4
 repeat (((with_reducible refine sS ?_); intro _ _ _ C_ R_ U_; simp only [go_sem, ↓reduceIte, e4.1, e4.1.symm]; subst C_ R_ U_))
 intro p5 hp5
 have e5 := fresh_if hp5
 have e5' := fresh_if e5.2
 repeat (((with_reducible refine sS ?_); intro _ _ _ C_ R_ U_; simp only [go_sem, ↓reduceIte, e4.1, e4.1.symm, e5.1, e5.1.symm, e5'.1, e5'.1.symm]; subst C_ R_ U_))
 intro p6 hp6
 have e6 := fresh_if hp6
 have e6' := fresh_if e6.2
 have e6'' := fresh_if e6'.2
 have fin : HLess (upd (upd (upd (upd h p3 (some (.cells [.list 8 (encVs vs) vs.length tk] 24))) p4 (some (.cells (cellsT a) 27))) p5 (some (.cells (cellsT b) 27))) p6 (some (.cells [.list 0 [] 0 .nil] 24))) h := ((((HLess.refl h).new hp3).new e4.2).new e5'.2).new e6''.2
 have s3 : (upd (upd (upd (upd h p3 (some (.cells [.list 8 (encVs vs) vs.length tk] 24))) p4 (some (.cells (cellsT a) 27))) p5 (some (.cells (cellsT b) 27))) p6 (some (.cells [.list 0 [] 0 .nil] 24))) p3 = some (.cells [.list 8 (encVs vs) vs.length tk] 24) := by rw [upd_other _ _ e6''.1.symm, upd_other _ _ e5'.1.symm, upd_other _ _ e4.1.symm, upd_same]
 have s4 : (upd (upd (upd (upd h p3 (some (.cells [.list 8 (encVs vs) vs.length tk] 24))) p4 (some (.cells (cellsT a) 27))) p5 (some (.cells (cellsT b) 27))) p6 (some (.cells [.list 0 [] 0 .nil] 24))) p4 = some (.cells (cellsT a) 27) := by rw [upd_other _ _ e6'.1.symm, upd_other _ _ e5.1.symm, upd_same]
 have s5 : (upd (upd (upd (upd h p3 (some (.cells [.list 8 (encVs vs) vs.length tk] 24))) p4 (some (.cells (cellsT a) 27))) p5 (some (.cells (cellsT b) 27))) p6 (some (.cells [.list 0 [] 0 .nil] 24))) p5 = some (.cells (cellsT b) 27) := by rw [upd_other _ _ e6.1.symm, upd_same]
 have s6 : (upd (upd (upd (upd h p3 (some (.cells [.list 8 (encVs vs) vs.length tk] 24))) p4 (some (.cells (cellsT a) 27))) p5 (some (.cells (cellsT b) 27))) p6 (some (.cells [.list 0 [] 0 .nil] 24))) p6 = some (.cells [.list 0 [] 0 .nil] 24) := upd_same _ _ _
 have h06 := e6''.2
 generalize upd (upd (upd (upd h p3 (some (.cells [.list 8 (encVs vs) vs.length tk] 24))) p4 (some (.cells (cellsT a) 27))) p5 (some (.cells (cellsT b) 27))) p6 (some (.cells [.list 0 [] 0 .nil] 24)) = H at *
 repeat first | ((with_reducible refine sS ?_); intro _ _ _ C_ R_ U_; simp only [go_sem, ↓reduceIte, s3, s4, s5, s6, build25_2]; subst C_ R_ U_) | (with_reducible refine rN ?_; subst hbq) | (with_reducible refine iR ?_; refine rG2 ?_) | with_reducible first | refine nS ?_ | refine rS fun bq hbq => ?_
 have e25 : encs [a, b] = cellsT a ++ cellsT b := by rw [encs_eq]; simp
 refine AmCalls.args (args' := [.agg [.list 8 (encVs vs) vs.length tk], .list 4 (encs [a, b]) ([a, b] : List Term).length .none]) (.cons (LeAV.refl _) (.cons (by rw [e25]; exact LeAV.list _ _ _ _) .nil)) (fittingS_am vs hvs tk [a, b] _ _ (by simp) ?_)
 rw [show (if checkF vs == 0 then fitErrsS vs [a, b] else checkF vs) = fitTwo vs a b from rfl]
 cases hft : (fitTwo vs a b == 0)
 case false =>
  have hr : unifyF vs a b = ([], false, fitTwo vs a b) := by unfold unifyF; rw [hft]; rfl
  rw [hr] at hq
  try dsimp only
  repeat first | ((with_reducible first | refine sS ?_ | refine sC ?_); intro _ _ _ C_ R_ U_; simp only [go_sem, ↓reduceIte, s3, s4, s5, s6, hft, build24_0]; subst C_ R_ U_) | (with_reducible refine rN ?_; subst hbq) | (with_reducible refine iR ?_; refine rG2 ?_) | (with_reducible refine r1 ?_; clear hbq bq) | with_reducible first | refine nS ?_ | refine rS fun bq hbq => ?_ | refine rR ?_
  refine last_as (v := outU ([], false, fitTwo vs a b)) (by rw [Tryz.results15]) (fin.new h06) ?_ hq
  simp only [go_sem, ↓reduceIte, aPack, Option.some.injEq, exists_eq_left']
  exact LeAV.tuple (.cons (LeAV.agg (.cons (LeAV.nil _ _ _) .nil)) (.cons (LeAV.refl _) (.cons (LeAV.refl _) .nil)))
 obtain ⟨hc, hfa, hfb⟩ := fitTwo_ok hft
 try dsimp only
 repeat first | ((with_reducible first | refine sS ?_ | refine sC ?_); intro _ _ _ C_ R_ U_; simp only [go_sem, ↓reduceIte, s3, s4, s5, s6, hft]; subst C_ R_ U_) | (with_reducible refine rN ?_; subst hbq) | (with_reducible refine iR ?_; refine rG2 ?_) | with_reducible first | refine nS ?_ | refine rS fun bq hbq => ?_ | refine rK ?_
 have hcs : checkF vs == 0 := by rw [hc]; rfl
 have key : AmCalls Tryz.prog 58 [.agg [.list 8 (encVs vs) vs.length tk]] H fun o H1 => ∃ vv, o = .ret (.agg [vv]) ∧ HLess H1 H ∧ ValsAV vs H H1 vv ∧ vv.flat = true ∧ vv.known = true := by
  refine AmCalls.args (args' := [.agg [.list 8 (encVs vs) vs.length .none]]) (.cons (LeAV.agg (.cons (LeAV.list _ _ _ _) .nil)) .nil) (copiedStore_am vs _ _ (by omega) (check_sizes hcs) (fun hnil => ?_) (fun hne p hp => ?_))
  ·exact ⟨_, rfl, HLess.refl _, .inl ⟨hnil, _, _, rfl, .inl rfl⟩, rfl, rfl⟩
  ·exact ⟨_, rfl, HLess.one hp, .inr ⟨p, rfl, upd_same _ _ _, hp⟩, rfl, rfl⟩
 refine AmCalls.mono key ?_
 intro o H1 ⟨vv, ho, hl1, hvals, hfl, hkn⟩
 subst ho
 try dsimp only
 repeat (((with_reducible refine sS ?_); intro _ _ _ C_ R_ U_; simp only [go_sem, ↓reduceIte]; subst C_ R_ U_))
 intro m hm
 repeat (((with_reducible refine sS ?_); intro _ _ _ C_ R_ U_; simp only [go_sem, ↓reduceIte, build101 vv m hfl hkn]; subst C_ R_ U_))
 intro x hx
 have ex := fresh_if hx
 have hm0 := hl1.none hm
 have hx0 := hl1.none ex.2
 have S : SObj x ⟨vs, 0⟩ H (upd (upd H1 m (some (.map [] 0))) x (some (.cells [vv, .map m, .int .i64 0] 101))) := by
  refine ⟨m, vv, [], 0, vs, [], upd_same _ _ _, by rw [upd_other _ _ ex.1.symm, upd_same], ⟨rfl, by simp, by simp, by simp⟩, ?_, (merge_nil vs).symm, fun k v hk => absurd hk (by simp [mget]), hx0, hm0, (hl1.new hm0).new hx0⟩
  rcases hvals with h | ⟨p, e, hp, hp0⟩
  ·exact .inl h
  ·have pm := ne_of_new hm hp
   have px := ne_of_new ex.2 hp
   exact .inr ⟨p, e, by rw [upd_other _ _ px, upd_other _ _ pm]; exact hp, hp0⟩
 generalize upd (upd H1 m (some (.map [] 0))) x (some (.cells [vv, .map m, .int .i64 0] 101)) = H2 at *
 intro p10 hp10
 obtain ⟨A, S, a10, hA, _⟩ := S.loc hp10 (.cells [.ptr x 0] 97)
 have a3 := hA _ _ s3
 have a4 := hA _ _ s4
 have a5 := hA _ _ s5
 have a6 := hA _ _ s6
 have fin := hA.trans fin
 simp only [go_sem, ↓reduceIte]
 generalize upd H2 p10 (some (.cells [.ptr x 0] 97)) = H3 at *
 clear s3 s4 s5 s6 hA hvals hl1 hm0 hx0
 repeat first | ((with_reducible refine sS ?_); intro _ _ _ C_ R_ U_; simp only [go_sem, ↓reduceIte]; subst C_ R_ U_) | (with_reducible refine rN ?_; subst hbq) | (with_reducible refine iR ?_; refine rG2 ?_) | with_reducible refine rS fun bq hbq => ?_
 have key2 : AmCalls Tryz.prog 59 [.func (.func 60) [] [.ptr p10 0, .ptr p4 0, .ptr p5 0]] H3 fun out h3 => (∃ s', solveF 402 ⟨vs, 0⟩ a b 0 = .ok s' ∧ out = .ret (.tuple [.bool true, .int .i64 0]) ∧ SObj x s' A h3) ∨ (∃ e, (solveF 402 ⟨vs, 0⟩ a b 0 = .large e ∨ (solveF 402 ⟨vs, 0⟩ a b 0 = .clash ∧ e = 0)) ∧ out = .ret (.tuple [.bool false, .int .i64 e]) ∧ HLess h3 A) := by
  refine attempt_am ?_
  intro a0 b0 h1 ha0 hb0 hab hh1
  obtain ⟨A1, S1, c1, hA1, hAa⟩ := S.loc ha0 (.cells [.bool false] 4)
  obtain ⟨A2, S2, c2, hA2, hAb⟩ := S1.loc (b := b0) (by rw [upd_other _ _ hab.symm]; exact hb0) (.cells [.int .i64 0] 30)
  rw [← hh1] at S2
  have c1 := hA2 _ _ c1
  have hAb0 := hA1.none hAb
  have dropA : ∀ h2, HLess h2 A2 → h2 a0 = some (.cells [.bool false] 4) ∧ h2 b0 = some (.cells [.int .i64 0] 30) ∧ HLess (upd (upd h2 a0 Option.none) b0 Option.none) A := fun h2 hl => by
   refine ⟨hl _ _ c1, hl _ _ c2, fun j y hj => ?_⟩
   have ea : j ≠ a0 := fun e => by subst e; rw [hAa] at hj; cases hj
   have eb : j ≠ b0 := fun e => by subst e; rw [hAb0] at hj; cases hj
   rw [upd_other _ _ eb, upd_other _ _ ea]
   exact hl _ _ (hA2 _ _ (hA1 _ _ hj))
  have hless : ∀ h2 : AHeap, HLess h2 (upd (upd h2 a0 Option.none) b0 Option.none) := fun h2 j y hj => by
   by_cases e : j = b0
   ·subst e; rw [upd_same] at hj; cases hj
   ·rw [upd_other _ _ e] at hj
    by_cases e3 : j = a0
    ·subst e3; rw [upd_same] at hj; cases hj
    ·rw [upd_other _ _ e3] at hj; exact hj
  refine solver60_am S2 (inv_check hc) (show (0 : Int) ≤ 0 by decide) (show (0 : Int) ≤ 40000 by decide) hfa hfb (hA2 _ _ (hA1 _ _ a10)) (hA2 _ _ (hA1 _ _ a4)) (hA2 _ _ (hA1 _ _ a5)) _ (fun s' h2 hr S3 => ?_) (fun pv h2 hr hl2 => ?_)
  ·obtain ⟨d1, d2, d3⟩ := dropA h2 S3.lessOf
   refine ⟨d1, d2, upd (upd h2 a0 Option.none) b0 Option.none, hless h2, by rw [upd_other _ _ hab, upd_same], upd_same _ _ _, .inl ⟨s', hr, rfl, ?_⟩⟩
   have S4 := (S3.drop c1).drop (f := b0) (by rw [upd_other _ _ hab.symm]; exact c2)
   refine S4.low (fun j y hj => ?_)
   have ea : j ≠ a0 := fun e => by subst e; rw [hAa] at hj; cases hj
   have eb : j ≠ b0 := fun e => by subst e; rw [hAb0] at hj; cases hj
   rw [upd_other _ _ eb, upd_other _ _ ea]
   exact hA2 _ _ (hA1 _ _ hj)
  ·obtain ⟨d1, d2, d3⟩ := dropA h2 hl2
   refine ⟨d1, d2, upd (upd h2 a0 Option.none) b0 Option.none, hless h2, by rw [upd_other _ _ hab, upd_same], upd_same _ _ _, ?_⟩
   cases hs : solveF 402 ⟨vs, 0⟩ a b 0 with
   | ok s' => rw [hs] at hr; exact hr.elim
   | clash =>
    rw [hs] at hr
    have hr : pv = .iface 150 (.agg []) := hr
    subst hr
    exact ⟨0, rfl, .inr ⟨0, .inr ⟨rfl, rfl⟩, rfl, d3⟩⟩
   | large e =>
    rw [hs] at hr
    have hr : pv = .iface 152 (.agg [.int .i64 e]) := hr
    subst hr
    exact ⟨e, rfl, .inr ⟨e, .inl rfl, rfl, d3⟩⟩
 refine AmCalls.mono key2 ?_
 intro out h3 hk3
 rcases hk3 with ⟨s', hs, rfl, S3⟩ | ⟨e, hs, rfl, hl3⟩
 ·obtain ⟨m2, vv2, raw, c, base, es, B⟩ := S3
  have hx2 := B.hx
  have hm2 := B.hm
  have t10 := B.less _ _ a10
  have t6 := B.less _ _ a6
  have hrg : ∀ (H : AHeap) (p : Nat), H m2 = some (.map raw c) → aRange Tryz.prog 99 (.map m2) H p = some (.ptr p 0, upd H p (some (.iter (some m2) c [] c))) := fun H p hH => by simp only [aRange, mp_99, hH]
  try dsimp only
  repeat first | ((with_reducible first | refine sS ?_ | refine sC ?_); intro _ _ _ C_ R_ U_; simp only [go_sem, ↓reduceIte, t10, t6, hx2, hm2, hrg]; subst C_ R_ U_) | (with_reducible refine rN ?_; subst hbq) | (with_reducible refine iR ?_; refine rG2 ?_) | (with_reducible refine rB fun cq hcq => ?_; subst hcq) | with_reducible first | refine nS ?_ | refine rS fun bq hbq => ?_ | refine rK ?_ | refine rE ?_
  intro it hit
  have itx := ne_of_new hit hx2
  have itm := ne_of_new hit hm2
  have it10 := ne_of_new hit t10
  have it6 := ne_of_new hit t6
  repeat first | (with_reducible refine rN ?_; subst hbq) | (with_reducible refine rB fun cq hcq => ?_; subst hcq) | with_reducible refine nS ?_
  have hlow2 : ∀ (j : Nat) (k : Int) (v : Va), es[j]? = some (k, v) → 0 ≤ k ∧ k < (base.length : Int) := fun j k v hj => B.low k v (ix_mget es j B.rel.keys hj)
  have fin3 : HLess h3 h := B.less.trans fin
  refine run_loop (fun k τ h' => ∃ (sn : List Nat) (arr : List Va), k = (aLeft raw sn).length ∧ Written base es raw sn arr ∧ τ 6 = .ptr p6 0 ∧ τ 10 = .ptr p10 0 ∧ τ 50 = .ptr it 0 ∧ HLess h' h ∧ h' x = some (.cells [vv2, .map m2, .int .i64 s'.wk] 101) ∧ h' m2 = some (.map raw c) ∧ h' it = some (.iter (some m2) c sn c) ∧ h' p10 = some (.cells [.ptr x 0] 97) ∧ h' p6 = some (.cells [.list 0 [] 0 .nil] 24) ∧ ((base = [] ∧ ∃ sz tok, vv2 = .list sz [] 0 tok ∧ (tok = .full ∨ tok = .nil)) ∨ ∃ p, vv2 = .sl p 0 base.length ∧ h' p = some (.cells (encVs arr) 62) ∧ h p = Option.none)) (aLeft raw []).length ?_ ?_
  ·refine ⟨[], base, rfl, written_nil _ _ _, ?_⟩
   simp only [go_sem, ↓reduceIte, itx, itm, it10, it6, hx2, hm2, t10, t6]
   refine ⟨fin3.new (fin3.none hit), ?_⟩
   rcases B.vals with hv | ⟨p, e, hp, hp0⟩
   ·exact .inl hv
   ·refine .inr ⟨p, e, ?_, fin.none hp0⟩
    rw [if_neg (ne_of_new hit hp)]; exact hp
  ·intro cc hcc k τ h' hI
   obtain ⟨sn, arr, hk, hW, f6, f10, f50, hl', mx, mm, mit, m10, m6, hv⟩ := hI
   subst hcc
   repeat first | ((with_reducible refine sS ?_); intro _ _ _ C_ R_ U_; simp only [go_sem, ↓reduceIte, f6, f10, f50, aNext, mit, mm]; subst C_ R_ U_) | (with_reducible refine iR ?_; refine rG2 ?_) | with_reducible refine rS fun bq hbq => ?_
   refine ⟨Nat.le_refl _, B.rel.lt, fun hnil => ?_, fun e he => ?_⟩
   ·have hall : ∀ e ∈ raw, e.2.2 ∈ sn := fun e he => by
     by_cases h : e.2.2 ∈ sn
     ·exact h
     ·have : e ∈ aLeft raw sn := List.mem_filter.2 ⟨he, by simpa using h⟩
      rw [hnil] at this; exact absurd this List.not_mem_nil
    have harr : arr = s'.ms := (written_all B.rel.rel hlow2 hW hall).trans B.ms.symm
    have hIs := (solve_ok 402 ⟨vs, 0⟩ a b 0 0 s' (inv_check hc) (show (0 : Int) ≤ 0 by decide) (by decide) hfa hfb hs).1.inv
    have hsz : ∀ v ∈ s'.ms, v.type.size ≤ 1000000000 ∧ v.t.size ≤ 1000000000 := fun v hv => by
     have ok := hIs.val v hv
     have h1 := type_size (type_ok ok.ty).1
     refine ⟨by omega, ?_⟩
     cases hi : v.is
     ·have := ok.no hi; omega
     ·have := (ok.val hi).2.2.2; omega
    have hlms := hIs.len
    repeat first | ((with_reducible first | refine sS ?_ | refine sC ?_); intro _ _ _ C_ R_ U_; simp only [go_sem, ↓reduceIte, f6, f10, f50, m10, mx]; subst C_ R_ U_) | (with_reducible refine rN ?_; subst hbq) | (with_reducible refine iR ?_; refine rG2 ?_) | (with_reducible refine x1 ?_; clear hbq bq) | with_reducible first | refine nS ?_ | refine rS fun bq hbq => ?_ | refine rXx ?_ | refine x3 ?_ | refine x4 ?_
    have key3 : AmCalls Tryz.prog 58 [.agg [vv2]] h' fun o H1 => o = .ret (.agg [.list 8 (encVs s'.ms) s'.ms.length .none]) ∧ HLess H1 h ∧ H1 p6 = some (.cells [.list 0 [] 0 .nil] 24) := by
     refine AmCalls.weakV ?_
     rcases hv with ⟨hb0, sz, tok, rfl, _⟩ | ⟨p, rfl, mp, hp0⟩
     ·have hms : s'.ms = [] := by
       have := vals_len B
       rw [hb0] at this
       exact List.eq_nil_of_length_eq_zero this
      refine AmCalls.args (args' := [.agg [.list 8 (encVs []) ([] : List Va).length .none]]) (.cons (LeAV.agg (.cons (LeAV.nil _ _ _) .nil)) .nil) (copiedStore_am [] _ _ (by simp) (fun v hv => absurd hv List.not_mem_nil) (fun _ => ?_) (fun hne => absurd rfl hne))
      rw [hms]
      exact ⟨_, .agg [.list 8 (encVs []) ([] : List Va).length .none], h', rfl, WeakV.of (LeAV.agg (.cons (LeAV.nil _ _ _) .nil)) (HLess.refl _), rfl, hl', m6⟩
     ·have hbl : base.length = s'.ms.length := (vals_len B).symm
      rw [harr] at mp
      rw [hbl]
      have hl6 : HLess (upd h' p Option.none) h := fun j y hj => by
       have : j ≠ p := fun e => by subst e; rw [hp0] at hj; cases hj
       rw [upd_other _ _ this]; exact hl' _ _ hj
      have n6 : p6 ≠ p := fun e => by rw [e, mp] at m6; injection m6 with m6; injection m6 with _ m6; cases m6
      refine freeze_store mp (encVs_length _) (encVs_flat _) (copiedStore_am s'.ms _ _ (by omega) hsz (fun hn => ?_) (fun hne p2 hp2 => ?_))
      ·rw [hn]
       exact ⟨_, .agg [.list 8 (encVs []) ([] : List Va).length .none], _, rfl, WeakV.of (LeAV.agg (.cons (LeAV.nil _ _ _) .nil)) (HLess.refl _), rfl, hl6, by rw [upd_other _ _ n6]; exact m6⟩
      ·exact ⟨_, .agg [.list 8 (encVs s'.ms) s'.ms.length .none], upd h' p Option.none, rfl, WeakV.freeze (p := p2) (n := s'.ms.length) (z := 8) (cs := encVs s'.ms) (T := 62) (upd_same _ _ _) (encVs_length _) (encVs_flat _) (LeF.agg (.cons LeF.here .nil)) (LeH.of (HLess.one hp2) hp2), rfl, hl6, by rw [upd_other _ _ n6]; exact m6⟩
    refine AmCalls.mono key3 ?_
    intro o3 H1 ⟨ho3, hl1, k6⟩
    subst ho3
    try dsimp only
    repeat (((with_reducible refine sS ?_); intro _ _ _ C_ R_ U_; simp only [go_sem, ↓reduceIte]; subst C_ R_ U_))
    intro p15 hp15
    have n156 := ne_of_new hp15 k6
    repeat first | ((with_reducible refine sS ?_); intro _ _ _ C_ R_ U_; simp only [go_sem, ↓reduceIte, n156, k6]; subst C_ R_ U_) | (with_reducible refine rN ?_; subst hbq) | (with_reducible refine iR ?_; refine rG2 ?_) | with_reducible first | refine nS ?_ | refine rS fun bq hbq => ?_
    refine check_am s'.ms (by omega) .none _ _ ?_
    have hu : unifyF vs a b = if checkF s'.ms == 2 || checkF s'.ms == 50 then ([], false, 2) else (s'.ms, true, 0) := by
     unfold unifyF
     rw [hft, hs]; rfl
    have hlz : HLess (upd H1 p15 (some (.cells [.list 8 (encVs s'.ms) s'.ms.length .none] 24))) h := hl1.new (hl1.none hp15)
    cases k2 : (checkF s'.ms == 2)
    ·cases k50 : (checkF s'.ms == 50)
     ·rw [hu, k2, k50] at hq
      try dsimp only
      repeat first | ((with_reducible first | refine sS ?_ | refine sC ?_); intro _ _ _ C_ R_ U_; simp only [go_sem, ↓reduceIte, f6, n156, k6, k2, k50]; subst C_ R_ U_) | (with_reducible refine rN ?_; subst hbq) | (with_reducible refine iR ?_; refine rG2 ?_) | with_reducible first | refine nS ?_ | refine rS fun bq hbq => ?_ | refine rK ?_ | refine rR ?_
      refine last_as (v := outU (s'.ms, true, 0)) (by rw [Tryz.results15]) (hlz.new h06) ?_ hq
      simp only [go_sem, ↓reduceIte, f6, aPack, Option.some.injEq, exists_eq_left']
      exact LeAV.refl _
     ·rw [hu, k2, k50] at hq
      try dsimp only
      repeat first | ((with_reducible first | refine sS ?_ | refine sC ?_); intro _ _ _ C_ R_ U_; simp only [go_sem, ↓reduceIte, f6, n156, k6, k2, k50, build24_0]; subst C_ R_ U_) | (with_reducible refine rN ?_; subst hbq) | (with_reducible refine iR ?_; refine rG2 ?_) | (with_reducible refine r1 ?_; clear hbq bq) | with_reducible first | refine nS ?_ | refine rS fun bq hbq => ?_ | refine rR ?_
      exact end15 (by simp only [go_sem, ↓reduceIte, f6]) rfl rfl (.inl ⟨rfl, _, _, rfl⟩) (upd_same _ _ _) rfl (hlz.new h06) hq
    ·rw [hu, k2] at hq
     try dsimp only
     repeat first | ((with_reducible first | refine sS ?_ | refine sC ?_); intro _ _ _ C_ R_ U_; simp only [go_sem, ↓reduceIte, f6, n156, k6, k2, build24_0]; subst C_ R_ U_) | (with_reducible refine rN ?_; subst hbq) | (with_reducible refine iR ?_; refine rG2 ?_) | (with_reducible refine r1 ?_; clear hbq bq) | with_reducible first | refine nS ?_ | refine rS fun bq hbq => ?_ | refine rR ?_
     exact end15 (by simp only [go_sem, ↓reduceIte, f6]) rfl rfl (.inl ⟨rfl, _, _, rfl⟩) (upd_same _ _ _) rfl (hlz.new h06) hq
   ·have hmem : e ∈ raw := (List.mem_filter.1 he).1
    obtain ⟨j, hj⟩ := List.getElem?_of_mem hmem
    obtain ⟨kk, v, hes, hev⟩ := rel_get es raw B.rel.rel j e hj
    have hent : ∀ H : AHeap, H it = some (.iter (some m2) c (sn ++ [e.2.2]) c) → H m2 = some (.map raw c) → aEntry (.ptr it 0) H = some (.tuple [.int .i64 kk, vAV v]) := fun H h1 h2 => by
     simp only [aEntry, h1, h2, if_true, List.getLast?_append, List.getLast?_singleton, Option.some_or, find_birth raw e B.rel.nod hmem]
     rw [hev]
    have nx : x ≠ it := fun e => by rw [e, mit] at mx; cases mx
    have nm : m2 ≠ it := fun e => by rw [e, mit] at mm; cases mm
    have n10 : p10 ≠ it := fun e => by rw [e, mit] at m10; cases m10
    have n6 : p6 ≠ it := fun e => by rw [e, mit] at m6; cases m6
    have hl2 : HLess (upd h' it (some (.iter (some m2) c (sn ++ [e.2.2]) c))) h := hl'.new ((fin3.none hit))
    have mx2 : upd h' it (some (.iter (some m2) c (sn ++ [e.2.2]) c)) x = some (.cells [vv2, .map m2, .int .i64 s'.wk] 101) := by rw [upd_other _ _ nx]; exact mx
    have mm2 : upd h' it (some (.iter (some m2) c (sn ++ [e.2.2]) c)) m2 = some (.map raw c) := by rw [upd_other _ _ nm]; exact mm
    have m102 : upd h' it (some (.iter (some m2) c (sn ++ [e.2.2]) c)) p10 = some (.cells [.ptr x 0] 97) := by rw [upd_other _ _ n10]; exact m10
    have m62 : upd h' it (some (.iter (some m2) c (sn ++ [e.2.2]) c)) p6 = some (.cells [.list 0 [] 0 .nil] 24) := by rw [upd_other _ _ n6]; exact m6
    have mit2 : upd h' it (some (.iter (some m2) c (sn ++ [e.2.2]) c)) it = some (.iter (some m2) c (sn ++ [e.2.2]) c) := upd_same _ _ _
    have hkr := hlow2 j kk v hes
    rcases hv with ⟨hb0, _⟩ | ⟨p, rfl, mp, hp0⟩
    ·subst hb0; simp at hkr; omega
    have np : p ≠ it := fun e => by rw [e, mit] at mp; cases mp
    have mp2 : upd h' it (some (.iter (some m2) c (sn ++ [e.2.2]) c)) p = some (.cells (encVs arr) 62) := by rw [upd_other _ _ np]; exact mp
    generalize upd h' it (some (.iter (some m2) c (sn ++ [e.2.2]) c)) = H4 at *
    have hen := hent H4 mit2 mm2
    repeat first | ((with_reducible first | refine sS ?_ | refine sC ?_); intro _ _ _ C_ R_ U_; simp only [go_sem, ↓reduceIte, f6, f10, f50, hen]; subst C_ R_ U_) | (with_reducible refine rN ?_; subst hbq) | (with_reducible refine iR ?_; refine rG2 ?_) | (with_reducible refine rB fun cq hcq => ?_; subst hcq) | with_reducible first | refine nS ?_ | refine rS fun bq hbq => ?_ | refine rK ?_
    intro q hq1
    have qx := ne_of_new hq1 mx2
    have q10 := ne_of_new hq1 m102
    have qp := ne_of_new hq1 mp2
    have q6 := ne_of_new hq1 m62
    have qm := ne_of_new hq1 mm2
    have qi := ne_of_new hq1 mit2
    repeat first | ((with_reducible refine sS ?_); intro _ _ _ C_ R_ U_; simp only [go_sem, ↓reduceIte, f6, f10, f50, hen]; subst C_ R_ U_) | (with_reducible refine rN ?_; subst hbq) | with_reducible refine nS ?_
    have px : p ≠ x := fun e => by rw [e, mx2] at mp2; injection mp2 with mp2; injection mp2 with _ mp2; cases mp2
    obtain ⟨vo, hvo⟩ : ∃ vo, arr[kk.toNat]? = some vo := ⟨_, List.getElem?_eq_getElem (by rw [hW.len]; omega)⟩
    obtain ⟨r1, hr1⟩ := encVs_at arr kk.toNat hvo
    have hkl : kk.toNat < base.length := by omega
    repeat with_reducible refine run_seq fun bq hbq => ?_
    refine run_draw (.take 0 (.take 1 (.take 2 (.take 3 (.take 4 (.take 5 (.take 6 (.take 7 (.one 8 [] (.done)))))))))) (by kernel_rfl) (by simp only [compL, gtOf, nthDst]; exact rfl) ?_
    have hle : kk.toNat * 8 + 8 ≤ (encVs arr).length := by rw [encVs_length, hW.len]; omega
    have qpp : q ≠ p := fun e => qp e.symm
    repeat first | ((first | (with_reducible refine iT ?_; refine sT rfl ?_) | (with_reducible refine i0 ?_; refine s0 rfl ?_)); intro _ _ _ C_ R_ U_; simp only [go_sem, ↓reduceIte, f6, f10, m102, mx2, mp2, q10, qx, qp, hkr.1, hkr.2, hr1, hkl, hle, qpp]; subst C_ R_ U_) | with_reducible first | refine nD ?_ | refine rE ?_
    have hput := encVs_put v arr kk.toNat (by rw [hW.len]; omega)
    refine run_loopN (m := (aLeft raw (sn ++ [e.2.2])).length) (by rw [hk]; exact left_less he) ⟨sn ++ [e.2.2], arr.set kk.toNat v, rfl, written_step B.rel B.low hlow2 hW hes (by rw [hj, hev]), ?_⟩
    have pm : m2 ≠ p := fun e => by rw [e, mp2] at mm2; cases mm2
    have p10' : p10 ≠ p := fun e => by rw [e, mp2] at m102; injection m102 with m102; injection m102 with _ m102; cases m102
    have p6'' : p6 ≠ p := fun e => by rw [e, mp2] at m62; injection m62 with m62; injection m62 with _ m62; cases m62
    simp only [go_sem, ↓reduceIte, f6, f10, f50, qx, qm, qi, q10, q6, px, px.symm, pm, p10', p6'', np.symm, mx2, mm2, mit2, m102, m62]
    refine ⟨(hl2.new (hl2.none hq1)).new hp0, .inr ⟨p, rfl, ?_, hp0⟩⟩
    rw [if_pos rfl, ← hput]
    rfl
 ·have t6 := hl3 _ _ a6
  have t3 := hl3 _ _ a3
  cases he : (e == 0)
  ·have hr : unifyF vs a b = ([], false, e) := by
    unfold unifyF
    rw [hft]
    rcases hs with hs | ⟨hs, h0⟩
    ·rw [hs]; simp only [if_true, he, Bool.false_eq_true, if_false]
    ·subst h0; cases he
   rw [hr] at hq
   try dsimp only
   repeat first | ((with_reducible first | refine sS ?_ | refine sC ?_); intro _ _ _ C_ R_ U_; simp only [go_sem, ↓reduceIte, t6, he, build24_0]; subst C_ R_ U_) | (with_reducible refine rN ?_; subst hbq) | (with_reducible refine iR ?_; refine rG2 ?_) | (with_reducible refine rB fun cq hcq => ?_; subst hcq) | (with_reducible refine r1 ?_; clear hbq bq) | with_reducible first | refine nS ?_ | refine rS fun bq hbq => ?_ | refine rR ?_ | refine r4 ?_
   exact end15 rfl rfl rfl (.inl ⟨rfl, _, _, rfl⟩) (upd_same _ _ _) rfl ((hl3.trans fin).new h06) hq
  ·have e0 : e = 0 := by simpa using he
   subst e0
   have hr : unifyF vs a b = (vs, false, 0) := by
    unfold unifyF
    rw [hft]
    rcases hs with hs | ⟨hs, _⟩
    ·rw [hs]; rfl
    ·rw [hs]; rfl
   rw [hr] at hq
   try dsimp only
   repeat first | ((with_reducible first | refine sS ?_ | refine sC ?_); intro _ _ _ C_ R_ U_; simp only [go_sem, ↓reduceIte, t6, t3, he]; subst C_ R_ U_) | (with_reducible refine rN ?_; subst hbq) | (with_reducible refine iR ?_; refine rG2 ?_) | (with_reducible refine rB fun cq hcq => ?_; subst hcq) | with_reducible first | refine nS ?_ | refine rS fun bq hbq => ?_
   refine AmCalls.args (args' := [.agg [.list 8 (encVs vs) vs.length .none]]) (.cons (LeAV.agg (.cons (LeAV.list _ _ _ _) .nil)) .nil) (copiedStore_am vs _ _ (by omega) (check_sizes hcs) (fun hnil => ?_) (fun hne p hp => ?_))
   ·try dsimp only
    repeat first | ((with_reducible refine sS ?_); intro _ _ _ C_ R_ U_; simp only [go_sem, ↓reduceIte, t6, t3, he]; subst C_ R_ U_) | (with_reducible refine rN ?_; subst hbq) | (with_reducible refine r1 ?_; clear hbq bq) | with_reducible first | refine nS ?_ | refine rR ?_ | refine r4 ?_
    exact end15 rfl rfl rfl (.inl ⟨hnil, _, _, rfl⟩) (upd_same _ _ _) rfl ((hl3.trans fin).new h06) hq
   ·have p6' := ne_of_new hp t6
    try dsimp only
    repeat first | ((with_reducible refine sS ?_); intro _ _ _ C_ R_ U_; simp only [go_sem, ↓reduceIte, t6, t3, he, p6', p6'.symm]; subst C_ R_ U_) | (with_reducible refine rN ?_; subst hbq) | (with_reducible refine r1 ?_; clear hbq bq) | with_reducible first | refine nS ?_ | refine rR ?_ | refine r4 ?_
    have hp0 : h p = Option.none := (hl3.trans fin).none hp
    exact end15 rfl rfl rfl (.inr ⟨p, rfl, by rw [upd_other _ _ p6'.symm, upd_same], hp0⟩) (upd_same _ _ _) rfl (((hl3.trans fin).new hp0).new h06) hq
mutual
def underF (n : Int) : Term → Bool
 | ⟨k, m, _, l⟩ => !(k == 3 && decide (m ≥ n)) && underL n l
def underL (n : Int) : List Term → Bool
 | [] => true
 | t :: ts => underF n t && underL n ts
end
theorem underF_eq (n : Int) (t : Term) : underF n t = (!(t.kind == 3 && decide (t.n ≥ n)) && underL n t.args) := by obtain ⟨k, m, s, l⟩ := t; rw [underF]
theorem under_am (n : Int) : ∀ (sz : Nat) (t : Term) (h : AHeap) (Q : AOut → AHeap → Prop), t.size ≤ sz → t.size ≤ 1000000000 → Q (.ret (.bool (underF n t))) h → AmCalls Tryz.prog 29 [enc t, .int .i64 n] h Q := by
 intro sz
 induction sz with
 | zero => intro t h Q ht; obtain ⟨a, b, c, l⟩ := t; rw [Term.size] at ht; omega
 | succ sz ih =>
  intro t h Q ht htb hq
  have hlen := length_args t
  rw [underF_eq] at hq
  refine AmCalls.of_sem (fn := Tryz.f29) Tryz.func29 rfl (by kernel_rfl) (by rw [Tryz.ntmps29]; simp) (enters_of Tryz.func29 (by kernel_rfl) (by kernel_rfl)) ?_
  repeat first | ((with_reducible refine sS ?_); intro _ _ _ C_ R_ U_; simp only [go_sem, ↓reduceIte]; subst C_ R_ U_) | (with_reducible refine iR ?_; refine rG2 ?_) | with_reducible refine rS fun bq hbq => ?_
  intro p hp
  have sp : (upd h p (some (AObj.cells (cellsT t) 27))) p = some (.cells (cellsT t) 27) := upd_same _ _ _
  have hl : HLess (upd h p (some (AObj.cells (cellsT t) 27))) h := HLess.one hp
  generalize upd h p (some (AObj.cells (cellsT t) 27)) = H at *
  cases hc : (t.kind == 3 && decide (t.n ≥ n))
  case true =>
   rw [hc] at hq
   rw [Bool.and_eq_true] at hc
   repeat first | ((with_reducible first | refine sS ?_ | refine sC ?_); intro _ _ _ C_ R_ U_; simp only [go_sem, ↓reduceIte, sp, hc.1, hc.2]; subst C_ R_ U_) | (with_reducible refine rN ?_; subst hbq) | (with_reducible refine iR ?_; refine rG2 ?_) | (with_reducible refine r1 ?_; clear hbq bq) | (with_reducible refine iL ?_; refine rL (by rw [Tryz.results29]) (hl) ?_; simp only [go_sem, ↓reduceIte, aPack, Option.some.injEq, exists_eq_left', sp, hc.1, hc.2]) | with_reducible first | refine nS ?_ | refine rS fun bq hbq => ?_ | refine rR ?_
   exact hq
  rw [hc] at hq
  simp only [Bool.not_false, Bool.true_and] at hq
  cases k3 : (t.kind == 3)
  case' true => have kn : decide (t.n ≥ n) = false := by rw [k3, Bool.true_and] at hc; exact hc
  case' false => have kn : True := trivial
  all_goals
   repeat first | ((with_reducible first | refine sS ?_ | refine sC ?_); intro _ _ _ C_ R_ U_; simp only [go_sem, ↓reduceIte, sp, k3, kn]; subst C_ R_ U_) | (with_reducible refine rN ?_; subst hbq) | (with_reducible refine iR ?_; refine rG2 ?_) | (with_reducible refine rB fun cq hcq => ?_; subst hcq) | with_reducible first | refine nS ?_ | refine rS fun bq hbq => ?_ | refine rK ?_
   refine run_loop (fun k τ h' => ∃ i : Nat, k + i = t.args.length ∧ underL n (t.args.drop i) = underL n t.args ∧ τ 1 = .int .i64 n ∧ τ 2 = .ptr p 0 ∧ τ 5 = .int .i64 i ∧ h' = H) t.args.length ?_ ?_
   ·exact ⟨0, rfl, rfl, rfl, rfl, rfl, rfl⟩
   ·intro c hcc k τ h' hI
    obtain ⟨i, hk, hix, f1, f2, f5, rfl⟩ := hI
    subst hcc
    by_cases hi : i < t.args.length
    ·obtain ⟨u, hu⟩ : ∃ u, t.args[i]? = some u := ⟨_, List.getElem?_eq_getElem hi⟩
     obtain ⟨r, hr⟩ := encs_at t.args i hu
     have hsu := size_arg t i hu
     have hdrop : t.args.drop i = u :: t.args.drop (i + 1) := by
      rw [List.drop_eq_getElem_cons hi]
      rw [List.getElem?_eq_getElem hi] at hu; injection hu with hu; rw [hu]
     rw [hdrop, underL] at hix
     repeat first | ((with_reducible first | refine sS ?_ | refine sC ?_); intro _ _ _ C_ R_ U_; simp only [go_sem, ↓reduceIte, f1, f2, f5, sp, hi, hr]; subst C_ R_ U_) | (with_reducible refine rN ?_; subst hbq) | (with_reducible refine iR ?_; refine rG2 ?_) | (with_reducible refine rB fun cq hcq => ?_; subst hcq) | with_reducible first | refine nS ?_ | refine rS fun bq hbq => ?_ | refine rK ?_
     refine ih u _ _ (by omega) (by omega) ?_
     cases hu2 : underF n u
     ·rw [hu2] at hix
      try dsimp only
      repeat first | ((with_reducible first | refine sS ?_ | refine sC ?_); intro _ _ _ C_ R_ U_; simp only [go_sem, ↓reduceIte, f1, f2, f5, sp, hi, hr, hu2]; subst C_ R_ U_) | (with_reducible refine rN ?_; subst hbq) | (with_reducible refine iR ?_; refine rG2 ?_) | (with_reducible refine r1 ?_; clear hbq bq) | (with_reducible refine iL ?_; refine rL (by rw [Tryz.results29]) (hl) ?_; simp only [go_sem, ↓reduceIte, aPack, Option.some.injEq, exists_eq_left', f1, f2, f5, sp, hi, hr, hu2]) | with_reducible first | refine nS ?_ | refine rS fun bq hbq => ?_ | refine rR ?_ | refine r3 ?_ | refine r4 ?_
      rw [← hix] at hq
      exact hq
     ·rw [hu2, Bool.true_and] at hix
      try dsimp only
      repeat first | ((with_reducible first | refine sS ?_ | refine sC ?_); intro _ _ _ C_ R_ U_; simp only [go_sem, ↓reduceIte, f1, f2, f5, sp, hi, hr, hu2, wrapI ((i : Int) + 1) (by omega)]; subst C_ R_ U_) | (with_reducible refine rN ?_; subst hbq) | (with_reducible refine iR ?_; refine rG2 ?_) | with_reducible first | refine nS ?_ | refine rK ?_ | refine rE ?_
      refine run_loopN (m := k - 1) (by omega) ⟨i + 1, by omega, hix, ?_⟩
      simp only [go_sem, ↓reduceIte, f1, f2]
      rfl
    ·rw [List.drop_eq_nil_of_le (by omega), underL] at hix
     repeat first | ((with_reducible first | refine sS ?_ | refine sC ?_); intro _ _ _ C_ R_ U_; simp only [go_sem, ↓reduceIte, f1, f2, f5, sp, hi]; subst C_ R_ U_) | (with_reducible refine rN ?_; subst hbq) | (with_reducible refine iR ?_; refine rG2 ?_) | (with_reducible refine x1 ?_; clear hbq bq) | (with_reducible refine iL ?_; refine rL (by rw [Tryz.results29]) (hl) ?_; simp only [go_sem, ↓reduceIte, aPack, Option.some.injEq, exists_eq_left', f1, f2, f5, sp, hi]) | with_reducible first | refine nS ?_ | refine rS fun bq hbq => ?_ | refine rXx ?_ | refine rR ?_ | refine x3 ?_ | refine x4 ?_
     rw [← hix] at hq
     exact hq
theorem lambdas77_am (t : Term) (n : Int) (hn0 : 0 ≤ n) (hn : n ≤ 1000000) (h : AHeap) (Q : AOut → AHeap → Prop) (hq : Q (.ret (enc (lamsT n.toNat t))) h) : AmCalls Tryz.prog 77 [enc t, .int .i64 n] h Q := by
 refine AmCalls.of_sem (fn := Tryz.f77) Tryz.func77 rfl (by kernel_rfl) (by rw [Tryz.ntmps77]; simp) (enters_of Tryz.func77 (by kernel_rfl) (by kernel_rfl)) ?_
 repeat first | ((with_reducible refine sS ?_); intro _ _ _ C_ R_ U_; simp only [go_sem, ↓reduceIte]; subst C_ R_ U_) | (with_reducible refine iR ?_; refine rG2 ?_) | with_reducible refine rS fun bq hbq => ?_
 intro b hb
 repeat (((with_reducible refine sS ?_); intro _ _ _ C_ R_ U_; simp only [go_sem, ↓reduceIte]; subst C_ R_ U_))
 intro r hr
 have e := fresh_if hr
 have e0 := e.1
 repeat first | ((with_reducible refine sS ?_); intro _ _ _ C_ R_ U_; simp only [go_sem, ↓reduceIte, e.1, e.1.symm]; subst C_ R_ U_) | (with_reducible refine rN ?_; subst hbq) | (with_reducible refine iR ?_; refine rG2 ?_) | (with_reducible refine rB fun cq hcq => ?_; subst hcq) | with_reducible first | refine nS ?_ | refine rS fun bq hbq => ?_
 refine run_loop (fun k τ h' => ∃ (i : Nat) (u : Term) (sz : Nat) (cs : List AV) (tok : Tok), k = n.toNat - i ∧ (i : Int) ≤ n ∧ lamsT (n.toNat - i) u = lamsT n.toNat t ∧ τ 2 = .ptr b 0 ∧ τ 4 = .ptr r 0 ∧ τ 1 = .int .i64 n ∧ τ 5 = .int .i64 i ∧ HLess h' h ∧ h' b = some (.cells [.int .i64 u.kind, .int .i64 u.n, .str u.name, .list sz cs u.args.length tok] 27) ∧ LeAV (.list sz cs u.args.length tok) (.list 4 (encs u.args) u.args.length .none) ∧ h' r = some (.cells [.int .i64 0, .int .i64 0, .str ⟨#[]⟩, .list 0 [] 0 .nil] 27)) n.toNat ?_ ?_
 ·refine ⟨0, t, _, _, _, rfl, hn0, rfl, rfl, rfl, rfl, rfl, ((HLess.refl h).new hb).new e.2, ?_, LeAV.refl _, upd_same _ _ _⟩
  rw [upd_other _ _ e.1.symm, upd_same]
 ·intro c hc k τ h' hI
  obtain ⟨i, u, sz, cs, tok, rfl, hi, hu, f2, f4, f1, f5, hl', mb, hL, mr⟩ := hI
  subst hc
  by_cases hin : (i : Int) < n
  ·have rb : r ≠ b := e0
   repeat first | ((with_reducible first | refine sS ?_ | refine sC ?_); intro _ _ _ C_ R_ U_; simp only [go_sem, ↓reduceIte, f2, f4, f1, f5, hin, mb, build25_f, build27_03, wrapI ((i : Int) + 1) (by omega)]; subst C_ R_ U_) | (with_reducible refine rN ?_; subst hbq) | (with_reducible refine iR ?_; refine rG2 ?_) | (with_reducible refine rB fun cq hcq => ?_; subst hcq) | with_reducible first | refine nS ?_ | refine rS fun bq hbq => ?_ | refine rK ?_ | refine rE ?_
   refine run_loopN (m := n.toNat - (i + 1)) (by omega) ⟨i + 1, ⟨5, 0, noNameS, [u]⟩, 4, [.int .i64 u.kind, .int .i64 u.n, .str u.name, .list sz cs u.args.length tok], .full, rfl, by omega, ?_⟩
   simp only [go_sem, ↓reduceIte, f2, f4, f1, rb]
   refine ⟨by rw [← hu, show n.toNat - i = n.toNat - (i + 1) + 1 by omega, lamsT], rfl, hl'.new hb, ?_, mr⟩
   have e25 : encs [u] = cellsT u := by rw [encs_eq]; simp
   rw [e25]
   exact fun G W v hr => LeAV.listL (.cons (LeAV.refl _) (.cons (LeAV.refl _) (.cons (LeAV.refl _) (.cons hL .nil)))) G W v (LeAV.list _ _ _ _ G W v hr)
  ·obtain rfl : n = i := by omega
   rw [show (i : Int).toNat - i = 0 by omega, lamsT] at hu
   repeat first | ((with_reducible first | refine sS ?_ | refine sC ?_); intro _ _ _ C_ R_ U_; simp only [go_sem, ↓reduceIte, f2, f4, f1, f5, hin, mb, mr]; subst C_ R_ U_) | (with_reducible refine rN ?_; subst hbq) | (with_reducible refine iR ?_; refine rG2 ?_) | (with_reducible refine x1 ?_; clear hbq bq) | with_reducible first | refine nS ?_ | refine rS fun bq hbq => ?_ | refine rXx ?_ | refine rR ?_ | refine x3 ?_ | refine x4 ?_
   refine last_as (v := enc u) (by rw [Tryz.results77]) (hl'.new e.2) ?_ (by rw [hu]; exact hq)
   simp only [go_sem, ↓reduceIte, f4, aPack, Option.some.injEq, exists_eq_left']
   exact LeAV.agg (.cons (LeAV.refl _) (.cons (LeAV.refl _) (.cons (LeAV.refl _) (.cons hL .nil))))
def itselfF (vs : List Va) (n : Int) : Term := lamsT (arityF (valAt vs n).type) (sVar n (backF (arityF (valAt vs n).type) (List.range (arityF (valAt vs n).type))))
theorem rawB_range (m i : Nat) : rawB m (List.range (i + 1)) = rawB m (List.range i) ++ rawBnd ((m : Int) - 1 - i) := by
 unfold rawB
 rw [List.range_succ, List.flatMap_append]; simp
theorem itself_am (vs : List Va) (hvs : vs.length ≤ 1000000) (tk : Tok) (n : Int) (hn0 : 0 ≤ n) (hn2 : n < (vs.length : Int)) (h : AHeap) (Q : AOut → AHeap → Prop) (hq : Q (.ret (enc (itselfF vs n))) h) : AmCalls Tryz.prog 28 [.agg [.list 8 (encVs vs) vs.length tk], .int .i64 n] h Q := by
 have h8 := args_len (valAt vs n).type
 unfold itselfF at hq
 refine AmCalls.of_sem (fn := Tryz.f28) Tryz.func28 rfl (by kernel_rfl) (by rw [Tryz.ntmps28]; simp) (enters_of Tryz.func28 (by kernel_rfl) (by kernel_rfl)) ?_
 repeat first | ((with_reducible refine sS ?_); intro _ _ _ C_ R_ U_; simp only [go_sem, ↓reduceIte]; subst C_ R_ U_) | (with_reducible refine iR ?_; refine rG2 ?_) | with_reducible refine rS fun bq hbq => ?_
 intro a ha
 repeat (((with_reducible refine sS ?_); intro _ _ _ C_ R_ U_; simp only [go_sem, ↓reduceIte]; subst C_ R_ U_))
 intro r hr
 have e1 := fresh_if hr
 repeat first | ((with_reducible refine sS ?_); intro _ _ _ C_ R_ U_; simp only [go_sem, ↓reduceIte, e1.1, e1.1.symm]; subst C_ R_ U_) | (with_reducible refine rN ?_; subst hbq) | (with_reducible refine iR ?_; refine rG2 ?_) | with_reducible first | refine nS ?_ | refine rS fun bq hbq => ?_
 refine arity_am vs hvs tk n hn0 hn2 _ _ ?_
 generalize arityF (valAt vs n).type = m at *
 try dsimp only
 repeat first | ((with_reducible refine sS ?_); intro _ _ _ C_ R_ U_; simp only [go_sem, ↓reduceIte, build27_01]; subst C_ R_ U_) | (with_reducible refine rN ?_; subst hbq) | (with_reducible refine iR ?_; refine rG2 ?_) | with_reducible first | refine nS ?_ | refine rS fun bq hbq => ?_
 intro b hb
 have e2 := fresh_if hb
 have e3 := fresh_if e2.2
 have hl : HLess (upd (upd (upd h a (some (.cells [.list 8 (encVs vs) vs.length tk] 24))) r (some (.cells zT 27))) b (some (.cells [.int .i64 4, .int .i64 n, .str noNameS, .list 0 [] 0 .nil] 27))) h := (((HLess.refl h).new ha).new e1.2).new e3.2
 repeat first | ((with_reducible refine sS ?_); intro _ _ _ C_ R_ U_; simp only [go_sem, ↓reduceIte, e2.1, e2.1.symm]; subst C_ R_ U_) | (with_reducible refine rN ?_; subst hbq) | (with_reducible refine iR ?_; refine rG2 ?_) | (with_reducible refine rB fun cq hcq => ?_; subst hcq) | with_reducible first | refine nS ?_ | refine rS fun bq hbq => ?_
 refine run_loop (fun k τ h' => ∃ (i sz : Nat) (tok : Tok), k + i = m ∧ τ 5 = .int .i64 m ∧ τ 4 = .ptr r 0 ∧ τ 6 = .ptr b 0 ∧ τ 7 = .int .i64 i ∧ HLess h' h ∧ h' r = some (.cells zT 27) ∧ h' b = some (.cells [.int .i64 4, .int .i64 n, .str noNameS, .list sz (rawB m (List.range i)) i tok] 27) ∧ Grow 27 h h' tok ∧ (i = 0 ∨ sz = 4)) m ?_ ?_
 ·refine ⟨0, 0, .nil, rfl, ?_⟩
  simp only [go_sem, ↓reduceIte, e2.1, e2.1.symm]
  exact ⟨rfl, hl, rfl, .inl (.inr rfl), .inl trivial⟩
 ·intro c hc k τ h' hI
  obtain ⟨i, sz, tok, hk, f5, f4, f6, f7, hl', mr, mb, hg, hsz⟩ := hI
  subst hc
  by_cases hi : i < m
  ·repeat first | ((with_reducible first | refine sS ?_ | refine sC ?_); intro _ _ _ C_ R_ U_; simp only [go_sem, ↓reduceIte, f4, f5, f6, f7, hi, mb, build27_01, build25_f, wrapI ((m : Int) - 1) (by omega), wrapI ((m : Int) - 1 - i) (by omega)]; subst C_ R_ U_) | (with_reducible refine rN ?_; subst hbq) | (with_reducible refine iR ?_; refine rG2 ?_) | (with_reducible refine rB fun cq hcq => ?_; subst hcq) | with_reducible first | refine nS ?_ | refine rS fun bq hbq => ?_ | refine rK ?_
   refine cAppend_list ?_
   simp only [go_sem, ↓reduceIte]
   intro w hw
   obtain ⟨h4, ea, hg4, hl4, keep⟩ := append_grow el_25 el_25 sz_27 by_27 ze_27 ⟨rfl, by decide⟩ (h0 := h) (h := h') (p := w) hl' hw (sz1 := sz) (c1 := rawB m (List.range i)) (n1 := i) (t := tok) (c2 := rawBnd ((m : Int) - 1 - i)) (n2 := 1) (t2 := .full) hg hsz (sz2 := 4) rfl (by decide) (by omega)
   have r4 := keep r _ _ mr
   have b4 := keep b _ _ mb
   simp only [ea, go_sem, ↓reduceIte, f6, b4]
   repeat first | ((with_reducible refine sS ?_); intro _ _ _ C_ R_ U_; simp only [go_sem, ↓reduceIte, f4, f5, f6, f7, b4, wrapI ((i : Int) + 1) (by omega)]; subst C_ R_ U_) | (with_reducible refine rN ?_; subst hbq) | (with_reducible refine iR ?_; refine rG2 ?_) | with_reducible first | refine nS ?_ | refine rE ?_
   have rb : r ≠ b := fun e => by rw [e, mb] at mr; injection mr with mr; injection mr with mr _; cases mr
   refine run_loopN (m := k - 1) (by omega) ⟨i + 1, 4, .id w, by omega, ?_⟩
   rw [rawB_range]
   simp only [go_sem, ↓reduceIte, f4, f5, f6, f7, rb, r4]
   refine ⟨rfl, hl4.new e3.2, ?_, .inr trivial⟩
   rcases hg4 with e | ⟨f, ef, hf, hf0⟩
   ·rcases e with e | e <;> cases e
   ·injection ef with ef; subst ef
    exact .inr ⟨w, rfl, by rw [upd_other _ _ (by intro e; rw [e, b4] at hf; cases hf)]; exact hf, hf0⟩
  ·repeat first | ((with_reducible first | refine sS ?_ | refine sC ?_); intro _ _ _ C_ R_ U_; simp only [go_sem, ↓reduceIte, f4, f5, f6, f7, hi, mb]; subst C_ R_ U_) | (with_reducible refine rN ?_; subst hbq) | (with_reducible refine iR ?_; refine rG2 ?_) | (with_reducible refine x1 ?_; clear hbq bq) | with_reducible first | refine nS ?_ | refine rS fun bq hbq => ?_ | refine rXx ?_ | refine x3 ?_ | refine x4 ?_
   have hie : i = m := by omega
   have hb4 : (backF m (List.range m)).length = m := by simp [backF]
   have hlb : LeAV (.list sz (rawB m (List.range i)) i tok) (.list 4 (encs (backF m (List.range m))) (backF m (List.range m)).length .none) := by
    rw [hie]
    have := le_backs m (List.range m) sz tok (by
     rcases hsz with e | e
     ·left; rw [← hie, e]; rfl
     ·exact .inr e)
    rw [List.length_range] at this
    exact this
   refine AmCalls.args (args' := [enc (sVar n (backF m (List.range m))), .int .i64 m]) (.cons (LeAV.agg (.cons (LeAV.refl _) (.cons (LeAV.refl _) (.cons (LeAV.refl _) (.cons hlb .nil))))) (.cons (LeAV.refl _) .nil)) (lambdas77_am (sVar n (backF m (List.range m))) m (by omega) (by omega) _ _ ?_)
   rw [Int.toNat_natCast]
   have rb : r ≠ b := fun e => by rw [e, mb] at mr; injection mr with mr; injection mr with mr _; cases mr
   try dsimp only
   repeat first | ((with_reducible refine sS ?_); intro _ _ _ C_ R_ U_; simp only [go_sem, ↓reduceIte, f4, f5, f6, f7, mb, mr]; subst C_ R_ U_) | (with_reducible refine rN ?_; subst hbq) | with_reducible first | refine nS ?_ | refine rR ?_
   refine last_as (v := enc (lamsT m (sVar n (backF m (List.range m))))) (by rw [Tryz.results28]) (hl'.new e1.2) ?_ hq
   simp only [go_sem, ↓reduceIte, f4, aPack, Option.some.injEq, exists_eq_left']
   exact LeAV.refl _
end Go.Proofs.YthkjmiejaoomcaaGreat.Am
