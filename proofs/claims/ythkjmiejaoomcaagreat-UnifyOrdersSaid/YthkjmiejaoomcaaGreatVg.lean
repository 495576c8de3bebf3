/- Part of the proof of a law of layer 5: own texts, joined. -/
import Derived.Test.YthkjmiejaoomcaaGreatVb
set_option linter.unusedVariables false
set_option linter.unusedSimpArgs false
set_option linter.unnecessarySimpa false
namespace Go.Proofs.YthkjmiejaoomcaaGreat.Am
open Go Go.RowKit Go.Proofs
set_option linter.unusedVariables false
set_option linter.unusedSimpArgs false
set_option maxRecDepth 100000
set_option maxHeartbeats 1000000
attribute [go_sem] cSeq cDr cOne lu jE panK kw eX panC Oa cOp bN y8 aop aR mW List.getD_cons_zero List.getD_cons_succ AV.known AV.cells if_true if_false cond_true cond_false aPut true_and and_true ofConst ofLeaf O7 Nz Lr Kw btt btf
 uD Da CY zu aBin aInt Fw aStr unSl aLen jX Option.map_some Option.map_none upd_same Uh Nat.reduceBEq List.drop_zero List.drop_succ_cons List.drop_nil List.take_succ_cons List.take_zero List.head?_cons List.length_cons List.length_nil Nat.reduceAdd Nat.reduceLeDiff Nat.reduceEqDiff List.map_cons List.map_nil Nat.zero_add Nat.add_zero reduceCtorEq Bool.false_eq_true
 jw He true_implies false_implies implies_true forall_const and_self Bool.not_true Bool.not_false Bool.cond_self U7 uE aNil OE aMax aMin aNot List.getElem?_cons_zero List.getElem?_cons_succ uC l9 dV AV.flat List.all_cons List.all_nil Bool.and_true Bool.true_and Bool.and_false Bool.false_and Int.natCast_nonneg Int.ofNat_lt Int.toNat_natCast Us Nat.le_add_left List.append_nil List.contains_cons List.contains_nil Bool.or_true Bool.or_false Bool.true_or Bool.false_or Nat.reduceBEq List.cons_append List.nil_append
 sz_1 by_1 ag_1 tk_1 ze_1 sz_3 by_3 ag_3 tk_3 ze_3 sz_4 by_4 ag_4 tk_4 ze_4 sz_9 by_9 ag_9 tk_9 ze_9
 sz_20 by_20 ag_20 tk_20 ze_20 sz_22 by_22 ag_22 tk_22 yR ze_22 sz_24 by_24 ag_24 tk_24 OO Ue Px sz_25 by_25
 ag_25 Vb ed ze_25 je mD ag_27 tk_27 iy Ud Uc Ub Ua JQ sz_30 by_30 ag_30 tk_30 ze_30 sz_34
 by_34 ag_34 tk_34 ze_34 T9 TZ TY TW pl_34 sz_40 by_40 ag_40 U9 wE ze_40 sz_42 by_42 ag_42 tk_42 ze_42
 TV TU TT pl_42 sz_52 by_52 ag_52 tk_52 ze_52 TS TR TQ TP pl_52 Du Oc ag_60 tk_60 zI TN
 TM SV FN Ob ag_62 tk_62 zH Nw TL TJ TI Ws sz_68 by_68 ag_68 tk_68 ze_68 TH TG pl_68
 sz_70 by_70 ag_70 tk_70 qB ze_70 sz_77 by_77 ag_77 tk_77 yQ ze_77 sz_80 by_80 ag_80 tk_80 ze_80 sz_83 by_83 ag_83
 tk_83 ze_83 TF TE pl_83 sz_95 by_95 ag_95 tk_95 ze_95 sz_97 by_97 ag_97 tk_97 ze_97 sz_99 by_99 ag_99 tk_99 J6
 ze_99 Wm Xx Ya VF Rk QJ QI QH Rx Wl Xw X9 VE U1 Wj Xv X8 VD U0
 QG QF QE Wy Wi Xu X7 VC UZ Wh Xt X6 VB UY We Xr X5 VA WR UX
 Wd Xq X4 Vz UW QD QC QB QA Wx V9 Xp X3 Vy UV Qz Qy Ww V8 Xo
 X0 Vx UU V7 Xn XZ Vw UT V6 Xm XY Vv Iw UR V5 Xl XX Vu Rj Qx
 Qw Qv Qu Rw V3 Xk XW Vt WQ UQ VX Xj XV Vs WF UO VW Xi XU Vr
 UN Qt Qs Wv VT Xh XT Vq UM VS Xg XR Vp WP UL VR Xf XQ Vo UK
 Qr Qq Qp Qo Wu VQ Xe XO Vn Ri Rv VP Xd XN Vm Rh Qn Ru VO Xc
 XL Vl UJ VN Xb XK Vk UI Qm Ql Qk Wt VM Xa XJ Vj Eg UH VL W9
 XI Vi UG VK WZ XH Vh Rf Qj Qi Qh Rt VJ WY XG Vg Hq Qg Qf Rs
 VI WX XF Vf WO UF VH WW XE Ve UE VG WV XD Vd UD
structure Term where
 kind:Int
 n:Int
 name:ByteArray
 args:List Term
def encs:List Term→List AV
 |[]=>[]
 |⟨k,n,s,l⟩::ts=>.int .i64 k::.int .i64 n::.str s::.list 4 (encs l) l.length .none::encs ts
abbrev ay (t:Term):List AV:=[.int .i64 t.kind,.int .i64 t.n,.str t.name,.list 4 (encs t.args) t.args.length .none]
abbrev enc (t:Term):AV:=.agg (ay t)
theorem ll (t:Term) (ts:List Term):encs (t::ts)=.int .i64 t.kind::.int .i64 t.n::.str t.name::.list 4 (encs t.args) t.args.length .none::encs ts:=by cases t;rw [encs]
theorem sW {α:Type} {c:α→List AV} {z:Nat} (hz:∀ x,(c x).length=z):∀ (l:List α) (k:Nat) {x:α},l[k]?=some x→∃ r,(l.flatMap c).drop (k * z)=c x++r
 |[],k,x,hk=>by simp at hk
 |y::l,0,x,hk=>by
  simp only [List.getElem?_cons_zero,Option.some.injEq] at hk;subst hk
  exact ⟨l.flatMap c,by simp⟩
 |y::l,k+1,x,hk=>by
  simp only [List.getElem?_cons_succ] at hk
  obtain ⟨r,hr⟩:=sW hz l k hk
  refine ⟨r,?_⟩
  rw [List.flatMap_cons,Nat.add_mul,Nat.one_mul,Nat.add_comm,← List.drop_drop,← hz y,List.drop_left,hz y]
  exact hr
theorem dh:∀ ts:List Term,encs ts=ts.flatMap ay
 |[]=>by rw [encs];rfl
 |t::ts=>by rw [ll,dh ts];rfl
theorem dD (ts:List Term) (k:Nat) {t:Term} (hk:ts[k]?=some t):∃ r,(encs ts).drop (k * 4)=.int .i64 t.kind::.int .i64 t.n::.str t.name::.list 4 (encs t.args) t.args.length .none::r:=by
 rw [dh]
 exact sW (z:=4) (fun _=>rfl) ts k hk
theorem uj {P:Program} {t E:TypeId} {z:Nat} {zv:Value} (hE:dm P t=some E) (hz:tsz P E=some z) (hv:bI P E=some zv) {v:AV} (hl:v.cells.length=z) (hf:v.cells.all AV.flat=true) (hk:v.known=true) (hs:z≤16777216) :
  bn P t 1 [(0,v)]=some (.list z v.cells 1 .full):=by
 simp only [bn,hE,hz,hv,Nat.one_mul]
 rw [if_pos hs]
 have:ik (fun i=>some (i * z,z)) (List.replicate z .any) [(0,v)]=some v.cells:=by
  simp only [ik,Nat.zero_mul,Nat.zero_add]
  rw [if_pos ⟨hk,hl,by simp⟩]
  simp only [dV,List.take_zero,List.nil_append,Option.some.injEq,hl]
  simp
 rw [this]
 simp only [hf,hl,and_self,if_true]
theorem ic (x:Term):bn Tryz.prog 25 1 [(0,.agg (ay x))]=some (.list 4 (ay x) 1 .full):=uj ed je iy rfl rfl rfl (by decide)
theorem bB:encs []=[]:=by rw [encs]
theorem NL (l:List Term) (i:Nat) {x:Term} (hx:l[i]?=some x):encs (l.take (i+1))=encs (l.take i)++ay x:=by
 rw [dh,dh,List.take_add_one,hx]
 simp
def bF (t:Term):Bool:=(t.kind==2||t.kind==3)&&(t.args.length:Int)==0
theorem Gv (t:Term) (h:ai) (Q:AOut→ai→Prop) (hq:Q (.ret (.bool (bF t))) h):az Tryz.prog 137 [enc t] h Q:=by
 refine eN Tryz.func137 ?_
 repeat refine ah fun bq hbq=>?_
 refine au (by simp only [aF,gtOf,aA];exact rfl) ?_
 simp only [go_sem,↓reduceIte]
 intro p hp
 apply rN;subst hbq
 repeat refine ah fun bq hbq=>?_
 refine au (by simp only [aF,gtOf,aA];exact rfl) ?_
 have fin:ax (upd h p (some (AObj.cells [.int .i64 t.kind,.int .i64 t.n,.str t.name,.list 4 (encs t.args) t.args.length .none] 27))) h:=ax.one hp
 cases hk:(t.kind==2) <;> cases hk3:(t.kind==3)
 all_goals
  simp only [go_sem,↓reduceIte,hk,hk3]
  apply rN;subst hbq
  refine fO (by rw [Tryz.results137]) fin ?_
  simp only [go_sem,↓reduceIte,aJ,Option.some.injEq,exists_eq_left']
  exact bJ (by simp [bF,hk,hk3]) hq
def isF (a b:Term):Bool:=a.kind==b.kind&&a.n==b.n
theorem Tz (a b:Term) (h:ai) (Q:AOut→ai→Prop) (hq:Q (.ret (.bool (isF a b))) h):az Tryz.prog 139 [enc a,enc b] h Q:=by
 refine eN Tryz.func139 ?_
 repeat refine ah fun bq hbq=>?_
 refine au (by simp only [aF,gtOf,aA];exact rfl) ?_
 simp only [go_sem,↓reduceIte]
 intro p hp q hq'
 have hne:=fq hq'
 apply rN;subst hbq
 repeat refine ah fun bq hbq=>?_
 refine au (by simp only [aF,gtOf,aA];exact rfl) ?_
 have fin:ax (upd (upd h p (some (AObj.cells (ay a) 27))) q (some (AObj.cells (ay b) 27))) h:=(ax.one hq').trans (ax.one hp)
 cases hk:(a.kind==b.kind)
 all_goals
  simp only [go_sem,↓reduceIte,hne.1,hne.1.symm,hk]
  apply rN;subst hbq
  refine fO (by rw [Tryz.results139]) fin ?_
  simp only [go_sem,↓reduceIte,aJ,Option.some.injEq,exists_eq_left']
  exact bJ (by simp [isF,hk]) hq
theorem oJ {P:Program} {h:ai} {c:Operand} {a b:Code} {K:AK} {τ:Env} (hc:aR τ c=.someBool) (h1:bE P a K τ h) (h2:bE P b K τ h):bE P (.cond c a b) K τ h:=.cond_any hc h1 h2
theorem uq:bn Tryz.prog 25 0 []=some (.list 4 [] 0 .full):=by
 simp only [bn,ed,je,iy,ik];rfl
theorem Kz (ts:List Term) (h:ai) (Q:AOut→ai→Prop) (hn:ts.length≤1000000000) (h0:ts=[]→Q (.ret (.list 4 [] 0 .full)) h) (h1:ts≠[]→∀ p,h p=Option.none→Q (.ret (.sl p 0 ts.length)) (upd h p (some (.cells (encs ts) 27)))) :
  az Tryz.prog 98 [.list 4 (encs ts) ts.length .none] h Q:=by
 refine eN Tryz.func98 ?_
 repeat refine ah fun bq hbq=>?_
 refine au (by simp only [aF,gtOf,aA];exact rfl) ?_
 simp only [go_sem,↓reduceIte]
 apply rN;subst hbq
 repeat refine ah fun bq hbq=>?_
 refine au (by simp only [aF,gtOf,aA];exact rfl) ?_
 by_cases hts:ts=[]
 ·subst hts
  simp only [go_sem,↓reduceIte]
  apply rN;subst hbq
  repeat refine ah fun bq hbq=>?_
  refine oJ (by simp only [go_sem,↓reduceIte]) ?_ ?_
  ·repeat refine ah fun bq hbq=>?_
   refine au (by simp only [aF,gtOf,aA];exact rfl) ?_
   simp only [go_sem,↓reduceIte]
   apply rN;subst hbq
   refine dw ?_
   repeat first|(refine eZ ?_;clear hbq bq)|refine fu ?_|refine dR ?_|refine dA ?_
   refine df (v:=.list 4 [] 0 .full) (by rw [Tryz.results98]) (ax.refl h) ?_ (h0 rfl)
   simp only [go_sem,↓reduceIte,aJ,Option.some.injEq,exists_eq_left']
   exact LeAV.nil_full _ _
  ·refine bM ?_
   apply rN;subst hbq
   repeat refine ah fun bq hbq=>?_
   refine au (by simp only [aF,gtOf,aA];exact rfl) ?_
   simp only [go_sem,↓reduceIte,uq]
   refine aZ ?_
   simp only [go_sem,↓reduceIte,uq]
   intro p hp
   rw [rQ ed ed je mD iy ⟨rfl,by decide⟩ (.inl rfl) (.inl rfl) (by decide)]
   apply rN;subst hbq
   refine eF (v:=.list 4 [] 0 .full) (by rw [Tryz.results98]) (ax.refl h) ?_ (h0 rfl)
   simp only [go_sem,↓reduceIte,aJ,Option.some.injEq,exists_eq_left']
   exact LeAV.refl _
 ·have hl:ts.length≠0:=by simpa using hts
  simp only [go_sem,↓reduceIte,hl]
  apply rN;subst hbq
  repeat refine ah fun bq hbq=>?_
  refine aW (t:=false) (by simp only [go_sem,↓reduceIte]) ?_ ?_
  ·intro hf;cases hf
  ·intro _
   refine bM ?_
   apply rN;subst hbq
   repeat refine ah fun bq hbq=>?_
   refine au (by simp only [aF,gtOf,aA];exact rfl) ?_
   simp only [go_sem,↓reduceIte,uq]
   refine dP ?_
   simp only [go_sem,↓reduceIte,fG,uq]
   intro p hp
   rw [oP ed ed je mD iy ⟨rfl,by decide⟩ (.inl rfl) (.inl rfl) rfl hl (by omega)]
   apply rN;subst hbq
   refine fO (by rw [Tryz.results98]) (ax.refl _) ?_
   simp only [go_sem,↓reduceIte,aJ,Option.some.injEq,exists_eq_left']
   exact h1 hts p hp
mutual
def dF:Term→Int→Int
 |⟨_,_,_,l⟩,m=>gI l m 1
def gI:List Term→Int→Int→Int
 |[],_,n=>n
 |t::ts,m,n=>if n≤m then gI ts m (n+dF t (m - n)) else n
end
mutual
def Term.size:Term→Nat
 |⟨_,_,_,l⟩=>sizes l+1
def sizes:List Term→Nat
 |[]=>0
 |t::ts=>t.size+sizes ts
end
theorem size_at:∀ (l:List Term) (k:Nat) {t:Term},l[k]?=some t→t.size≤sizes l
 |[],k,t,hk=>by simp at hk
 |y::l,0,t,hk=>by simp only [List.getElem?_cons_zero,Option.some.injEq] at hk;subst hk;rw [sizes];omega
 |y::l,k+1,t,hk=>by
  simp only [List.getElem?_cons_succ] at hk
  have:=size_at l k hk
  rw [sizes];omega
theorem fF (u:Term) (k:Nat) {t:Term} (hk:u.args[k]?=some t):t.size<u.size:=by
 have:=size_at u.args k hk
 obtain ⟨a,b,c,l⟩:=u
 rw [Term.size]
 exact Nat.lt_succ_of_le this
theorem jZ:∀ (s:Nat),(∀ (t:Term) (m:Int),t.size≤s→1≤dF t m∧dF t m≤max 1 (m+1))∧(∀ (l:List Term) (m n:Int),sizes l≤s→n≤gI l m n∧gI l m n≤max n (m+1)):=by
 intro s
 induction s with
 |zero =>
  refine ⟨fun t m ht=>?_,fun l m n hl=>?_⟩
  ·obtain ⟨a,b,c,l⟩:=t
   rw [Term.size] at ht;omega
  ·cases l with
   |nil=>rw [gI];omega
   |cons t ts=>obtain ⟨a,b,c,l⟩:=t;rw [sizes,Term.size] at hl;omega
 |succ s ih =>
  have ht:∀ (t:Term) (m:Int),t.size≤s+1→1≤dF t m∧dF t m≤max 1 (m+1):=by
   intro t m ht
   obtain ⟨a,b,c,l⟩:=t
   rw [Term.size] at ht
   rw [dF]
   exact ih.2 l m 1 (by omega)
  refine ⟨ht,fun l=>?_⟩
  induction l with
  |nil=>intro m n _;rw [gI];omega
  |cons t ts ihl =>
   intro m n hl
   rw [sizes] at hl
   rw [gI]
   split
   ·have h1:=ht t (m - n) (by omega)
    have h2:=ihl m (n+dF t (m - n)) (by omega)
    omega
   ·omega
theorem Ip:∀ (s:Nat) (t:Term) (m:Int) (h:ai) (Q:AOut→ai→Prop),t.size≤s→-1000000000≤m→m≤1000000000→Q (.ret (.int .i64 (dF t m))) h→az Tryz.prog 70 [enc t,.int .i64 m] h Q:=by
 intro s
 induction s with
 |zero=>intro t m h Q ht;obtain ⟨a,b,c,l⟩:=t;rw [Term.size] at ht;omega
 |succ s ih =>
  intro t m h Q ht hm1 hm2 hq
  refine eN Tryz.func70 ?_
  repeat refine ah fun bq hbq=>?_
  refine au (by simp only [aF,gtOf,aA];exact rfl) ?_
  simp only [go_sem,↓reduceIte]
  intro p hp
  apply rN;subst hbq
  repeat refine ah fun bq hbq=>?_
  refine au (by simp only [aF,gtOf,aA];exact rfl) ?_
  simp only [go_sem,↓reduceIte]
  apply rN;subst hbq
  repeat refine ah fun bq hbq=>?_
  refine au (by simp only [aF,gtOf,aA];exact rfl) ?_
  simp only [go_sem,↓reduceIte]
  apply rN;subst hbq
  repeat refine ah fun bq hbq=>?_
  refine bu fun cq hcq=>?_
  subst hcq
  refine aT (fun k τ h'=>∃ (i:Nat) (n:Int),k+i=t.args.length∧τ 1=.int .i64 m∧τ 2=.ptr p 0∧τ 5=.int .i64 n∧τ 6=.int .i64 i∧h'=upd h p (some (.cells (ay t) 27))∧(i:Int)+1≤n∧n≤max 1 (m+1)∧gI (t.args.drop i) m n=dF t m) t.args.length ?_ ?_
  ·refine ⟨0,1,rfl,?_⟩
   simp only [go_sem,↓reduceIte]
   refine ⟨rfl,by omega,by omega,?_⟩
   obtain ⟨a,b,c,l⟩:=t
   simp only [List.drop_zero,dF]
  ·intro c hc k τ h' hI
   obtain ⟨i,n,hk,e1,e2,e5,e6,rfl,hn1,hn2,hpart⟩:=hI
   subst hc
   repeat refine ah fun bq hbq=>?_
   refine au (by simp only [aF,gtOf,aA];exact rfl) ?_
   simp only [go_sem,↓reduceIte,e1,e2,e5,e6]
   by_cases hi:i<t.args.length
   ·have hd:decide (i<t.args.length)=true:=by simpa using hi
    obtain ⟨u,hu⟩:∃ u,t.args[i]?=some u:=⟨_,List.getElem?_eq_getElem hi⟩
    have hdrop:t.args.drop i=u::t.args.drop (i+1):=by
     rw [List.drop_eq_getElem_cons hi]
     rw [List.getElem?_eq_getElem hi] at hu;injection hu with hu;rw [hu]
    simp only [go_sem,↓reduceIte,e1,e2,e5,e6,hd]
    apply rN;subst hbq
    repeat refine ah fun bq hbq=>?_
    refine aW (t:=decide (n≤m)) (by simp only [go_sem,↓reduceIte]) ?_ ?_
    ·intro hnm
     have hnm':n≤m:=by simpa using hnm
     obtain ⟨r,hr⟩:=dD t.args i hu
     have hsz:=fF t i hu
     have hb:=(jZ u.size).1 u (m - n) (Nat.le_refl _)
     refine bM ?_
     apply rN;subst hbq
     repeat refine ah fun bq hbq=>?_
     refine bu fun cq hcq=>?_
     subst hcq
     repeat refine ah fun bq hbq=>?_
     refine au (by simp only [aF,gtOf,aA];exact rfl) ?_
     simp only [go_sem,↓reduceIte,e1,e2,e5,e6,hd,bz (m - n) (by omega),hi,hr]
     refine ih u (m - n) _ _ (by omega) (by omega) (by omega) ?_
     simp only [go_sem,↓reduceIte,e1,e2,e5,e6,bz (n+dF u (m - n)) (by omega)]
     refine bD ?_
     apply rN;subst hbq
     repeat refine ah fun bq hbq=>?_
     refine au (by simp only [aF,gtOf,aA];exact rfl) ?_
     simp only [go_sem,↓reduceIte,e6,bz ((i:Int)+1) (by omega)]
     refine aL (m:=k - 1) (by omega) ⟨i+1,n+dF u (m - n),by omega,?_⟩
     simp only [go_sem,↓reduceIte,e1,e2]
     rw [hdrop,gI,if_pos hnm'] at hpart
     exact ⟨rfl,by omega,by omega,hpart⟩
    ·intro hnm
     have hnm':¬ n≤m:=by simpa using hnm
     refine eT ?_
     repeat first|(refine dM ?_;clear hbq bq)|refine dO ?_|refine bZ ?_|refine bS ?_|refine dU rfl ?_
     apply rN;subst hbq
     repeat refine ah fun bq hbq=>?_
     refine au (by simp only [aF,gtOf,aA];exact rfl) ?_
     simp only [go_sem,↓reduceIte,e5]
     apply rN;subst hbq
     refine fO (by rw [Tryz.results70]) (ax.one hp) ?_
     simp only [go_sem,↓reduceIte,aJ,Option.some.injEq,exists_eq_left']
     rw [hdrop,gI,if_neg hnm'] at hpart
     exact bJ (by rw [hpart]) hq
   ·have hd:decide (i<t.args.length)=false:=by simpa using hi
    simp only [go_sem,↓reduceIte,e1,e2,e5,e6,hd]
    apply rN;subst hbq
    repeat refine ah fun bq hbq=>?_
    refine aW (t:=false) (by simp only [go_sem,↓reduceIte]) ?_ ?_
    ·intro hf;cases hf
    ·intro _
     refine eT ?_
     repeat first|(refine dM ?_;clear hbq bq)|refine dO ?_|refine bZ ?_|refine bS ?_|refine dU rfl ?_
     apply rN;subst hbq
     repeat refine ah fun bq hbq=>?_
     refine au (by simp only [aF,gtOf,aA];exact rfl) ?_
     simp only [go_sem,↓reduceIte,e5]
     apply rN;subst hbq
     refine fO (by rw [Tryz.results70]) (ax.one hp) ?_
     simp only [go_sem,↓reduceIte,aJ,Option.some.injEq,exists_eq_left']
     rw [List.drop_eq_nil_of_le (by omega),gI] at hpart
     exact bJ (by rw [hpart]) hq
theorem F6:∀ (s:Nat) (t:Term) (m:Int) (h:ai) (Q:AOut→ai→Prop),t.size≤s→-1000000000≤m→m≤1000000000→Q (.ret (.int .i64 (dF t m))) h→az Tryz.prog 86 [enc t,.int .i64 m] h Q:=by
 intro s
 induction s with
 |zero=>intro t m h Q ht;obtain ⟨a,b,c,l⟩:=t;rw [Term.size] at ht;omega
 |succ s ih =>
  intro t m h Q ht hm1 hm2 hq
  refine eN Tryz.func86 ?_
  repeat with_reducible refine ah fun bq hbq=>?_
  refine au (by simp only [aF,gtOf,aA];exact rfl) ?_
  simp only [go_sem,↓reduceIte]
  intro p hp
  apply rN;subst hbq
  repeat with_reducible refine ah fun bq hbq=>?_
  refine au (by simp only [aF,gtOf,aA];exact rfl) ?_
  simp only [go_sem,↓reduceIte]
  apply rN;subst hbq
  repeat with_reducible refine ah fun bq hbq=>?_
  refine au (by simp only [aF,gtOf,aA];exact rfl) ?_
  simp only [go_sem,↓reduceIte]
  apply rN;subst hbq
  repeat with_reducible refine ah fun bq hbq=>?_
  refine bu fun cq hcq=>?_
  subst hcq
  refine aT (fun k τ h'=>∃ (i:Nat) (n:Int),k+i=t.args.length∧τ 1=.int .i64 m∧τ 2=.ptr p 0∧τ 5=.int .i64 n∧τ 6=.int .i64 i∧h'=upd h p (some (.cells (ay t) 27))∧(i:Int)+1≤n∧n≤max 1 (m+1)∧gI (t.args.drop i) m n=dF t m) t.args.length ?_ ?_
  ·refine ⟨0,1,rfl,?_⟩
   simp only [go_sem,↓reduceIte]
   refine ⟨rfl,by omega,by omega,?_⟩
   obtain ⟨a,b,c,l⟩:=t
   simp only [List.drop_zero,dF]
  ·intro c hc k τ h' hI
   obtain ⟨i,n,hk,e1,e2,e5,e6,rfl,hn1,hn2,hpart⟩:=hI
   subst hc
   repeat with_reducible refine ah fun bq hbq=>?_
   refine au (by simp only [aF,gtOf,aA];exact rfl) ?_
   simp only [go_sem,↓reduceIte,e1,e2,e5,e6]
   by_cases hi:i<t.args.length
   ·have hd:decide (i<t.args.length)=true:=by simpa using hi
    obtain ⟨u,hu⟩:∃ u,t.args[i]?=some u:=⟨_,List.getElem?_eq_getElem hi⟩
    have hdrop:t.args.drop i=u::t.args.drop (i+1):=by
     rw [List.drop_eq_getElem_cons hi]
     rw [List.getElem?_eq_getElem hi] at hu;injection hu with hu;rw [hu]
    simp only [go_sem,↓reduceIte,e1,e2,e5,e6,hd]
    apply rN;subst hbq
    repeat with_reducible refine ah fun bq hbq=>?_
    refine aW (t:=decide (n≤m)) (by simp only [go_sem,↓reduceIte]) ?_ ?_
    ·intro hnm
     have hnm':n≤m:=by simpa using hnm
     obtain ⟨r,hr⟩:=dD t.args i hu
     have hsz:=fF t i hu
     have hb:=(jZ u.size).1 u (m - n) (Nat.le_refl _)
     refine bM ?_
     apply rN;subst hbq
     repeat with_reducible refine ah fun bq hbq=>?_
     refine bu fun cq hcq=>?_
     subst hcq
     repeat with_reducible refine ah fun bq hbq=>?_
     refine au (by simp only [aF,gtOf,aA];exact rfl) ?_
     simp only [go_sem,↓reduceIte,e1,e2,e5,e6,hd,bz (m - n) (by omega),hi,hr]
     refine ih u (m - n) _ _ (by omega) (by omega) (by omega) ?_
     simp only [go_sem,↓reduceIte,e1,e2,e5,e6,bz (n+dF u (m - n)) (by omega)]
     refine bD ?_
     apply rN;subst hbq
     repeat with_reducible refine ah fun bq hbq=>?_
     refine au (by simp only [aF,gtOf,aA];exact rfl) ?_
     simp only [go_sem,↓reduceIte,e6,bz ((i:Int)+1) (by omega)]
     refine aL (m:=k - 1) (by omega) ⟨i+1,n+dF u (m - n),by omega,?_⟩
     simp only [go_sem,↓reduceIte,e1,e2]
     rw [hdrop,gI,if_pos hnm'] at hpart
     exact ⟨rfl,by omega,by omega,hpart⟩
    ·intro hnm
     have hnm':¬ n≤m:=by simpa using hnm
     refine eT ?_
     repeat first|(with_reducible refine dM ?_;clear hbq bq)|with_reducible refine dO ?_|with_reducible refine bZ ?_|with_reducible refine bS ?_|(with_reducible refine dU ?_ ?_;focus rfl)
     apply rN;subst hbq
     repeat with_reducible refine ah fun bq hbq=>?_
     refine au (by simp only [aF,gtOf,aA];exact rfl) ?_
     simp only [go_sem,↓reduceIte,e5]
     apply rN;subst hbq
     refine fO (by rw [Tryz.results86]) (ax.one hp) ?_
     simp only [go_sem,↓reduceIte,aJ,Option.some.injEq,exists_eq_left']
     rw [hdrop,gI,if_neg hnm'] at hpart
     exact bJ (by rw [hpart]) hq
   ·have hd:decide (i<t.args.length)=false:=by simpa using hi
    simp only [go_sem,↓reduceIte,e1,e2,e5,e6,hd]
    apply rN;subst hbq
    repeat with_reducible refine ah fun bq hbq=>?_
    refine aW (t:=false) (by simp only [go_sem,↓reduceIte]) ?_ ?_
    ·intro hf;cases hf
    ·intro _
     refine eT ?_
     repeat first|(with_reducible refine dM ?_;clear hbq bq)|with_reducible refine dO ?_|with_reducible refine bZ ?_|with_reducible refine bS ?_|(with_reducible refine dU ?_ ?_;focus rfl)
     apply rN;subst hbq
     repeat with_reducible refine ah fun bq hbq=>?_
     refine au (by simp only [aF,gtOf,aA];exact rfl) ?_
     simp only [go_sem,↓reduceIte,e5]
     apply rN;subst hbq
     refine fO (by rw [Tryz.results86]) (ax.one hp) ?_
     simp only [go_sem,↓reduceIte,aJ,Option.some.injEq,exists_eq_left']
     rw [List.drop_eq_nil_of_le (by omega),gI] at hpart
     exact bJ (by rw [hpart]) hq
def wD (x y:Int):Int:=if y>x then y else x
mutual
def dS:Term→Int→Int
 |⟨_,_,_,l⟩,m=>iI l m 0+1
def iI:List Term→Int→Int→Int
 |[],_,n=>n
 |t::ts,m,n=>if m>0 then iI ts m (wD n (dS t (m - 1))) else n
end
theorem Ep:∀ l:List Term,l.length≤sizes l:=by
 intro l
 induction l with
 |nil=>exact Nat.zero_le _
 |cons x l ih=>obtain ⟨a,b,c,m⟩:=x;rw [sizes,Term.size,List.length_cons];omega
theorem jG (t:Term):t.args.length<t.size:=by
 obtain ⟨a,b,c,l⟩:=t
 rw [Term.size]
 exact Nat.lt_succ_of_le (Ep l)
theorem Eo:∀ (s:Nat),(∀ (t:Term) (m:Int),t.size≤s→1≤dS t m∧dS t m≤t.size)∧(∀ (l:List Term) (m n:Int),sizes l≤s→n≤iI l m n∧iI l m n≤max n (sizes l)):=by
 intro s
 induction s with
 |zero =>
  refine ⟨fun t m ht=>?_,fun l m n hl=>?_⟩
  ·obtain ⟨a,b,c,l⟩:=t
   rw [Term.size] at ht;omega
  ·cases l with
   |nil=>rw [iI];omega
   |cons t ts=>obtain ⟨a,b,c,l⟩:=t;rw [sizes,Term.size] at hl;omega
 |succ s ih =>
  have ht:∀ (t:Term) (m:Int),t.size≤s+1→1≤dS t m∧dS t m≤t.size:=by
   intro t m ht
   obtain ⟨a,b,c,l⟩:=t
   rw [Term.size] at ht ⊢
   rw [dS]
   have:=ih.2 l m 0 (by omega)
   omega
  refine ⟨ht,fun l=>?_⟩
  induction l with
  |nil=>intro m n _;rw [iI];omega
  |cons t ts ihl =>
   intro m n hl
   rw [sizes] at hl ⊢
   rw [iI]
   split
   ·have h1:=ht t (m - 1) (by omega)
    have h2:=ihl m (wD n (dS t (m - 1))) (by omega)
    have h3:n≤wD n (dS t (m - 1))∧wD n (dS t (m - 1))≤max n (dS t (m - 1)):=by unfold wD;split <;> omega
    omega
   ·omega
theorem M5:∀ (s:Nat) (t:Term) (m:Int) (h:ai) (Q:AOut→ai→Prop),t.size≤s→t.size≤1000000000→-1000000000≤m - t.size→m≤1000000000→Q (.ret (.int .i64 (dS t m))) h→az Tryz.prog 124 [enc t,.int .i64 m] h Q:=by
 intro s
 induction s with
 |zero=>intro t m h Q ht;obtain ⟨a,b,c,l⟩:=t;rw [Term.size] at ht;omega
 |succ s ih =>
  intro t m h Q ht htb hm1 hm2 hq
  have hlen:=jG t
  refine eN Tryz.func124 ?_
  repeat with_reducible refine ah fun bq hbq=>?_
  refine au (by simp only [aF,gtOf,aA];exact rfl) ?_
  simp only [go_sem,↓reduceIte]
  intro p hp
  apply rN;subst hbq
  repeat with_reducible refine ah fun bq hbq=>?_
  refine au (by simp only [aF,gtOf,aA];exact rfl) ?_
  simp only [go_sem,↓reduceIte]
  apply rN;subst hbq
  repeat with_reducible refine ah fun bq hbq=>?_
  refine au (by simp only [aF,gtOf,aA];exact rfl) ?_
  simp only [go_sem,↓reduceIte]
  apply rN;subst hbq
  repeat with_reducible refine ah fun bq hbq=>?_
  refine bu fun cq hcq=>?_
  subst hcq
  refine aT (fun k τ h'=>∃ (i:Nat) (n:Int),k+i=t.args.length∧τ 1=.int .i64 m∧τ 2=.ptr p 0∧τ 5=.int .i64 n∧τ 6=.int .i64 i∧h'=upd h p (some (.cells (ay t) 27))∧0≤n∧n≤1000000000∧iI (t.args.drop i) m n+1=dS t m) t.args.length ?_ ?_
  ·refine ⟨0,0,rfl,?_⟩
   simp only [go_sem,↓reduceIte]
   refine ⟨rfl,by omega,by omega,?_⟩
   obtain ⟨a,b,c,l⟩:=t
   simp only [List.drop_zero,dS]
  ·intro c hc k τ h' hI
   obtain ⟨i,n,hk,e1,e2,e5,e6,rfl,hn1,hn2,hpart⟩:=hI
   subst hc
   repeat with_reducible refine ah fun bq hbq=>?_
   refine au (by simp only [aF,gtOf,aA];exact rfl) ?_
   simp only [go_sem,↓reduceIte,e1,e2,e5,e6]
   by_cases hi:i<t.args.length
   ·have hd:decide (i<t.args.length)=true:=by simpa using hi
    obtain ⟨u,hu⟩:∃ u,t.args[i]?=some u:=⟨_,List.getElem?_eq_getElem hi⟩
    have hdrop:t.args.drop i=u::t.args.drop (i+1):=by
     rw [List.drop_eq_getElem_cons hi]
     rw [List.getElem?_eq_getElem hi] at hu;injection hu with hu;rw [hu]
    simp only [go_sem,↓reduceIte,e1,e2,e5,e6,hd]
    apply rN;subst hbq
    repeat with_reducible refine ah fun bq hbq=>?_
    refine aW (t:=decide (m>0)) (by simp only [go_sem,↓reduceIte]) ?_ ?_
    ·intro hnm
     have hnm':m>0:=by simpa using hnm
     obtain ⟨r,hr⟩:=dD t.args i hu
     have hsz:=fF t i hu
     have hb:=(Eo u.size).1 u (m - 1) (Nat.le_refl _)
     have hg:wD n (dS u (m - 1))=(if dS u (m - 1)>n then dS u (m - 1) else n):=rfl
     have hg2:0≤wD n (dS u (m - 1))∧wD n (dS u (m - 1))≤1000000000:=by unfold wD;split <;> omega
     refine bM ?_
     apply rN;subst hbq
     repeat with_reducible refine ah fun bq hbq=>?_
     refine bu fun cq hcq=>?_
     subst hcq
     repeat with_reducible refine ah fun bq hbq=>?_
     refine au (by simp only [aF,gtOf,aA];exact rfl) ?_
     simp only [go_sem,↓reduceIte,e1,e2,e5,e6,hd,bz (m - 1) (by omega),hi,hr]
     refine ih u (m - 1) _ _ (by omega) (by omega) (by omega) (by omega) ?_
     simp only [go_sem,↓reduceIte,e1,e2,e5,e6,← hg]
     refine bD ?_
     apply rN;subst hbq
     repeat with_reducible refine ah fun bq hbq=>?_
     refine au (by simp only [aF,gtOf,aA];exact rfl) ?_
     simp only [go_sem,↓reduceIte,e6,bz ((i:Int)+1) (by omega)]
     refine aL (m:=k - 1) (by omega) ⟨i+1,wD n (dS u (m - 1)),by omega,?_⟩
     simp only [go_sem,↓reduceIte,e1,e2]
     rw [hdrop,iI,if_pos hnm'] at hpart
     exact ⟨rfl,hg2.1,hg2.2,hpart⟩
    ·intro hnm
     have hnm':¬ m>0:=by simpa using hnm
     rw [hdrop,iI,if_neg hnm'] at hpart
     refine eT ?_
     repeat first|(with_reducible refine dM ?_;clear hbq bq)|with_reducible refine dO ?_|with_reducible refine bZ ?_|with_reducible refine bS ?_|(with_reducible refine dU ?_ ?_;focus rfl)
     apply rN;subst hbq
     repeat with_reducible refine ah fun bq hbq=>?_
     refine au (by simp only [aF,gtOf,aA];exact rfl) ?_
     simp only [go_sem,↓reduceIte,e5,bz (n+1) (by omega)]
     apply rN;subst hbq
     refine fO (by rw [Tryz.results124]) (ax.one hp) ?_
     simp only [go_sem,↓reduceIte,aJ,Option.some.injEq,exists_eq_left']
     exact bJ (by rw [hpart]) hq
   ·have hd:decide (i<t.args.length)=false:=by simpa using hi
    rw [List.drop_eq_nil_of_le (by omega),iI] at hpart
    simp only [go_sem,↓reduceIte,e1,e2,e5,e6,hd]
    apply rN;subst hbq
    repeat with_reducible refine ah fun bq hbq=>?_
    refine aW (t:=false) (by simp only [go_sem,↓reduceIte]) ?_ ?_
    ·intro hf;cases hf
    ·intro _
     refine eT ?_
     repeat first|(with_reducible refine dM ?_;clear hbq bq)|with_reducible refine dO ?_|with_reducible refine bZ ?_|with_reducible refine bS ?_|(with_reducible refine dU ?_ ?_;focus rfl)
     apply rN;subst hbq
     repeat with_reducible refine ah fun bq hbq=>?_
     refine au (by simp only [aF,gtOf,aA];exact rfl) ?_
     simp only [go_sem,↓reduceIte,e5,bz (n+1) (by omega)]
     apply rN;subst hbq
     refine fO (by rw [Tryz.results124]) (ax.one hp) ?_
     simp only [go_sem,↓reduceIte,aJ,Option.some.injEq,exists_eq_left']
     exact bJ (by rw [hpart]) hq
def il (t:Term):Int:=if dF t 4000>4000 then 2 else if dS t 100>100 then 5 else 0
theorem qU:∀ (s:Nat),(∀ (t:Term) (m:Int),t.size≤s→dF t m≤m→dF t m=t.size)∧(∀ (l:List Term) (m n:Int),sizes l≤s→gI l m n≤m→gI l m n=n+sizes l):=by
 intro s
 induction s with
 |zero =>
  refine ⟨fun t m ht=>?_,fun l m n hl=>?_⟩
  ·obtain ⟨a,b,c,l⟩:=t
   rw [Term.size] at ht;omega
  ·cases l with
   |nil=>intro _;rw [gI,sizes];omega
   |cons t ts=>obtain ⟨a,b,c,l⟩:=t;rw [sizes,Term.size] at hl;omega
 |succ s ih =>
  have ht:∀ (t:Term) (m:Int),t.size≤s+1→dF t m≤m→dF t m=t.size:=by
   intro t m ht hm
   obtain ⟨a,b,c,l⟩:=t
   rw [Term.size] at ht ⊢
   rw [dF] at hm ⊢
   have:=ih.2 l m 1 (by omega) hm
   omega
  refine ⟨ht,fun l=>?_⟩
  induction l with
  |nil=>intro m n _ _;rw [gI,sizes];omega
  |cons t ts ihl =>
   intro m n hl hm
   rw [sizes] at hl ⊢
   have h0:=(jZ (sizes (t::ts))).2 (t::ts) m n (Nat.le_refl _)
   have hnm:n≤m:=by omega
   rw [gI,if_pos hnm] at hm ⊢
   have h1:=(jZ (sizes ts)).2 ts m (n+dF t (m - n)) (Nat.le_refl _)
   have h2:=ht t (m - n) (by omega) (by omega)
   have h3:=ihl m (n+dF t (m - n)) (by omega) hm
   omega
theorem nE (t:Term) (h:¬ dF t 4000>4000):t.size≤4000:=by
 have:=(qU t.size).1 t 4000 (Nat.le_refl _) (by omega)
 omega
theorem BG (t:Term) (h:ai) (Q:AOut→ai→Prop) (hq:Q (.ret (.int .i64 (il t))) h):az Tryz.prog 78 [enc t] h Q:=by
 refine eN Tryz.func78 ?_
 repeat with_reducible refine ah fun bq hbq=>?_
 refine au (by simp only [aF,gtOf,aA];exact rfl) ?_
 simp only [go_sem,↓reduceIte]
 intro p hp
 apply rN;subst hbq
 repeat with_reducible refine ah fun bq hbq=>?_
 repeat with_reducible refine ah fun bq hbq=>?_
 refine bu fun cq hcq=>?_
 subst hcq
 repeat with_reducible refine ah fun bq hbq=>?_
 refine au (by simp only [aF,gtOf,aA];exact rfl) ?_
 simp only [go_sem,↓reduceIte]
 refine Ip t.size t 4000 _ _ (Nat.le_refl _) (by decide) (by decide) ?_
 simp only [go_sem,↓reduceIte]
 apply rN;subst hbq
 repeat with_reducible refine ah fun bq hbq=>?_
 refine aW (t:=decide (dF t 4000>4000)) (by simp only [go_sem,↓reduceIte]) ?_ ?_
 ·intro hc
  have hc':dF t 4000>4000:=by simpa using hc
  repeat with_reducible refine ah fun bq hbq=>?_
  refine au (by simp only [aF,gtOf,aA];exact rfl) ?_
  simp only [go_sem,↓reduceIte]
  apply rN;subst hbq
  refine dw ?_
  repeat first|(with_reducible refine eZ ?_;clear hbq bq)|with_reducible refine fu ?_|with_reducible refine dR ?_|with_reducible refine dA ?_
  refine gH (by rw [Tryz.results78]) (ax.one hp) ?_
  simp only [go_sem,↓reduceIte,aJ,Option.some.injEq,exists_eq_left']
  exact bJ (by simp [il,hc']) hq
 ·intro hc
  have hc':¬ dF t 4000>4000:=by simpa using hc
  have hsz:=nE t hc'
  repeat with_reducible refine ah fun bq hbq=>?_
  refine au (by simp only [aF,gtOf,aA];exact rfl) ?_
  simp only [go_sem,↓reduceIte]
  refine M5 t.size t 100 _ _ (Nat.le_refl _) (by omega) (by omega) (by decide) ?_
  simp only [go_sem,↓reduceIte]
  apply rN;subst hbq
  repeat with_reducible refine ah fun bq hbq=>?_
  refine aW (t:=decide (dS t 100>100)) (by simp only [go_sem,↓reduceIte]) ?_ ?_
  ·intro hc2
   have hc2':dS t 100>100:=by simpa using hc2
   repeat with_reducible refine ah fun bq hbq=>?_
   refine au (by simp only [aF,gtOf,aA];exact rfl) ?_
   simp only [go_sem,↓reduceIte]
   apply rN;subst hbq
   refine dw ?_
   repeat first|(with_reducible refine eZ ?_;clear hbq bq)|with_reducible refine fu ?_|with_reducible refine dR ?_|with_reducible refine dA ?_
   refine gH (by rw [Tryz.results78]) (ax.one hp) ?_
   simp only [go_sem,↓reduceIte,aJ,Option.some.injEq,exists_eq_left']
   exact bJ (by simp [il,hc',hc2']) hq
  ·intro hc2
   have hc2':¬ dS t 100>100:=by simpa using hc2
   refine bM ?_
   refine bD ?_
   apply rN;subst hbq
   repeat with_reducible refine ah fun bq hbq=>?_
   refine au (by simp only [aF,gtOf,aA];exact rfl) ?_
   simp only [go_sem,↓reduceIte]
   apply rN;subst hbq
   refine fO (by rw [Tryz.results78]) (ax.one hp) ?_
   simp only [go_sem,↓reduceIte,aJ,Option.some.injEq,exists_eq_left']
   exact bJ (by simp [il,hc',hc2']) hq
def fewF (t:Term):Bool:=decide (dF t 4000≤60)||decide (dF t 4000>4000)
theorem Ny (t:Term) (h:ai) (Q:AOut→ai→Prop) (hq:Q (.ret (.bool (fewF t))) h):az Tryz.prog 56 [enc t] h Q:=by
 refine eN Tryz.func56 ?_
 repeat with_reducible refine ah fun bq hbq=>?_
 refine au (by simp only [aF,gtOf,aA];exact rfl) ?_
 simp only [go_sem,↓reduceIte]
 intro p hp
 apply rN;subst hbq
 repeat with_reducible refine ah fun bq hbq=>?_
 refine au (by simp only [aF,gtOf,aA];exact rfl) ?_
 simp only [go_sem,↓reduceIte]
 refine F6 t.size t 4000 _ _ (Nat.le_refl _) (by decide) (by decide) ?_
 simp only [go_sem,↓reduceIte]
 apply rN;subst hbq
 repeat with_reducible refine ah fun bq hbq=>?_
 refine au (by simp only [aF,gtOf,aA];exact rfl) ?_
 simp only [go_sem,↓reduceIte]
 cases hc:decide (dF t 4000≤60)
 all_goals
  simp only [go_sem,↓reduceIte,hc]
  apply rN;subst hbq
  refine fO (by rw [Tryz.results56]) (ax.one hp) ?_
  simp only [go_sem,↓reduceIte,aJ,Option.some.injEq,exists_eq_left']
  exact bJ (by simp [fewF,hc]) hq
def Asks {α:Type} (P:Program) (enc:α→AV) (g:FuncId) (first cap:List AV) (l:List α) (f:α→Bool) (h:ai):Prop :=
 ∀ (i:Nat) (u:α),l[i]?=some u→(∀ (j:Nat) (v:α),j<i→l[j]?=some v→f v=false)→∀ (h':ai) (Q:AOut→ai→Prop),ax h' h→Q (.ret (.bool (f u))) h'→az P g (first++[enc u]++cap) h' Q
def mM {α:Type} (f:α→Bool):List α→Int→Int
 |[],_=>-1
 |u::l,i=>if f u then i else mM f l (i+1)
theorem Ez (l:List Term) (g:FuncId) (first cap:List AV) (f:Term→Bool) (h:ai) (Q:AOut→ai→Prop) (hl:l.length≤1000000000) (hf:Asks Tryz.prog enc g first cap l f h) (hq:Q (.ret (.int .i64 (mM f l 0))) h) :
  az Tryz.prog 153 [.list 4 (encs l) l.length .none,.func (.func g) first cap] h Q:=by
 refine eN Tryz.func153 ?_
 repeat with_reducible refine ah fun bq hbq=>?_
 refine au (by simp only [aF,gtOf,aA];exact rfl) ?_
 simp only [go_sem,↓reduceIte]
 apply rN;subst hbq
 repeat with_reducible refine ah fun bq hbq=>?_
 refine au (by simp only [aF,gtOf,aA];exact rfl) ?_
 simp only [go_sem,↓reduceIte]
 apply rN;subst hbq
 repeat with_reducible refine ah fun bq hbq=>?_
 repeat with_reducible refine ah fun bq hbq=>?_
 refine bu fun cq hcq=>?_
 subst hcq
 refine aT (fun k τ h'=>∃ i:Nat,k+i=l.length∧τ 0=.list 4 (encs l) l.length .none∧τ 1=.func (.func g) first cap∧τ 7=.int .i64 l.length∧τ 8=.int .i64 i∧ax h' h∧(∀ (j:Nat) (v:Term),j<i→l[j]?=some v→f v=false)∧mM f (l.drop i) i=mM f l 0) l.length ?_ ?_
 ·exact ⟨0,rfl,rfl,rfl,rfl,rfl,ax.refl h,fun j v hj=>absurd hj (Nat.not_lt_zero _),rfl⟩
 ·intro c hc k τ h' hI
  obtain ⟨i,hk,e0,e1,e7,e8,hless,hno,hix⟩:=hI
  subst hc
  repeat with_reducible refine ah fun bq hbq=>?_
  refine au (by simp only [aF,gtOf,aA];exact rfl) ?_
  by_cases hi:i<l.length
  ·have hd:decide (i<l.length)=true:=by simpa using hi
   obtain ⟨u,hu⟩:∃ u,l[i]?=some u:=⟨_,List.getElem?_eq_getElem hi⟩
   obtain ⟨r,hr⟩:=dD l i hu
   have hdrop:l.drop i=u::l.drop (i+1):=by
    rw [List.drop_eq_getElem_cons hi]
    rw [List.getElem?_eq_getElem hi] at hu;injection hu with hu;rw [hu]
   rw [hdrop,mM] at hix
   simp only [go_sem,↓reduceIte,e7,e8,hd]
   apply rN;subst hbq
   repeat with_reducible refine ah fun bq hbq=>?_
   refine aW (t:=true) (by simp only [go_sem,↓reduceIte]) ?_ ?_
   ·intro _
    refine bM ?_
    apply rN;subst hbq
    repeat with_reducible refine ah fun bq hbq=>?_
    refine bu fun cq hcq=>?_
    subst hcq
    repeat with_reducible refine ah fun bq hbq=>?_
    refine au (by simp only [aF,gtOf,aA];exact rfl) ?_
    simp only [go_sem,↓reduceIte,e8]
    apply rN;subst hbq
    repeat with_reducible refine ah fun bq hbq=>?_
    refine au (by simp only [aF,gtOf,aA];exact rfl) ?_
    simp only [go_sem,↓reduceIte,e0,e1,hi,hr]
    refine hf i u hu hno _ _ hless ?_
    simp only [go_sem,↓reduceIte]
    apply rN;subst hbq
    repeat with_reducible refine ah fun bq hbq=>?_
    refine aW (t:=f u) (by simp only [go_sem,↓reduceIte]) ?_ ?_
    ·intro hfu
     rw [if_pos hfu] at hix
     repeat with_reducible refine ah fun bq hbq=>?_
     refine au (by simp only [aF,gtOf,aA];exact rfl) ?_
     simp only [go_sem,↓reduceIte]
     apply rN;subst hbq
     refine dw ?_
     repeat first|(with_reducible refine eZ ?_;clear hbq bq)|with_reducible refine fu ?_|with_reducible refine dR ?_|with_reducible refine dA ?_
     rw [← hix] at hq
     refine df (h':=h) (by rw [Tryz.results153]) hless ?_ hq
     simp only [go_sem,↓reduceIte,aJ,Option.some.injEq,exists_eq_left']
     exact LeAV.refl _
    ·intro hfu
     rw [if_neg (by rw [hfu];decide)] at hix
     refine bM ?_
     refine bD ?_
     apply rN;subst hbq
     repeat with_reducible refine ah fun bq hbq=>?_
     refine au (by simp only [aF,gtOf,aA];exact rfl) ?_
     simp only [go_sem,↓reduceIte,e8,bz ((i:Int)+1) (by omega)]
     refine aL (m:=k - 1) (by omega) ⟨i+1,by omega,?_⟩
     simp only [go_sem,↓reduceIte,e0,e1,e7]
     refine ⟨rfl,hless,fun j v hj hv=>?_,hix⟩
     by_cases e:j=i
     ·subst e;rw [hu] at hv;injection hv with hv;subst hv;exact hfu
     ·exact hno j v (by omega) hv
   ·intro hf;cases hf
  ·have hd:decide (i<l.length)=false:=by simpa using hi
   rw [List.drop_eq_nil_of_le (by omega),mM] at hix
   simp only [go_sem,↓reduceIte,e7,e8,hd]
   apply rN;subst hbq
   repeat with_reducible refine ah fun bq hbq=>?_
   refine aW (t:=false) (by simp only [go_sem,↓reduceIte]) ?_ ?_
   ·intro hf;cases hf
   ·intro _
    refine eT ?_
    repeat first|(with_reducible refine dM ?_;clear hbq bq)|with_reducible refine dO ?_|with_reducible refine bZ ?_|with_reducible refine bS ?_|(with_reducible refine dU ?_ ?_;focus rfl)
    apply rN;subst hbq
    repeat with_reducible refine ah fun bq hbq=>?_
    refine au (by simp only [aF,gtOf,aA];exact rfl) ?_
    simp only [go_sem,↓reduceIte]
    apply rN;subst hbq
    rw [← hix] at hq
    refine eF (h':=h) (by rw [Tryz.results153]) hless ?_ hq
    simp only [go_sem,↓reduceIte,aJ,Option.some.injEq,exists_eq_left']
    exact LeAV.refl _
theorem vE {α:Type} (f:α→Bool):∀ (l:List α) (i:Int),0≤i→decide (mM f l i≥0)=l.any f
 |[],i,_=>rfl
 |u::l,i,hi=>by
  rw [mM,List.any_cons]
  cases hf:f u
  ·simp only [Bool.false_eq_true,if_false,Bool.false_or];exact vE f l (i+1) (by omega)
  ·simp only [if_true,Bool.true_or];simpa using hi
theorem lm (l:List Term) (g:FuncId) (first cap:List AV) (f:Term→Bool) (h:ai) (Q:AOut→ai→Prop) (hl:l.length≤1000000000) (hf:Asks Tryz.prog enc g first cap l f h) (hq:Q (.ret (.bool (l.any f))) h) :
  az Tryz.prog 121 [.list 4 (encs l) l.length .none,.func (.func g) first cap] h Q:=by
 refine eN Tryz.func121 ?_
 repeat with_reducible refine ah fun bq hbq=>?_
 refine au (by simp only [aF,gtOf,aA];exact rfl) ?_
 simp only [go_sem,↓reduceIte]
 apply rN;subst hbq
 repeat with_reducible refine ah fun bq hbq=>?_
 refine au (by simp only [aF,gtOf,aA];exact rfl) ?_
 simp only [go_sem,↓reduceIte]
 refine Ez l g first cap f h _ hl hf ?_
 simp only [go_sem,↓reduceIte]
 apply rN;subst hbq
 refine fO (by rw [Tryz.results121]) (ax.refl h) ?_
 simp only [go_sem,↓reduceIte,aJ,Option.some.injEq,exists_eq_left']
 exact bJ (by rw [← vE f l 0 (by decide)]) hq
theorem JJ (a b:Term) (h:ai) (r:Nat) (hr:h r=some (.cells (ay a) 27)) (Q:AOut→ai→Prop) (hq:Q (.ret (.bool (isF a b))) h):az Tryz.prog 154 [enc b,.ptr r 0] h Q:=by
 refine eN Tryz.func154 ?_
 repeat with_reducible refine ah fun bq hbq=>?_
 refine au (by simp only [aF,gtOf,aA];exact rfl) ?_
 simp only [go_sem,↓reduceIte]
 intro p hp
 have hne:=aj hp hr
 apply rN;subst hbq
 repeat with_reducible refine ah fun bq hbq=>?_
 refine au (by simp only [aF,gtOf,aA];exact rfl) ?_
 simp only [go_sem,↓reduceIte,hne,hr]
 refine Tz a b _ _ ?_
 simp only [go_sem,↓reduceIte]
 apply rN;subst hbq
 refine fO (by rw [Tryz.results154]) (ax.one hp) ?_
 simp only [go_sem,↓reduceIte,aJ,Option.some.injEq,exists_eq_left']
 exact hq
end Go.Proofs.YthkjmiejaoomcaaGreat.Am
