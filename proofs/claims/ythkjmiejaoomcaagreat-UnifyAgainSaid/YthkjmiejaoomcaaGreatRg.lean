/- Part of the proof of a law of layer 5: own texts, joined. -/
import Derived.Test.YthkjmiejaoomcaaGreatRb
set_option linter.unusedVariables false
set_option linter.unusedSimpArgs false
set_option linter.unnecessarySimpa false
namespace Go.Proofs.YthkjmiejaoomcaaGreat.Am
open Go Go.RowKit Go.Proofs
set_option linter.unusedVariables false
set_option linter.unusedSimpArgs false
set_option maxRecDepth 100000
set_option maxHeartbeats 1000000
attribute [local go_sem] cSeq cDr cOne zEf zD8 panK zEt zCe panC zLj cOp zA8 zKj aop zAv zFb List.getD_cons_zero List.getD_cons_succ AV.known AV.cells if_true if_false cond_true cond_false aPut true_and and_true ofConst ofLeaf zGj zFk zFe zEk btt btf
 zEo zGd zLn zKl aBin aInt zI6 aStr unSl aLen zC5 Option.map_some Option.map_none upd_same zKe Nat.reduceBEq List.drop_zero List.drop_succ_cons List.drop_nil List.take_succ_cons List.take_zero List.head?_cons List.length_cons List.length_nil Nat.reduceAdd Nat.reduceLeDiff Nat.reduceEqDiff List.map_cons List.map_nil Nat.zero_add Nat.add_zero reduceCtorEq Bool.false_eq_true
 zD4 zNm true_implies false_implies implies_true forall_const and_self Bool.not_true Bool.not_false Bool.cond_self zOf zEp aNil zLo aMax aMin aNot List.getElem?_cons_zero List.getElem?_cons_succ zEn zEq zBv AV.flat List.all_cons List.all_nil Bool.and_true Bool.true_and Bool.and_false Bool.false_and Int.natCast_nonneg Int.ofNat_lt Int.toNat_natCast zXd Nat.le_add_left List.append_nil List.contains_cons List.contains_nil Bool.or_true Bool.or_false Bool.true_or Bool.false_or Nat.reduceBEq List.cons_append List.nil_append
 sz_1 by_1 ag_1 tk_1 ze_1 sz_3 by_3 ag_3 tk_3 ze_3 sz_4 by_4 ag_4 tk_4 ze_4 sz_9 by_9 ag_9 tk_9 ze_9
 z07 z3c z4e z0o zZ2 z06 z3b z4d z0n zKg zZ1 z05 z3a z4c z0m zUr zKd zUt z04 z2z
 z4b zXw zCj zZ0 zD2 zFl z4a z0l zDm zKc zKb zKa zJ9 zQc z03 z2y z3z z0k zZz z02
 z2x z3y z0j zZy zJ8 zJ7 zJ6 zJ5 z1n z01 z2w z3x zXv zI1 zZx z00 z2v z3w z0i zZw
 zJ4 zJ3 zJ2 z1m z0z z2u z3v z0h zZv zJ1 zJ0 zJz zJy z1l zL9 zT5 z3u z0g zKv zJx
 zJw zV5 zMz zT4 z3t z0f zKu zIl zJv zJu zJt zXy z0y z2t z3s z0e zZu zJs zJr z1k
 z0x z2s z3r z0d zHf zZt z0w z2r z3q z0c zKf zZs z0v z2q z3p z0b zZr z0u z2p z3o
 z0a zZq zJq zJp z1j z0t z2o z3n zZ9 zZp z0s z2n z3m zZ8 zZo z0r z2m z3l zZ7 zQm
 zZn zP3 zR2 zS4 zO9 zMj zHe zHd zHc zMs zP2 zR1 zS3 zO8 zOa zP1 zR0 zS2 zO7 zN9
 zHb zHa zG9 zQi zP0 zRz zS1 zO6 zN8 zPz zRy zS0 zO5 zN7 zPy zRx zSz zO4 zQ6 zN6
 zPx zRw zSy zO3 zN5 zG8 zG7 zG6 zG5 zQh zPw zRv zSx zO2 zN4 zG4 zG3 zQg zPv zRu
 zSw zO1 zN3 zPu zRt zSv zO0 zN2 zPt zRs zSu zOz zKq zN1 zPs zRr zSt zOy zMi zG2
 zG1 zG0 zGz zMr zPr zRq zSs zOx zQ5 zN0 zPq zRp zSr zOw zQn zNz zPp zRo zSq zOv
 zNy zGy zGx zQf zPo zRn zSp zOu zNx zPn zRm zSo zOt zQ4 zNw zPm zRl zSn zOs zNv
 zGw zGv zGu zGt zQe zPl zRk zSm zOr zMh zMq zPk zRj zSl zOq zMg zGs zMp zPj zRi
 zSk zOp zNu zPi zRh zSj zOo zNt zGr zGq zGp zQd zPh zRg zSi zOn zIw zNs zPg zRf
 zSh zOm zNr zPf zRe zSg zOl zMf zGo zGn zGm zMo zPe zRd zSf zOk zKo zGl zGk zMn
 zPd zRc zSe zOj zQ3 zNq zPc zRb zSd zOi zNp zPb zRa zSc zOh zNo
structure Term where
 kind:Int
 n:Int
 name:ByteArray
 args:List Term
def encs:List Term→List AV
 |[]=>[]
 |⟨k,n,s,l⟩::ts=>.int .i64 k::.int .i64 n::.str s::.list 4 (encs l) l.length .none::encs ts
abbrev zAj (t:Term):List AV:=[.int .i64 t.kind,.int .i64 t.n,.str t.name,.list 4 (encs t.args) t.args.length .none]
abbrev enc (t:Term):AV:=.agg (zAj t)
theorem zH3 (t:Term) (ts:List Term):encs (t::ts)=.int .i64 t.kind::.int .i64 t.n::.str t.name::.list 4 (encs t.args) t.args.length .none::encs ts:=by cases t;rw [encs]
theorem zQr {α:Type} {c:α→List AV} {z:Nat} (hz:∀ x,(c x).length=z):∀ (l:List α) (k:Nat) {x:α},l[k]?=some x→∃ r,(l.flatMap c).drop (k * z)=c x++r
 |[],k,x,hk=>by simp at hk
 |y::l,0,x,hk=>by
  simp only [List.getElem?_cons_zero,Option.some.injEq] at hk;subst hk
  exact ⟨l.flatMap c,by simp⟩
 |y::l,k+1,x,hk=>by
  simp only [List.getElem?_cons_succ] at hk
  obtain ⟨r,hr⟩:=zQr hz l k hk
  refine ⟨r,?_⟩
  rw [List.flatMap_cons,Nat.add_mul,Nat.one_mul,Nat.add_comm,← List.drop_drop,← hz y,List.drop_left,hz y]
  exact hr
theorem zBt:∀ ts:List Term,encs ts=ts.flatMap zAj
 |[]=>by rw [encs];rfl
 |t::ts=>by rw [zH3,zBt ts];rfl
theorem zB7 (ts:List Term) (k:Nat) {t:Term} (hk:ts[k]?=some t):∃ r,(encs ts).drop (k * 4)=.int .i64 t.kind::.int .i64 t.n::.str t.name::.list 4 (encs t.args) t.args.length .none::r:=by
 rw [zBt]
 exact zQr (z:=4) (fun _=>rfl) ts k hk
theorem zR4 {P:Program} {t E:TypeId} {z:Nat} {zv:Value} (hE:zCa P t=some E) (hz:tsz P E=some z) (hv:zBl P E=some zv) {v:AV} (hl:v.cells.length=z) (hf:v.cells.all AV.flat=true) (hk:v.known=true) (hs:z≤16777216) :
  zBa P t 1 [(0,v)]=some (.list z v.cells 1 .full):=by
 simp only [zBa,hE,hz,hv,Nat.one_mul]
 rw [if_pos hs]
 have:zEu (fun i=>some (i * z,z)) (List.replicate z .any) [(0,v)]=some v.cells:=by
  simp only [zEu,Nat.zero_mul,Nat.zero_add]
  rw [if_pos ⟨hk,hl,by simp⟩]
  simp only [zBv,List.take_zero,List.nil_append,Option.some.injEq,hl]
  simp
 rw [this]
 simp only [hf,hl,and_self,if_true]
theorem zCz (x:Term):zBa Tryz.prog 25 1 [(0,.agg (zAj x))]=some (.list 4 (zAj x) 1 .full):=zR4 zCj zD2 zDm rfl rfl rfl (by decide)
theorem zBg:encs []=[]:=by rw [encs]
theorem yG3 (l:List Term) (i:Nat) {x:Term} (hx:l[i]?=some x):encs (l.take (i+1))=encs (l.take i)++zAj x:=by
 rw [zBt,zBt,List.take_add_one,hx]
 simp
def zBm (t:Term):Bool:=(t.kind==2||t.kind==3)&&(t.args.length:Int)==0
theorem z9j (t:Term) (h:zAc) (Q:AOut→zAc→Prop) (hq:Q (.ret (.bool (zBm t))) h):zAg Tryz.prog 137 [enc t] h Q:=by
 refine zAg.of_sem (fn:=Tryz.f137) Tryz.func137 rfl (by kernel_rfl) (by rw [Tryz.ntmps137];simp) (enters_of Tryz.func137 (by kernel_rfl) (by kernel_rfl)) ?_
 repeat refine zAb fun bq hbq=>?_
 refine zAf (by simp only [zAl,gtOf,zAk];exact rfl) ?_
 simp only [go_sem,↓reduceIte]
 intro p hp
 refine zAe ?_;subst hbq
 repeat refine zAb fun bq hbq=>?_
 refine zAf (by simp only [zAl,gtOf,zAk];exact rfl) ?_
 have fin:zAh (upd h p (some (AObj.cells [.int .i64 t.kind,.int .i64 t.n,.str t.name,.list 4 (encs t.args) t.args.length .none] 27))) h:=zAh.one hp
 cases hk:(t.kind==2) <;> cases hk3:(t.kind==3)
 all_goals
  simp only [go_sem,↓reduceIte,hk,hk3]
  refine zAe ?_;subst hbq
  refine zDr (by rw [Tryz.results137]) fin ?_
  simp only [go_sem,↓reduceIte,zAo,Option.some.injEq,exists_eq_left']
  exact zBk (by simp [zBm,hk,hk3]) hq
def isF (a b:Term):Bool:=a.kind==b.kind&&a.n==b.n
theorem yMt (a b:Term) (h:zAc) (Q:AOut→zAc→Prop) (hq:Q (.ret (.bool (isF a b))) h):zAg Tryz.prog 139 [enc a,enc b] h Q:=by
 refine zAg.of_sem (fn:=Tryz.f139) Tryz.func139 rfl (by kernel_rfl) (by rw [Tryz.ntmps139];simp) (enters_of Tryz.func139 (by kernel_rfl) (by kernel_rfl)) ?_
 repeat refine zAb fun bq hbq=>?_
 refine zAf (by simp only [zAl,gtOf,zAk];exact rfl) ?_
 simp only [go_sem,↓reduceIte]
 intro p hp q hq'
 have hne:=zDa hq'
 refine zAe ?_;subst hbq
 repeat refine zAb fun bq hbq=>?_
 refine zAf (by simp only [zAl,gtOf,zAk];exact rfl) ?_
 have fin:zAh (upd (upd h p (some (AObj.cells (zAj a) 27))) q (some (AObj.cells (zAj b) 27))) h:=(zAh.one hq').trans (zAh.one hp)
 cases hk:(a.kind==b.kind)
 all_goals
  simp only [go_sem,↓reduceIte,hne.1,hne.1.symm,hk]
  refine zAe ?_;subst hbq
  refine zDr (by rw [Tryz.results139]) fin ?_
  simp only [go_sem,↓reduceIte,zAo,Option.some.injEq,exists_eq_left']
  exact zBk (by simp [isF,hk]) hq
theorem zK3 {P:Program} {h:zAc} {c:Operand} {a b:Code} {K:AK} {τ:Env} (hc:zAv τ c=.someBool) (h1:zBh P a K τ h) (h2:zBh P b K τ h):zBh P (.cond c a b) K τ h:=.cond_any hc h1 h2
theorem zR6:zBa Tryz.prog 25 0 []=some (.list 4 [] 0 .full):=by
 simp only [zBa,zCj,zD2,zDm,zEu];rfl
theorem yDp (ts:List Term) (h:zAc) (Q:AOut→zAc→Prop) (hn:ts.length≤1000000000) (h0:ts=[]→Q (.ret (.list 4 [] 0 .full)) h) (h1:ts≠[]→∀ p,h p=Option.none→Q (.ret (.sl p 0 ts.length)) (upd h p (some (.cells (encs ts) 27)))) :
  zAg Tryz.prog 98 [.list 4 (encs ts) ts.length .none] h Q:=by
 refine zAg.of_sem (fn:=Tryz.f98) Tryz.func98 rfl (by kernel_rfl) (by rw [Tryz.ntmps98];simp) (enters_of Tryz.func98 (by kernel_rfl) (by kernel_rfl)) ?_
 repeat refine zAb fun bq hbq=>?_
 refine zAf (by simp only [zAl,gtOf,zAk];exact rfl) ?_
 simp only [go_sem,↓reduceIte]
 refine zAe ?_;subst hbq
 repeat refine zAb fun bq hbq=>?_
 refine zAf (by simp only [zAl,gtOf,zAk];exact rfl) ?_
 by_cases hts:ts=[]
 ·subst hts
  simp only [go_sem,↓reduceIte]
  refine zAe ?_;subst hbq
  repeat refine zAb fun bq hbq=>?_
  refine zK3 (by simp only [go_sem,↓reduceIte]) ?_ ?_
  ·repeat refine zAb fun bq hbq=>?_
   refine zAf (by simp only [zAl,gtOf,zAk];exact rfl) ?_
   simp only [go_sem,↓reduceIte]
   refine zAe ?_;subst hbq
   refine zB3 ?_
   repeat first|(refine zC8 ?_;clear hbq bq)|refine zDb ?_|refine zCr ?_|refine zB6 ?_
   refine zB2 (v:=.list 4 [] 0 .full) (by rw [Tryz.results98]) (zAh.refl h) ?_ (h0 rfl)
   simp only [go_sem,↓reduceIte,zAo,Option.some.injEq,exists_eq_left']
   exact LeAV.nil_full _ _
  ·refine zBn ?_
   refine zAe ?_;subst hbq
   repeat refine zAb fun bq hbq=>?_
   refine zAf (by simp only [zAl,gtOf,zAk];exact rfl) ?_
   simp only [go_sem,↓reduceIte,zR6]
   refine zAz ?_
   simp only [go_sem,↓reduceIte,zR6]
   intro p hp
   rw [zNl zCj zCj zD2 zFl zDm ⟨rfl,by decide⟩ (.inl rfl) (.inl rfl) (by decide)]
   refine zAe ?_;subst hbq
   refine zCx (v:=.list 4 [] 0 .full) (by rw [Tryz.results98]) (zAh.refl h) ?_ (h0 rfl)
   simp only [go_sem,↓reduceIte,zAo,Option.some.injEq,exists_eq_left']
   exact LeAV.refl _
 ·have hl:ts.length≠0:=by simpa using hts
  simp only [go_sem,↓reduceIte,hl]
  refine zAe ?_;subst hbq
  repeat refine zAb fun bq hbq=>?_
  refine zAy (t:=false) (by simp only [go_sem,↓reduceIte]) ?_ ?_
  ·intro hf;cases hf
  ·intro _
   refine zBn ?_
   refine zAe ?_;subst hbq
   repeat refine zAb fun bq hbq=>?_
   refine zAf (by simp only [zAl,gtOf,zAk];exact rfl) ?_
   simp only [go_sem,↓reduceIte,zR6]
   refine zCm ?_
   simp only [go_sem,↓reduceIte,zDh,zR6]
   intro p hp
   rw [zK7 zCj zCj zD2 zFl zDm ⟨rfl,by decide⟩ (.inl rfl) (.inl rfl) rfl hl (by omega)]
   refine zAe ?_;subst hbq
   refine zDr (by rw [Tryz.results98]) (zAh.refl _) ?_
   simp only [go_sem,↓reduceIte,zAo,Option.some.injEq,exists_eq_left']
   exact h1 hts p hp
mutual
def zB9:Term→Int→Int
 |⟨_,_,_,l⟩,m=>zD7 l m 1
def zD7:List Term→Int→Int→Int
 |[],_,n=>n
 |t::ts,m,n=>if n≤m then zD7 ts m (n+zB9 t (m - n)) else n
end
mutual
def Term.size:Term→Nat
 |⟨_,_,_,l⟩=>sizes l+1
def sizes:List Term→Nat
 |[]=>0
 |t::ts=>t.size+sizes ts
end
theorem size_at:∀ (l:List Term) (k:Nat) {t:Term},l[k]?=some t→t.size≤sizes l
 |[],k,t,hk=>by simp at hk
 |y::l,0,t,hk=>by simp only [List.getElem?_cons_zero,Option.some.injEq] at hk;subst hk;rw [sizes];omega
 |y::l,k+1,t,hk=>by
  simp only [List.getElem?_cons_succ] at hk
  have:=size_at l k hk
  rw [sizes];omega
theorem zDp (u:Term) (k:Nat) {t:Term} (hk:u.args[k]?=some t):t.size<u.size:=by
 have:=size_at u.args k hk
 obtain ⟨a,b,c,l⟩:=u
 rw [Term.size]
 exact Nat.lt_succ_of_le this
theorem zF5:∀ (s:Nat),(∀ (t:Term) (m:Int),t.size≤s→1≤zB9 t m∧zB9 t m≤max 1 (m+1))∧(∀ (l:List Term) (m n:Int),sizes l≤s→n≤zD7 l m n∧zD7 l m n≤max n (m+1)):=by
 intro s
 induction s with
 |zero =>
  refine ⟨fun t m ht=>?_,fun l m n hl=>?_⟩
  ·obtain ⟨a,b,c,l⟩:=t
   rw [Term.size] at ht;omega
  ·cases l with
   |nil=>rw [zD7];omega
   |cons t ts=>obtain ⟨a,b,c,l⟩:=t;rw [sizes,Term.size] at hl;omega
 |succ s ih =>
  have ht:∀ (t:Term) (m:Int),t.size≤s+1→1≤zB9 t m∧zB9 t m≤max 1 (m+1):=by
   intro t m ht
   obtain ⟨a,b,c,l⟩:=t
   rw [Term.size] at ht
   rw [zB9]
   exact ih.2 l m 1 (by omega)
  refine ⟨ht,fun l=>?_⟩
  induction l with
  |nil=>intro m n _;rw [zD7];omega
  |cons t ts ihl =>
   intro m n hl
   rw [sizes] at hl
   rw [zD7]
   split
   ·have h1:=ht t (m - n) (by omega)
    have h2:=ihl m (n+zB9 t (m - n)) (by omega)
    omega
   ·omega
theorem yA4:∀ (s:Nat) (t:Term) (m:Int) (h:zAc) (Q:AOut→zAc→Prop),t.size≤s→-1000000000≤m→m≤1000000000→Q (.ret (.int .i64 (zB9 t m))) h→zAg Tryz.prog 70 [enc t,.int .i64 m] h Q:=by
 intro s
 induction s with
 |zero=>intro t m h Q ht;obtain ⟨a,b,c,l⟩:=t;rw [Term.size] at ht;omega
 |succ s ih =>
  intro t m h Q ht hm1 hm2 hq
  refine zAg.of_sem (fn:=Tryz.f70) Tryz.func70 rfl (by kernel_rfl) (by rw [Tryz.ntmps70];simp) (enters_of Tryz.func70 (by kernel_rfl) (by kernel_rfl)) ?_
  repeat refine zAb fun bq hbq=>?_
  refine zAf (by simp only [zAl,gtOf,zAk];exact rfl) ?_
  simp only [go_sem,↓reduceIte]
  intro p hp
  refine zAe ?_;subst hbq
  repeat refine zAb fun bq hbq=>?_
  refine zAf (by simp only [zAl,gtOf,zAk];exact rfl) ?_
  simp only [go_sem,↓reduceIte]
  refine zAe ?_;subst hbq
  repeat refine zAb fun bq hbq=>?_
  refine zAf (by simp only [zAl,gtOf,zAk];exact rfl) ?_
  simp only [go_sem,↓reduceIte]
  refine zAe ?_;subst hbq
  repeat refine zAb fun bq hbq=>?_
  refine zA3 fun cq hcq=>?_
  subst hcq
  refine zAx (fun k τ h'=>∃ (i:Nat) (n:Int),k+i=t.args.length∧τ 1=.int .i64 m∧τ 2=.ptr p 0∧τ 5=.int .i64 n∧τ 6=.int .i64 i∧h'=upd h p (some (.cells (zAj t) 27))∧(i:Int)+1≤n∧n≤max 1 (m+1)∧zD7 (t.args.drop i) m n=zB9 t m) t.args.length ?_ ?_
  ·refine ⟨0,1,rfl,?_⟩
   simp only [go_sem,↓reduceIte]
   refine ⟨rfl,by omega,by omega,?_⟩
   obtain ⟨a,b,c,l⟩:=t
   simp only [List.drop_zero,zB9]
  ·intro c hc k τ h' hI
   obtain ⟨i,n,hk,e1,e2,e5,e6,rfl,hn1,hn2,hpart⟩:=hI
   subst hc
   repeat refine zAb fun bq hbq=>?_
   refine zAf (by simp only [zAl,gtOf,zAk];exact rfl) ?_
   simp only [go_sem,↓reduceIte,e1,e2,e5,e6]
   by_cases hi:i<t.args.length
   ·have hd:decide (i<t.args.length)=true:=by simpa using hi
    obtain ⟨u,hu⟩:∃ u,t.args[i]?=some u:=⟨_,List.getElem?_eq_getElem hi⟩
    have hdrop:t.args.drop i=u::t.args.drop (i+1):=by
     rw [List.drop_eq_getElem_cons hi]
     rw [List.getElem?_eq_getElem hi] at hu;injection hu with hu;rw [hu]
    simp only [go_sem,↓reduceIte,e1,e2,e5,e6,hd]
    refine zAe ?_;subst hbq
    repeat refine zAb fun bq hbq=>?_
    refine zAy (t:=decide (n≤m)) (by simp only [go_sem,↓reduceIte]) ?_ ?_
    ·intro hnm
     have hnm':n≤m:=by simpa using hnm
     obtain ⟨r,hr⟩:=zB7 t.args i hu
     have hsz:=zDp t i hu
     have hb:=(zF5 u.size).1 u (m - n) (Nat.le_refl _)
     refine zBn ?_
     refine zAe ?_;subst hbq
     repeat refine zAb fun bq hbq=>?_
     refine zA3 fun cq hcq=>?_
     subst hcq
     repeat refine zAb fun bq hbq=>?_
     refine zAf (by simp only [zAl,gtOf,zAk];exact rfl) ?_
     simp only [go_sem,↓reduceIte,e1,e2,e5,e6,hd,zA6 (m - n) (by omega),hi,hr]
     refine ih u (m - n) _ _ (by omega) (by omega) (by omega) ?_
     simp only [go_sem,↓reduceIte,e1,e2,e5,e6,zA6 (n+zB9 u (m - n)) (by omega)]
     refine zBf ?_
     refine zAe ?_;subst hbq
     repeat refine zAb fun bq hbq=>?_
     refine zAf (by simp only [zAl,gtOf,zAk];exact rfl) ?_
     simp only [go_sem,↓reduceIte,e6,zA6 ((i:Int)+1) (by omega)]
     refine zAp (m:=k - 1) (by omega) ⟨i+1,n+zB9 u (m - n),by omega,?_⟩
     simp only [go_sem,↓reduceIte,e1,e2]
     rw [hdrop,zD7,if_pos hnm'] at hpart
     exact ⟨rfl,by omega,by omega,hpart⟩
    ·intro hnm
     have hnm':¬ n≤m:=by simpa using hnm
     refine zC3 ?_
     repeat first|(refine zCi ?_;clear hbq bq)|refine zCk ?_|refine zBx ?_|refine zBq ?_|refine zCs rfl ?_
     refine zAe ?_;subst hbq
     repeat refine zAb fun bq hbq=>?_
     refine zAf (by simp only [zAl,gtOf,zAk];exact rfl) ?_
     simp only [go_sem,↓reduceIte,e5]
     refine zAe ?_;subst hbq
     refine zDr (by rw [Tryz.results70]) (zAh.one hp) ?_
     simp only [go_sem,↓reduceIte,zAo,Option.some.injEq,exists_eq_left']
     rw [hdrop,zD7,if_neg hnm'] at hpart
     exact zBk (by rw [hpart]) hq
   ·have hd:decide (i<t.args.length)=false:=by simpa using hi
    simp only [go_sem,↓reduceIte,e1,e2,e5,e6,hd]
    refine zAe ?_;subst hbq
    repeat refine zAb fun bq hbq=>?_
    refine zAy (t:=false) (by simp only [go_sem,↓reduceIte]) ?_ ?_
    ·intro hf;cases hf
    ·intro _
     refine zC3 ?_
     repeat first|(refine zCi ?_;clear hbq bq)|refine zCk ?_|refine zBx ?_|refine zBq ?_|refine zCs rfl ?_
     refine zAe ?_;subst hbq
     repeat refine zAb fun bq hbq=>?_
     refine zAf (by simp only [zAl,gtOf,zAk];exact rfl) ?_
     simp only [go_sem,↓reduceIte,e5]
     refine zAe ?_;subst hbq
     refine zDr (by rw [Tryz.results70]) (zAh.one hp) ?_
     simp only [go_sem,↓reduceIte,zAo,Option.some.injEq,exists_eq_left']
     rw [List.drop_eq_nil_of_le (by omega),zD7] at hpart
     exact zBk (by rw [hpart]) hq
theorem z8t:∀ (s:Nat) (t:Term) (m:Int) (h:zAc) (Q:AOut→zAc→Prop),t.size≤s→-1000000000≤m→m≤1000000000→Q (.ret (.int .i64 (zB9 t m))) h→zAg Tryz.prog 86 [enc t,.int .i64 m] h Q:=by
 intro s
 induction s with
 |zero=>intro t m h Q ht;obtain ⟨a,b,c,l⟩:=t;rw [Term.size] at ht;omega
 |succ s ih =>
  intro t m h Q ht hm1 hm2 hq
  refine zAg.of_sem (fn:=Tryz.f86) Tryz.func86 rfl (by kernel_rfl) (by rw [Tryz.ntmps86];simp) (enters_of Tryz.func86 (by kernel_rfl) (by kernel_rfl)) ?_
  repeat with_reducible refine zAb fun bq hbq=>?_
  refine zAf (by simp only [zAl,gtOf,zAk];exact rfl) ?_
  simp only [go_sem,↓reduceIte]
  intro p hp
  refine zAe ?_;subst hbq
  repeat with_reducible refine zAb fun bq hbq=>?_
  refine zAf (by simp only [zAl,gtOf,zAk];exact rfl) ?_
  simp only [go_sem,↓reduceIte]
  refine zAe ?_;subst hbq
  repeat with_reducible refine zAb fun bq hbq=>?_
  refine zAf (by simp only [zAl,gtOf,zAk];exact rfl) ?_
  simp only [go_sem,↓reduceIte]
  refine zAe ?_;subst hbq
  repeat with_reducible refine zAb fun bq hbq=>?_
  refine zA3 fun cq hcq=>?_
  subst hcq
  refine zAx (fun k τ h'=>∃ (i:Nat) (n:Int),k+i=t.args.length∧τ 1=.int .i64 m∧τ 2=.ptr p 0∧τ 5=.int .i64 n∧τ 6=.int .i64 i∧h'=upd h p (some (.cells (zAj t) 27))∧(i:Int)+1≤n∧n≤max 1 (m+1)∧zD7 (t.args.drop i) m n=zB9 t m) t.args.length ?_ ?_
  ·refine ⟨0,1,rfl,?_⟩
   simp only [go_sem,↓reduceIte]
   refine ⟨rfl,by omega,by omega,?_⟩
   obtain ⟨a,b,c,l⟩:=t
   simp only [List.drop_zero,zB9]
  ·intro c hc k τ h' hI
   obtain ⟨i,n,hk,e1,e2,e5,e6,rfl,hn1,hn2,hpart⟩:=hI
   subst hc
   repeat with_reducible refine zAb fun bq hbq=>?_
   refine zAf (by simp only [zAl,gtOf,zAk];exact rfl) ?_
   simp only [go_sem,↓reduceIte,e1,e2,e5,e6]
   by_cases hi:i<t.args.length
   ·have hd:decide (i<t.args.length)=true:=by simpa using hi
    obtain ⟨u,hu⟩:∃ u,t.args[i]?=some u:=⟨_,List.getElem?_eq_getElem hi⟩
    have hdrop:t.args.drop i=u::t.args.drop (i+1):=by
     rw [List.drop_eq_getElem_cons hi]
     rw [List.getElem?_eq_getElem hi] at hu;injection hu with hu;rw [hu]
    simp only [go_sem,↓reduceIte,e1,e2,e5,e6,hd]
    refine zAe ?_;subst hbq
    repeat with_reducible refine zAb fun bq hbq=>?_
    refine zAy (t:=decide (n≤m)) (by simp only [go_sem,↓reduceIte]) ?_ ?_
    ·intro hnm
     have hnm':n≤m:=by simpa using hnm
     obtain ⟨r,hr⟩:=zB7 t.args i hu
     have hsz:=zDp t i hu
     have hb:=(zF5 u.size).1 u (m - n) (Nat.le_refl _)
     refine zBn ?_
     refine zAe ?_;subst hbq
     repeat with_reducible refine zAb fun bq hbq=>?_
     refine zA3 fun cq hcq=>?_
     subst hcq
     repeat with_reducible refine zAb fun bq hbq=>?_
     refine zAf (by simp only [zAl,gtOf,zAk];exact rfl) ?_
     simp only [go_sem,↓reduceIte,e1,e2,e5,e6,hd,zA6 (m - n) (by omega),hi,hr]
     refine ih u (m - n) _ _ (by omega) (by omega) (by omega) ?_
     simp only [go_sem,↓reduceIte,e1,e2,e5,e6,zA6 (n+zB9 u (m - n)) (by omega)]
     refine zBf ?_
     refine zAe ?_;subst hbq
     repeat with_reducible refine zAb fun bq hbq=>?_
     refine zAf (by simp only [zAl,gtOf,zAk];exact rfl) ?_
     simp only [go_sem,↓reduceIte,e6,zA6 ((i:Int)+1) (by omega)]
     refine zAp (m:=k - 1) (by omega) ⟨i+1,n+zB9 u (m - n),by omega,?_⟩
     simp only [go_sem,↓reduceIte,e1,e2]
     rw [hdrop,zD7,if_pos hnm'] at hpart
     exact ⟨rfl,by omega,by omega,hpart⟩
    ·intro hnm
     have hnm':¬ n≤m:=by simpa using hnm
     refine zC3 ?_
     repeat first|(with_reducible refine zCi ?_;clear hbq bq)|with_reducible refine zCk ?_|with_reducible refine zBx ?_|with_reducible refine zBq ?_|(with_reducible refine zCs ?_ ?_;focus rfl)
     refine zAe ?_;subst hbq
     repeat with_reducible refine zAb fun bq hbq=>?_
     refine zAf (by simp only [zAl,gtOf,zAk];exact rfl) ?_
     simp only [go_sem,↓reduceIte,e5]
     refine zAe ?_;subst hbq
     refine zDr (by rw [Tryz.results86]) (zAh.one hp) ?_
     simp only [go_sem,↓reduceIte,zAo,Option.some.injEq,exists_eq_left']
     rw [hdrop,zD7,if_neg hnm'] at hpart
     exact zBk (by rw [hpart]) hq
   ·have hd:decide (i<t.args.length)=false:=by simpa using hi
    simp only [go_sem,↓reduceIte,e1,e2,e5,e6,hd]
    refine zAe ?_;subst hbq
    repeat with_reducible refine zAb fun bq hbq=>?_
    refine zAy (t:=false) (by simp only [go_sem,↓reduceIte]) ?_ ?_
    ·intro hf;cases hf
    ·intro _
     refine zC3 ?_
     repeat first|(with_reducible refine zCi ?_;clear hbq bq)|with_reducible refine zCk ?_|with_reducible refine zBx ?_|with_reducible refine zBq ?_|(with_reducible refine zCs ?_ ?_;focus rfl)
     refine zAe ?_;subst hbq
     repeat with_reducible refine zAb fun bq hbq=>?_
     refine zAf (by simp only [zAl,gtOf,zAk];exact rfl) ?_
     simp only [go_sem,↓reduceIte,e5]
     refine zAe ?_;subst hbq
     refine zDr (by rw [Tryz.results86]) (zAh.one hp) ?_
     simp only [go_sem,↓reduceIte,zAo,Option.some.injEq,exists_eq_left']
     rw [List.drop_eq_nil_of_le (by omega),zD7] at hpart
     exact zBk (by rw [hpart]) hq
def zX5 (x y:Int):Int:=if y>x then y else x
mutual
def zC0:Term→Int→Int
 |⟨_,_,_,l⟩,m=>zHu l m 0+1
def zHu:List Term→Int→Int→Int
 |[],_,n=>n
 |t::ts,m,n=>if m>0 then zHu ts m (zX5 n (zC0 t (m - 1))) else n
end
theorem z6b:∀ l:List Term,l.length≤sizes l:=by
 intro l
 induction l with
 |nil=>exact Nat.zero_le _
 |cons x l ih=>obtain ⟨a,b,c,m⟩:=x;rw [sizes,Term.size,List.length_cons];omega
theorem zFt (t:Term):t.args.length<t.size:=by
 obtain ⟨a,b,c,l⟩:=t
 rw [Term.size]
 exact Nat.lt_succ_of_le (z6b l)
theorem z6a:∀ (s:Nat),(∀ (t:Term) (m:Int),t.size≤s→1≤zC0 t m∧zC0 t m≤t.size)∧(∀ (l:List Term) (m n:Int),sizes l≤s→n≤zHu l m n∧zHu l m n≤max n (sizes l)):=by
 intro s
 induction s with
 |zero =>
  refine ⟨fun t m ht=>?_,fun l m n hl=>?_⟩
  ·obtain ⟨a,b,c,l⟩:=t
   rw [Term.size] at ht;omega
  ·cases l with
   |nil=>rw [zHu];omega
   |cons t ts=>obtain ⟨a,b,c,l⟩:=t;rw [sizes,Term.size] at hl;omega
 |succ s ih =>
  have ht:∀ (t:Term) (m:Int),t.size≤s+1→1≤zC0 t m∧zC0 t m≤t.size:=by
   intro t m ht
   obtain ⟨a,b,c,l⟩:=t
   rw [Term.size] at ht ⊢
   rw [zC0]
   have:=ih.2 l m 0 (by omega)
   omega
  refine ⟨ht,fun l=>?_⟩
  induction l with
  |nil=>intro m n _;rw [zHu];omega
  |cons t ts ihl =>
   intro m n hl
   rw [sizes] at hl ⊢
   rw [zHu]
   split
   ·have h1:=ht t (m - 1) (by omega)
    have h2:=ihl m (zX5 n (zC0 t (m - 1))) (by omega)
    have h3:n≤zX5 n (zC0 t (m - 1))∧zX5 n (zC0 t (m - 1))≤max n (zC0 t (m - 1)):=by unfold zX5;split <;> omega
    omega
   ·omega
theorem yGb:∀ (s:Nat) (t:Term) (m:Int) (h:zAc) (Q:AOut→zAc→Prop),t.size≤s→t.size≤1000000000→-1000000000≤m - t.size→m≤1000000000→Q (.ret (.int .i64 (zC0 t m))) h→zAg Tryz.prog 124 [enc t,.int .i64 m] h Q:=by
 intro s
 induction s with
 |zero=>intro t m h Q ht;obtain ⟨a,b,c,l⟩:=t;rw [Term.size] at ht;omega
 |succ s ih =>
  intro t m h Q ht htb hm1 hm2 hq
  have hlen:=zFt t
  refine zAg.of_sem (fn:=Tryz.f124) Tryz.func124 rfl (by kernel_rfl) (by rw [Tryz.ntmps124];simp) (enters_of Tryz.func124 (by kernel_rfl) (by kernel_rfl)) ?_
  repeat with_reducible refine zAb fun bq hbq=>?_
  refine zAf (by simp only [zAl,gtOf,zAk];exact rfl) ?_
  simp only [go_sem,↓reduceIte]
  intro p hp
  refine zAe ?_;subst hbq
  repeat with_reducible refine zAb fun bq hbq=>?_
  refine zAf (by simp only [zAl,gtOf,zAk];exact rfl) ?_
  simp only [go_sem,↓reduceIte]
  refine zAe ?_;subst hbq
  repeat with_reducible refine zAb fun bq hbq=>?_
  refine zAf (by simp only [zAl,gtOf,zAk];exact rfl) ?_
  simp only [go_sem,↓reduceIte]
  refine zAe ?_;subst hbq
  repeat with_reducible refine zAb fun bq hbq=>?_
  refine zA3 fun cq hcq=>?_
  subst hcq
  refine zAx (fun k τ h'=>∃ (i:Nat) (n:Int),k+i=t.args.length∧τ 1=.int .i64 m∧τ 2=.ptr p 0∧τ 5=.int .i64 n∧τ 6=.int .i64 i∧h'=upd h p (some (.cells (zAj t) 27))∧0≤n∧n≤1000000000∧zHu (t.args.drop i) m n+1=zC0 t m) t.args.length ?_ ?_
  ·refine ⟨0,0,rfl,?_⟩
   simp only [go_sem,↓reduceIte]
   refine ⟨rfl,by omega,by omega,?_⟩
   obtain ⟨a,b,c,l⟩:=t
   simp only [List.drop_zero,zC0]
  ·intro c hc k τ h' hI
   obtain ⟨i,n,hk,e1,e2,e5,e6,rfl,hn1,hn2,hpart⟩:=hI
   subst hc
   repeat with_reducible refine zAb fun bq hbq=>?_
   refine zAf (by simp only [zAl,gtOf,zAk];exact rfl) ?_
   simp only [go_sem,↓reduceIte,e1,e2,e5,e6]
   by_cases hi:i<t.args.length
   ·have hd:decide (i<t.args.length)=true:=by simpa using hi
    obtain ⟨u,hu⟩:∃ u,t.args[i]?=some u:=⟨_,List.getElem?_eq_getElem hi⟩
    have hdrop:t.args.drop i=u::t.args.drop (i+1):=by
     rw [List.drop_eq_getElem_cons hi]
     rw [List.getElem?_eq_getElem hi] at hu;injection hu with hu;rw [hu]
    simp only [go_sem,↓reduceIte,e1,e2,e5,e6,hd]
    refine zAe ?_;subst hbq
    repeat with_reducible refine zAb fun bq hbq=>?_
    refine zAy (t:=decide (m>0)) (by simp only [go_sem,↓reduceIte]) ?_ ?_
    ·intro hnm
     have hnm':m>0:=by simpa using hnm
     obtain ⟨r,hr⟩:=zB7 t.args i hu
     have hsz:=zDp t i hu
     have hb:=(z6a u.size).1 u (m - 1) (Nat.le_refl _)
     have hg:zX5 n (zC0 u (m - 1))=(if zC0 u (m - 1)>n then zC0 u (m - 1) else n):=rfl
     have hg2:0≤zX5 n (zC0 u (m - 1))∧zX5 n (zC0 u (m - 1))≤1000000000:=by unfold zX5;split <;> omega
     refine zBn ?_
     refine zAe ?_;subst hbq
     repeat with_reducible refine zAb fun bq hbq=>?_
     refine zA3 fun cq hcq=>?_
     subst hcq
     repeat with_reducible refine zAb fun bq hbq=>?_
     refine zAf (by simp only [zAl,gtOf,zAk];exact rfl) ?_
     simp only [go_sem,↓reduceIte,e1,e2,e5,e6,hd,zA6 (m - 1) (by omega),hi,hr]
     refine ih u (m - 1) _ _ (by omega) (by omega) (by omega) (by omega) ?_
     simp only [go_sem,↓reduceIte,e1,e2,e5,e6,← hg]
     refine zBf ?_
     refine zAe ?_;subst hbq
     repeat with_reducible refine zAb fun bq hbq=>?_
     refine zAf (by simp only [zAl,gtOf,zAk];exact rfl) ?_
     simp only [go_sem,↓reduceIte,e6,zA6 ((i:Int)+1) (by omega)]
     refine zAp (m:=k - 1) (by omega) ⟨i+1,zX5 n (zC0 u (m - 1)),by omega,?_⟩
     simp only [go_sem,↓reduceIte,e1,e2]
     rw [hdrop,zHu,if_pos hnm'] at hpart
     exact ⟨rfl,hg2.1,hg2.2,hpart⟩
    ·intro hnm
     have hnm':¬ m>0:=by simpa using hnm
     rw [hdrop,zHu,if_neg hnm'] at hpart
     refine zC3 ?_
     repeat first|(with_reducible refine zCi ?_;clear hbq bq)|with_reducible refine zCk ?_|with_reducible refine zBx ?_|with_reducible refine zBq ?_|(with_reducible refine zCs ?_ ?_;focus rfl)
     refine zAe ?_;subst hbq
     repeat with_reducible refine zAb fun bq hbq=>?_
     refine zAf (by simp only [zAl,gtOf,zAk];exact rfl) ?_
     simp only [go_sem,↓reduceIte,e5,zA6 (n+1) (by omega)]
     refine zAe ?_;subst hbq
     refine zDr (by rw [Tryz.results124]) (zAh.one hp) ?_
     simp only [go_sem,↓reduceIte,zAo,Option.some.injEq,exists_eq_left']
     exact zBk (by rw [hpart]) hq
   ·have hd:decide (i<t.args.length)=false:=by simpa using hi
    rw [List.drop_eq_nil_of_le (by omega),zHu] at hpart
    simp only [go_sem,↓reduceIte,e1,e2,e5,e6,hd]
    refine zAe ?_;subst hbq
    repeat with_reducible refine zAb fun bq hbq=>?_
    refine zAy (t:=false) (by simp only [go_sem,↓reduceIte]) ?_ ?_
    ·intro hf;cases hf
    ·intro _
     refine zC3 ?_
     repeat first|(with_reducible refine zCi ?_;clear hbq bq)|with_reducible refine zCk ?_|with_reducible refine zBx ?_|with_reducible refine zBq ?_|(with_reducible refine zCs ?_ ?_;focus rfl)
     refine zAe ?_;subst hbq
     repeat with_reducible refine zAb fun bq hbq=>?_
     refine zAf (by simp only [zAl,gtOf,zAk];exact rfl) ?_
     simp only [go_sem,↓reduceIte,e5,zA6 (n+1) (by omega)]
     refine zAe ?_;subst hbq
     refine zDr (by rw [Tryz.results124]) (zAh.one hp) ?_
     simp only [go_sem,↓reduceIte,zAo,Option.some.injEq,exists_eq_left']
     exact zBk (by rw [hpart]) hq
def zFf (t:Term):Int:=if zB9 t 4000>4000 then 2 else if zC0 t 100>100 then 5 else 0
theorem zM3:∀ (s:Nat),(∀ (t:Term) (m:Int),t.size≤s→zB9 t m≤m→zB9 t m=t.size)∧(∀ (l:List Term) (m n:Int),sizes l≤s→zD7 l m n≤m→zD7 l m n=n+sizes l):=by
 intro s
 induction s with
 |zero =>
  refine ⟨fun t m ht=>?_,fun l m n hl=>?_⟩
  ·obtain ⟨a,b,c,l⟩:=t
   rw [Term.size] at ht;omega
  ·cases l with
   |nil=>intro _;rw [zD7,sizes];omega
   |cons t ts=>obtain ⟨a,b,c,l⟩:=t;rw [sizes,Term.size] at hl;omega
 |succ s ih =>
  have ht:∀ (t:Term) (m:Int),t.size≤s+1→zB9 t m≤m→zB9 t m=t.size:=by
   intro t m ht hm
   obtain ⟨a,b,c,l⟩:=t
   rw [Term.size] at ht ⊢
   rw [zB9] at hm ⊢
   have:=ih.2 l m 1 (by omega) hm
   omega
  refine ⟨ht,fun l=>?_⟩
  induction l with
  |nil=>intro m n _ _;rw [zD7,sizes];omega
  |cons t ts ihl =>
   intro m n hl hm
   rw [sizes] at hl ⊢
   have h0:=(zF5 (sizes (t::ts))).2 (t::ts) m n (Nat.le_refl _)
   have hnm:n≤m:=by omega
   rw [zD7,if_pos hnm] at hm ⊢
   have h1:=(zF5 (sizes ts)).2 ts m (n+zB9 t (m - n)) (Nat.le_refl _)
   have h2:=ht t (m - n) (by omega) (by omega)
   have h3:=ihl m (n+zB9 t (m - n)) (by omega) hm
   omega
theorem zJe (t:Term) (h:¬ zB9 t 4000>4000):t.size≤4000:=by
 have:=(zM3 t.size).1 t 4000 (Nat.le_refl _) (by omega)
 omega
theorem z1b (t:Term) (h:zAc) (Q:AOut→zAc→Prop) (hq:Q (.ret (.int .i64 (zFf t))) h):zAg Tryz.prog 78 [enc t] h Q:=by
 refine zAg.of_sem (fn:=Tryz.f78) Tryz.func78 rfl (by kernel_rfl) (by rw [Tryz.ntmps78];simp) (enters_of Tryz.func78 (by kernel_rfl) (by kernel_rfl)) ?_
 repeat with_reducible refine zAb fun bq hbq=>?_
 refine zAf (by simp only [zAl,gtOf,zAk];exact rfl) ?_
 simp only [go_sem,↓reduceIte]
 intro p hp
 refine zAe ?_;subst hbq
 repeat with_reducible refine zAb fun bq hbq=>?_
 repeat with_reducible refine zAb fun bq hbq=>?_
 refine zA3 fun cq hcq=>?_
 subst hcq
 repeat with_reducible refine zAb fun bq hbq=>?_
 refine zAf (by simp only [zAl,gtOf,zAk];exact rfl) ?_
 simp only [go_sem,↓reduceIte]
 refine yA4 t.size t 4000 _ _ (Nat.le_refl _) (by decide) (by decide) ?_
 simp only [go_sem,↓reduceIte]
 refine zAe ?_;subst hbq
 repeat with_reducible refine zAb fun bq hbq=>?_
 refine zAy (t:=decide (zB9 t 4000>4000)) (by simp only [go_sem,↓reduceIte]) ?_ ?_
 ·intro hc
  have hc':zB9 t 4000>4000:=by simpa using hc
  repeat with_reducible refine zAb fun bq hbq=>?_
  refine zAf (by simp only [zAl,gtOf,zAk];exact rfl) ?_
  simp only [go_sem,↓reduceIte]
  refine zAe ?_;subst hbq
  refine zB3 ?_
  repeat first|(with_reducible refine zC8 ?_;clear hbq bq)|with_reducible refine zDb ?_|with_reducible refine zCr ?_|with_reducible refine zB6 ?_
  refine zD6 (by rw [Tryz.results78]) (zAh.one hp) ?_
  simp only [go_sem,↓reduceIte,zAo,Option.some.injEq,exists_eq_left']
  exact zBk (by simp [zFf,hc']) hq
 ·intro hc
  have hc':¬ zB9 t 4000>4000:=by simpa using hc
  have hsz:=zJe t hc'
  repeat with_reducible refine zAb fun bq hbq=>?_
  refine zAf (by simp only [zAl,gtOf,zAk];exact rfl) ?_
  simp only [go_sem,↓reduceIte]
  refine yGb t.size t 100 _ _ (Nat.le_refl _) (by omega) (by omega) (by decide) ?_
  simp only [go_sem,↓reduceIte]
  refine zAe ?_;subst hbq
  repeat with_reducible refine zAb fun bq hbq=>?_
  refine zAy (t:=decide (zC0 t 100>100)) (by simp only [go_sem,↓reduceIte]) ?_ ?_
  ·intro hc2
   have hc2':zC0 t 100>100:=by simpa using hc2
   repeat with_reducible refine zAb fun bq hbq=>?_
   refine zAf (by simp only [zAl,gtOf,zAk];exact rfl) ?_
   simp only [go_sem,↓reduceIte]
   refine zAe ?_;subst hbq
   refine zB3 ?_
   repeat first|(with_reducible refine zC8 ?_;clear hbq bq)|with_reducible refine zDb ?_|with_reducible refine zCr ?_|with_reducible refine zB6 ?_
   refine zD6 (by rw [Tryz.results78]) (zAh.one hp) ?_
   simp only [go_sem,↓reduceIte,zAo,Option.some.injEq,exists_eq_left']
   exact zBk (by simp [zFf,hc',hc2']) hq
  ·intro hc2
   have hc2':¬ zC0 t 100>100:=by simpa using hc2
   refine zBn ?_
   refine zBf ?_
   refine zAe ?_;subst hbq
   repeat with_reducible refine zAb fun bq hbq=>?_
   refine zAf (by simp only [zAl,gtOf,zAk];exact rfl) ?_
   simp only [go_sem,↓reduceIte]
   refine zAe ?_;subst hbq
   refine zDr (by rw [Tryz.results78]) (zAh.one hp) ?_
   simp only [go_sem,↓reduceIte,zAo,Option.some.injEq,exists_eq_left']
   exact zBk (by simp [zFf,hc',hc2']) hq
def fewF (t:Term):Bool:=decide (zB9 t 4000≤60)||decide (zB9 t 4000>4000)
theorem yGu (t:Term) (h:zAc) (Q:AOut→zAc→Prop) (hq:Q (.ret (.bool (fewF t))) h):zAg Tryz.prog 56 [enc t] h Q:=by
 refine zAg.of_sem (fn:=Tryz.f56) Tryz.func56 rfl (by kernel_rfl) (by rw [Tryz.ntmps56];simp) (enters_of Tryz.func56 (by kernel_rfl) (by kernel_rfl)) ?_
 repeat with_reducible refine zAb fun bq hbq=>?_
 refine zAf (by simp only [zAl,gtOf,zAk];exact rfl) ?_
 simp only [go_sem,↓reduceIte]
 intro p hp
 refine zAe ?_;subst hbq
 repeat with_reducible refine zAb fun bq hbq=>?_
 refine zAf (by simp only [zAl,gtOf,zAk];exact rfl) ?_
 simp only [go_sem,↓reduceIte]
 refine z8t t.size t 4000 _ _ (Nat.le_refl _) (by decide) (by decide) ?_
 simp only [go_sem,↓reduceIte]
 refine zAe ?_;subst hbq
 repeat with_reducible refine zAb fun bq hbq=>?_
 refine zAf (by simp only [zAl,gtOf,zAk];exact rfl) ?_
 simp only [go_sem,↓reduceIte]
 cases hc:decide (zB9 t 4000≤60)
 all_goals
  simp only [go_sem,↓reduceIte,hc]
  refine zAe ?_;subst hbq
  refine zDr (by rw [Tryz.results56]) (zAh.one hp) ?_
  simp only [go_sem,↓reduceIte,zAo,Option.some.injEq,exists_eq_left']
  exact zBk (by simp [fewF,hc]) hq
def Asks {α:Type} (P:Program) (enc:α→AV) (g:FuncId) (first cap:List AV) (l:List α) (f:α→Bool) (h:zAc):Prop :=
 ∀ (i:Nat) (u:α),l[i]?=some u→(∀ (j:Nat) (v:α),j<i→l[j]?=some v→f v=false)→∀ (h':zAc) (Q:AOut→zAc→Prop),zAh h' h→Q (.ret (.bool (f u))) h'→zAg P g (first++[enc u]++cap) h' Q
def zIy {α:Type} (f:α→Bool):List α→Int→Int
 |[],_=>-1
 |u::l,i=>if f u then i else zIy f l (i+1)
theorem z6k (l:List Term) (g:FuncId) (first cap:List AV) (f:Term→Bool) (h:zAc) (Q:AOut→zAc→Prop) (hl:l.length≤1000000000) (hf:Asks Tryz.prog enc g first cap l f h) (hq:Q (.ret (.int .i64 (zIy f l 0))) h) :
  zAg Tryz.prog 153 [.list 4 (encs l) l.length .none,.func (.func g) first cap] h Q:=by
 refine zAg.of_sem (fn:=Tryz.f153) Tryz.func153 rfl (by kernel_rfl) (by rw [Tryz.ntmps153];simp) (enters_of Tryz.func153 (by kernel_rfl) (by kernel_rfl)) ?_
 repeat with_reducible refine zAb fun bq hbq=>?_
 refine zAf (by simp only [zAl,gtOf,zAk];exact rfl) ?_
 simp only [go_sem,↓reduceIte]
 refine zAe ?_;subst hbq
 repeat with_reducible refine zAb fun bq hbq=>?_
 refine zAf (by simp only [zAl,gtOf,zAk];exact rfl) ?_
 simp only [go_sem,↓reduceIte]
 refine zAe ?_;subst hbq
 repeat with_reducible refine zAb fun bq hbq=>?_
 repeat with_reducible refine zAb fun bq hbq=>?_
 refine zA3 fun cq hcq=>?_
 subst hcq
 refine zAx (fun k τ h'=>∃ i:Nat,k+i=l.length∧τ 0=.list 4 (encs l) l.length .none∧τ 1=.func (.func g) first cap∧τ 7=.int .i64 l.length∧τ 8=.int .i64 i∧zAh h' h∧(∀ (j:Nat) (v:Term),j<i→l[j]?=some v→f v=false)∧zIy f (l.drop i) i=zIy f l 0) l.length ?_ ?_
 ·exact ⟨0,rfl,rfl,rfl,rfl,rfl,zAh.refl h,fun j v hj=>absurd hj (Nat.not_lt_zero _),rfl⟩
 ·intro c hc k τ h' hI
  obtain ⟨i,hk,e0,e1,e7,e8,hless,hno,hix⟩:=hI
  subst hc
  repeat with_reducible refine zAb fun bq hbq=>?_
  refine zAf (by simp only [zAl,gtOf,zAk];exact rfl) ?_
  by_cases hi:i<l.length
  ·have hd:decide (i<l.length)=true:=by simpa using hi
   obtain ⟨u,hu⟩:∃ u,l[i]?=some u:=⟨_,List.getElem?_eq_getElem hi⟩
   obtain ⟨r,hr⟩:=zB7 l i hu
   have hdrop:l.drop i=u::l.drop (i+1):=by
    rw [List.drop_eq_getElem_cons hi]
    rw [List.getElem?_eq_getElem hi] at hu;injection hu with hu;rw [hu]
   rw [hdrop,zIy] at hix
   simp only [go_sem,↓reduceIte,e7,e8,hd]
   refine zAe ?_;subst hbq
   repeat with_reducible refine zAb fun bq hbq=>?_
   refine zAy (t:=true) (by simp only [go_sem,↓reduceIte]) ?_ ?_
   ·intro _
    refine zBn ?_
    refine zAe ?_;subst hbq
    repeat with_reducible refine zAb fun bq hbq=>?_
    refine zA3 fun cq hcq=>?_
    subst hcq
    repeat with_reducible refine zAb fun bq hbq=>?_
    refine zAf (by simp only [zAl,gtOf,zAk];exact rfl) ?_
    simp only [go_sem,↓reduceIte,e8]
    refine zAe ?_;subst hbq
    repeat with_reducible refine zAb fun bq hbq=>?_
    refine zAf (by simp only [zAl,gtOf,zAk];exact rfl) ?_
    simp only [go_sem,↓reduceIte,e0,e1,hi,hr]
    refine hf i u hu hno _ _ hless ?_
    simp only [go_sem,↓reduceIte]
    refine zAe ?_;subst hbq
    repeat with_reducible refine zAb fun bq hbq=>?_
    refine zAy (t:=f u) (by simp only [go_sem,↓reduceIte]) ?_ ?_
    ·intro hfu
     rw [if_pos hfu] at hix
     repeat with_reducible refine zAb fun bq hbq=>?_
     refine zAf (by simp only [zAl,gtOf,zAk];exact rfl) ?_
     simp only [go_sem,↓reduceIte]
     refine zAe ?_;subst hbq
     refine zB3 ?_
     repeat first|(with_reducible refine zC8 ?_;clear hbq bq)|with_reducible refine zDb ?_|with_reducible refine zCr ?_|with_reducible refine zB6 ?_
     rw [← hix] at hq
     refine zB2 (h':=h) (by rw [Tryz.results153]) hless ?_ hq
     simp only [go_sem,↓reduceIte,zAo,Option.some.injEq,exists_eq_left']
     exact LeAV.refl _
    ·intro hfu
     rw [if_neg (by rw [hfu];decide)] at hix
     refine zBn ?_
     refine zBf ?_
     refine zAe ?_;subst hbq
     repeat with_reducible refine zAb fun bq hbq=>?_
     refine zAf (by simp only [zAl,gtOf,zAk];exact rfl) ?_
     simp only [go_sem,↓reduceIte,e8,zA6 ((i:Int)+1) (by omega)]
     refine zAp (m:=k - 1) (by omega) ⟨i+1,by omega,?_⟩
     simp only [go_sem,↓reduceIte,e0,e1,e7]
     refine ⟨rfl,hless,fun j v hj hv=>?_,hix⟩
     by_cases e:j=i
     ·subst e;rw [hu] at hv;injection hv with hv;subst hv;exact hfu
     ·exact hno j v (by omega) hv
   ·intro hf;cases hf
  ·have hd:decide (i<l.length)=false:=by simpa using hi
   rw [List.drop_eq_nil_of_le (by omega),zIy] at hix
   simp only [go_sem,↓reduceIte,e7,e8,hd]
   refine zAe ?_;subst hbq
   repeat with_reducible refine zAb fun bq hbq=>?_
   refine zAy (t:=false) (by simp only [go_sem,↓reduceIte]) ?_ ?_
   ·intro hf;cases hf
   ·intro _
    refine zC3 ?_
    repeat first|(with_reducible refine zCi ?_;clear hbq bq)|with_reducible refine zCk ?_|with_reducible refine zBx ?_|with_reducible refine zBq ?_|(with_reducible refine zCs ?_ ?_;focus rfl)
    refine zAe ?_;subst hbq
    repeat with_reducible refine zAb fun bq hbq=>?_
    refine zAf (by simp only [zAl,gtOf,zAk];exact rfl) ?_
    simp only [go_sem,↓reduceIte]
    refine zAe ?_;subst hbq
    rw [← hix] at hq
    refine zCx (h':=h) (by rw [Tryz.results153]) hless ?_ hq
    simp only [go_sem,↓reduceIte,zAo,Option.some.injEq,exists_eq_left']
    exact LeAV.refl _
theorem zTw {α:Type} (f:α→Bool):∀ (l:List α) (i:Int),0≤i→decide (zIy f l i≥0)=l.any f
 |[],i,_=>rfl
 |u::l,i,hi=>by
  rw [zIy,List.any_cons]
  cases hf:f u
  ·simp only [Bool.false_eq_true,if_false,Bool.false_or];exact zTw f l (i+1) (by omega)
  ·simp only [if_true,Bool.true_or];simpa using hi
theorem zH4 (l:List Term) (g:FuncId) (first cap:List AV) (f:Term→Bool) (h:zAc) (Q:AOut→zAc→Prop) (hl:l.length≤1000000000) (hf:Asks Tryz.prog enc g first cap l f h) (hq:Q (.ret (.bool (l.any f))) h) :
  zAg Tryz.prog 121 [.list 4 (encs l) l.length .none,.func (.func g) first cap] h Q:=by
 refine zAg.of_sem (fn:=Tryz.f121) Tryz.func121 rfl (by kernel_rfl) (by rw [Tryz.ntmps121];simp) (enters_of Tryz.func121 (by kernel_rfl) (by kernel_rfl)) ?_
 repeat with_reducible refine zAb fun bq hbq=>?_
 refine zAf (by simp only [zAl,gtOf,zAk];exact rfl) ?_
 simp only [go_sem,↓reduceIte]
 refine zAe ?_;subst hbq
 repeat with_reducible refine zAb fun bq hbq=>?_
 refine zAf (by simp only [zAl,gtOf,zAk];exact rfl) ?_
 simp only [go_sem,↓reduceIte]
 refine z6k l g first cap f h _ hl hf ?_
 simp only [go_sem,↓reduceIte]
 refine zAe ?_;subst hbq
 refine zDr (by rw [Tryz.results121]) (zAh.refl h) ?_
 simp only [go_sem,↓reduceIte,zAo,Option.some.injEq,exists_eq_left']
 exact zBk (by rw [← zTw f l 0 (by decide)]) hq
theorem yCr (a b:Term) (h:zAc) (r:Nat) (hr:h r=some (.cells (zAj a) 27)) (Q:AOut→zAc→Prop) (hq:Q (.ret (.bool (isF a b))) h):zAg Tryz.prog 154 [enc b,.ptr r 0] h Q:=by
 refine zAg.of_sem (fn:=Tryz.f154) Tryz.func154 rfl (by kernel_rfl) (by rw [Tryz.ntmps154];simp) (enters_of Tryz.func154 (by kernel_rfl) (by kernel_rfl)) ?_
 repeat with_reducible refine zAb fun bq hbq=>?_
 refine zAf (by simp only [zAl,gtOf,zAk];exact rfl) ?_
 simp only [go_sem,↓reduceIte]
 intro p hp
 have hne:=zAd hp hr
 refine zAe ?_;subst hbq
 repeat with_reducible refine zAb fun bq hbq=>?_
 refine zAf (by simp only [zAl,gtOf,zAk];exact rfl) ?_
 simp only [go_sem,↓reduceIte,hne,hr]
 refine yMt a b _ _ ?_
 simp only [go_sem,↓reduceIte]
 refine zAe ?_;subst hbq
 refine zDr (by rw [Tryz.results154]) (zAh.one hp) ?_
 simp only [go_sem,↓reduceIte,zAo,Option.some.injEq,exists_eq_left']
 exact hq
end Go.Proofs.YthkjmiejaoomcaaGreat.Am
