/- Part of the proof of a law of layer 5: own texts, joined. -/
import Derived.Test.YthkjmiejaoomcaaGreatSb
set_option linter.unusedVariables false
set_option linter.unusedSimpArgs false
set_option linter.unnecessarySimpa false
namespace Go.Proofs.YthkjmiejaoomcaaGreat.Am
open Go Go.RowKit Go.Proofs
set_option linter.unusedVariables false
set_option linter.unusedSimpArgs false
set_option maxRecDepth 100000
set_option maxHeartbeats 1000000
attribute [go_sem] cSeq cDr cOne zHa zFr panK zGk zDa panC yAd cOp zBm zQ2 aop zAx zIx List.getD_cons_zero List.getD_cons_succ AV.known AV.cells if_true if_false cond_true cond_false aPut true_and and_true ofConst ofLeaf yBp z9p z5z z4h btt btf
 zMn zU2 zUy zRf aBin aInt zX0 aStr unSl aLen zF5 Option.map_some Option.map_none upd_same yIh Nat.reduceBEq List.drop_zero List.drop_succ_cons List.drop_nil List.take_succ_cons List.take_zero List.head?_cons List.length_cons List.length_nil Nat.reduceAdd Nat.reduceLeDiff Nat.reduceEqDiff List.map_cons List.map_nil Nat.zero_add Nat.add_zero reduceCtorEq Bool.false_eq_true
 zFo zZ7 true_implies false_implies implies_true forall_const and_self Bool.not_true Bool.not_false Bool.cond_self yJu zMo aNil yA3 aMax aMin aNot List.getElem?_cons_zero List.getElem?_cons_succ zMm zHp zCt AV.flat List.all_cons List.all_nil Bool.and_true Bool.true_and Bool.and_false Bool.false_and Int.natCast_nonneg Int.ofNat_lt Int.toNat_natCast yIr Nat.le_add_left List.append_nil List.contains_cons List.contains_nil Bool.or_true Bool.or_false Bool.true_or Bool.false_or Nat.reduceBEq List.cons_append List.nil_append
 sz_1 by_1 ag_1 tk_1 ze_1 sz_3 by_3 ag_3 tk_3 ze_3 sz_4 by_4 ag_4 tk_4 ze_4 sz_9 by_9 ag_9 tk_9 ze_9
 sz_20 by_20 ag_20 tk_20 ze_20 sz_22 by_22 ag_22 tk_22 zI0 ze_22 sz_24 by_24 ag_24 tk_24 yA8 yIe yCa sz_25 by_25
 ag_25 yJx zCo ze_25 zEz zGn ag_27 tk_27 zEd yId yIc yIb yIa zYx sz_30 by_30 ag_30 tk_30 ze_30 sz_34
 by_34 ag_34 tk_34 ze_34 yH9 yH8 yH7 yH6 pl_34 sz_40 by_40 ag_40 yJw zOh ze_40 sz_42 by_42 ag_42 tk_42 ze_42
 yH5 yH4 yH3 pl_42 sz_52 by_52 ag_52 tk_52 ze_52 yH2 yH1 yH0 yHz pl_52 zVj yAe ag_60 tk_60 zRj yHy
 yHx yG0 zPg zXj ag_62 tk_62 zLj z9m yHw yHv yHu yLq sz_68 by_68 ag_68 tk_68 ze_68 yHt yHs pl_68
 sz_70 by_70 ag_70 tk_70 zKe ze_70 sz_77 by_77 ag_77 tk_77 zQu ze_77 sz_80 by_80 ag_80 tk_80 ze_80 sz_83 by_83 ag_83
 tk_83 ze_83 yHr yHq pl_83 sz_95 by_95 ag_95 tk_95 ze_95 sz_97 by_97 ag_97 tk_97 ze_97 sz_99 by_99 ag_99 tk_99 z3n
 ze_99 yLj yM8 yN6 yKq yE0 yD2 yD1 yD0 yFe yLi yM7 yN5 yKp yJo yLh yM6 yN4 yKo yJn
 yDz yDy yDx yLw yLg yM5 yN3 yKn yJm yLf yM4 yN2 yKm yJl yLe yM3 yN1 yKl yMc yJk
 yLd yM2 yN0 yKk yJj yDw yDv yDu yDt yLv yLc yM1 yNz yKj yJi yDs yDr yLu yLb yM0
 yNy yKi yJh yLa yMz yNx yKh yJg yK9 yMy yNw yKg z09 yJf yK8 yMx yNv yKf yEz yDq
 yDp yDo yDn yFd yK7 yMw yNu yKe yMb yJe yK6 yMv yNt yKd yL3 yJd yK5 yMu yNs yKc
 yJc yDm yDl yLt yK4 yMt yNr yKb yJb yK3 yMs yNq yKa yMa yJa yK2 yMr yNp yJ9 yI9
 yDk yDj yDi yDh yLs yK1 yMq yNo yJ8 yEy yFc yK0 yMp yNn yJ7 yEx yDg yFb yKz yMo
 yNm yJ6 yI8 yKy yMn yNl yJ5 yI7 yDf yDe yDd yLr yKx yMm yNk yJ4 zWg yI6 yKw yMl
 yNj yJ3 yI5 yKv yMk yNi yJ2 yEw yDc yDb yDa yFa yKu yMj yNh yJ1 z0c yC9 yC8 yE9
 yKt yMi yNg yJ0 yL9 yI4 yKs yMh yNf yJz yI3 yKr yMg yNe yJy yI2
structure Term where
 kind:Int
 n:Int
 name:ByteArray
 args:List Term
def encs:List Term→List AV
 |[]=>[]
 |⟨k,n,s,l⟩::ts=>.int .i64 k::.int .i64 n::.str s::.list 4 (encs l) l.length .none::encs ts
abbrev zAj (t:Term):List AV:=[.int .i64 t.kind,.int .i64 t.n,.str t.name,.list 4 (encs t.args) t.args.length .none]
abbrev enc (t:Term):AV:=.agg (zAj t)
theorem zG7 (t:Term) (ts:List Term):encs (t::ts)=.int .i64 t.kind::.int .i64 t.n::.str t.name::.list 4 (encs t.args) t.args.length .none::encs ts:=by cases t;rw [encs]
theorem zL6 {α:Type} {c:α→List AV} {z:Nat} (hz:∀ x,(c x).length=z):∀ (l:List α) (k:Nat) {x:α},l[k]?=some x→∃ r,(l.flatMap c).drop (k * z)=c x++r
 |[],k,x,hk=>by simp at hk
 |y::l,0,x,hk=>by
  simp only [List.getElem?_cons_zero,Option.some.injEq] at hk;subst hk
  exact ⟨l.flatMap c,by simp⟩
 |y::l,k+1,x,hk=>by
  simp only [List.getElem?_cons_succ] at hk
  obtain ⟨r,hr⟩:=zL6 hz l k hk
  refine ⟨r,?_⟩
  rw [List.flatMap_cons,Nat.add_mul,Nat.one_mul,Nat.add_comm,← List.drop_drop,← hz y,List.drop_left,hz y]
  exact hr
theorem zB6:∀ ts:List Term,encs ts=ts.flatMap zAj
 |[]=>by rw [encs];rfl
 |t::ts=>by rw [zG7,zB6 ts];rfl
theorem zB7 (ts:List Term) (k:Nat) {t:Term} (hk:ts[k]?=some t):∃ r,(encs ts).drop (k * 4)=.int .i64 t.kind::.int .i64 t.n::.str t.name::.list 4 (encs t.args) t.args.length .none::r:=by
 rw [zB6]
 exact zL6 (z:=4) (fun _=>rfl) ts k hk
theorem zKn {P:Program} {t E:TypeId} {z:Nat} {zv:Value} (hE:zB1 P t=some E) (hz:tsz P E=some z) (hv:zBh P E=some zv) {v:AV} (hl:v.cells.length=z) (hf:v.cells.all AV.flat=true) (hk:v.known=true) (hs:z≤16777216) :
  zA8 P t 1 [(0,v)]=some (.list z v.cells 1 .full):=by
 simp only [zA8,hE,hz,hv,Nat.one_mul]
 rw [if_pos hs]
 have:zEt (fun i=>some (i * z,z)) (List.replicate z .any) [(0,v)]=some v.cells:=by
  simp only [zEt,Nat.zero_mul,Nat.zero_add]
  rw [if_pos ⟨hk,hl,by simp⟩]
  simp only [zCt,List.take_zero,List.nil_append,Option.some.injEq,hl]
  simp
 rw [this]
 simp only [hf,hl,and_self,if_true]
theorem zD4 (x:Term):zA8 Tryz.prog 25 1 [(0,.agg (zAj x))]=some (.list 4 (zAj x) 1 .full):=zKn zCo zEz zEd rfl rfl rfl (by decide)
theorem zBa:encs []=[]:=by rw [encs]
theorem z9v (l:List Term) (i:Nat) {x:Term} (hx:l[i]?=some x):encs (l.take (i+1))=encs (l.take i)++zAj x:=by
 rw [zB6,zB6,List.take_add_one,hx]
 simp
def zAy (t:Term):Bool:=(t.kind==2||t.kind==3)&&(t.args.length:Int)==0
theorem zZf (t:Term) (h:zAd) (Q:AOut→zAd→Prop) (hq:Q (.ret (.bool (zAy t))) h):zAg Tryz.prog 137 [enc t] h Q:=by
 refine zAg.of_sem (fn:=Tryz.f137) Tryz.func137 rfl (by kernel_rfl) (by rw [Tryz.ntmps137];simp) (enters_of Tryz.func137 (by kernel_rfl) (by kernel_rfl)) ?_
 repeat refine zAb fun bq hbq=>?_
 refine zAf (by simp only [zAm,gtOf,zAk];exact rfl) ?_
 simp only [go_sem,↓reduceIte]
 intro p hp
 refine zAe ?_;subst hbq
 repeat refine zAb fun bq hbq=>?_
 refine zAf (by simp only [zAm,gtOf,zAk];exact rfl) ?_
 have fin:zAh (upd h p (some (AObj.cells [.int .i64 t.kind,.int .i64 t.n,.str t.name,.list 4 (encs t.args) t.args.length .none] 27))) h:=zAh.one hp
 cases hk:(t.kind==2) <;> cases hk3:(t.kind==3)
 all_goals
  simp only [go_sem,↓reduceIte,hk,hk3]
  refine zAe ?_;subst hbq
  refine zDw (by rw [Tryz.results137]) fin ?_
  simp only [go_sem,↓reduceIte,zAo,Option.some.injEq,exists_eq_left']
  exact zBj (by simp [zAy,hk,hk3]) hq
def isF (a b:Term):Bool:=a.kind==b.kind&&a.n==b.n
theorem yHk (a b:Term) (h:zAd) (Q:AOut→zAd→Prop) (hq:Q (.ret (.bool (isF a b))) h):zAg Tryz.prog 139 [enc a,enc b] h Q:=by
 refine zAg.of_sem (fn:=Tryz.f139) Tryz.func139 rfl (by kernel_rfl) (by rw [Tryz.ntmps139];simp) (enters_of Tryz.func139 (by kernel_rfl) (by kernel_rfl)) ?_
 repeat refine zAb fun bq hbq=>?_
 refine zAf (by simp only [zAm,gtOf,zAk];exact rfl) ?_
 simp only [go_sem,↓reduceIte]
 intro p hp q hq'
 have hne:=zDi hq'
 refine zAe ?_;subst hbq
 repeat refine zAb fun bq hbq=>?_
 refine zAf (by simp only [zAm,gtOf,zAk];exact rfl) ?_
 have fin:zAh (upd (upd h p (some (AObj.cells (zAj a) 27))) q (some (AObj.cells (zAj b) 27))) h:=(zAh.one hq').trans (zAh.one hp)
 cases hk:(a.kind==b.kind)
 all_goals
  simp only [go_sem,↓reduceIte,hne.1,hne.1.symm,hk]
  refine zAe ?_;subst hbq
  refine zDw (by rw [Tryz.results139]) fin ?_
  simp only [go_sem,↓reduceIte,zAo,Option.some.injEq,exists_eq_left']
  exact zBj (by simp [isF,hk]) hq
theorem zI9 {P:Program} {h:zAd} {c:Operand} {a b:Code} {K:AK} {τ:Env} (hc:zAx τ c=.someBool) (h1:zBf P a K τ h) (h2:zBf P b K τ h):zBf P (.cond c a b) K τ h:=.cond_any hc h1 h2
theorem zH7:zA8 Tryz.prog 25 0 []=some (.list 4 [] 0 .full):=by
 simp only [zA8,zCo,zEz,zEd,zEt];rfl
theorem z4k (ts:List Term) (h:zAd) (Q:AOut→zAd→Prop) (hn:ts.length≤1000000000) (h0:ts=[]→Q (.ret (.list 4 [] 0 .full)) h) (h1:ts≠[]→∀ p,h p=Option.none→Q (.ret (.sl p 0 ts.length)) (upd h p (some (.cells (encs ts) 27)))) :
  zAg Tryz.prog 98 [.list 4 (encs ts) ts.length .none] h Q:=by
 refine zAg.of_sem (fn:=Tryz.f98) Tryz.func98 rfl (by kernel_rfl) (by rw [Tryz.ntmps98];simp) (enters_of Tryz.func98 (by kernel_rfl) (by kernel_rfl)) ?_
 repeat refine zAb fun bq hbq=>?_
 refine zAf (by simp only [zAm,gtOf,zAk];exact rfl) ?_
 simp only [go_sem,↓reduceIte]
 refine zAe ?_;subst hbq
 repeat refine zAb fun bq hbq=>?_
 refine zAf (by simp only [zAm,gtOf,zAk];exact rfl) ?_
 by_cases hts:ts=[]
 ·subst hts
  simp only [go_sem,↓reduceIte]
  refine zAe ?_;subst hbq
  repeat refine zAb fun bq hbq=>?_
  refine zI9 (by simp only [go_sem,↓reduceIte]) ?_ ?_
  ·repeat refine zAb fun bq hbq=>?_
   refine zAf (by simp only [zAm,gtOf,zAk];exact rfl) ?_
   simp only [go_sem,↓reduceIte]
   refine zAe ?_;subst hbq
   refine zB9 ?_
   repeat first|(refine zDd ?_;clear hbq bq)|refine zDj ?_|refine zCr ?_|refine zCb ?_
   refine zBx (v:=.list 4 [] 0 .full) (by rw [Tryz.results98]) (zAh.refl h) ?_ (h0 rfl)
   simp only [go_sem,↓reduceIte,zAo,Option.some.injEq,exists_eq_left']
   exact LeAV.nil_full _ _
  ·refine zBk ?_
   refine zAe ?_;subst hbq
   repeat refine zAb fun bq hbq=>?_
   refine zAf (by simp only [zAm,gtOf,zAk];exact rfl) ?_
   simp only [go_sem,↓reduceIte,zH7]
   refine zAw ?_
   simp only [go_sem,↓reduceIte,zH7]
   intro p hp
   rw [zHe zCo zCo zEz zGn zEd ⟨rfl,by decide⟩ (.inl rfl) (.inl rfl) (by decide)]
   refine zAe ?_;subst hbq
   refine zC3 (v:=.list 4 [] 0 .full) (by rw [Tryz.results98]) (zAh.refl h) ?_ (h0 rfl)
   simp only [go_sem,↓reduceIte,zAo,Option.some.injEq,exists_eq_left']
   exact LeAV.refl _
 ·have hl:ts.length≠0:=by simpa using hts
  simp only [go_sem,↓reduceIte,hl]
  refine zAe ?_;subst hbq
  repeat refine zAb fun bq hbq=>?_
  refine zA0 (t:=false) (by simp only [go_sem,↓reduceIte]) ?_ ?_
  ·intro hf;cases hf
  ·intro _
   refine zBk ?_
   refine zAe ?_;subst hbq
   repeat refine zAb fun bq hbq=>?_
   refine zAf (by simp only [zAm,gtOf,zAk];exact rfl) ?_
   simp only [go_sem,↓reduceIte,zH7]
   refine zCp ?_
   simp only [go_sem,↓reduceIte,zDm,zH7]
   intro p hp
   rw [zJd zCo zCo zEz zGn zEd ⟨rfl,by decide⟩ (.inl rfl) (.inl rfl) rfl hl (by omega)]
   refine zAe ?_;subst hbq
   refine zDw (by rw [Tryz.results98]) (zAh.refl _) ?_
   simp only [go_sem,↓reduceIte,zAo,Option.some.injEq,exists_eq_left']
   exact h1 hts p hp
mutual
def zBt:Term→Int→Int
 |⟨_,_,_,l⟩,m=>zDp l m 1
def zDp:List Term→Int→Int→Int
 |[],_,n=>n
 |t::ts,m,n=>if n≤m then zDp ts m (n+zBt t (m - n)) else n
end
mutual
def Term.size:Term→Nat
 |⟨_,_,_,l⟩=>sizes l+1
def sizes:List Term→Nat
 |[]=>0
 |t::ts=>t.size+sizes ts
end
theorem size_at:∀ (l:List Term) (k:Nat) {t:Term},l[k]?=some t→t.size≤sizes l
 |[],k,t,hk=>by simp at hk
 |y::l,0,t,hk=>by simp only [List.getElem?_cons_zero,Option.some.injEq] at hk;subst hk;rw [sizes];omega
 |y::l,k+1,t,hk=>by
  simp only [List.getElem?_cons_succ] at hk
  have:=size_at l k hk
  rw [sizes];omega
theorem zDl (u:Term) (k:Nat) {t:Term} (hk:u.args[k]?=some t):t.size<u.size:=by
 have:=size_at u.args k hk
 obtain ⟨a,b,c,l⟩:=u
 rw [Term.size]
 exact Nat.lt_succ_of_le this
theorem zGc:∀ (s:Nat),(∀ (t:Term) (m:Int),t.size≤s→1≤zBt t m∧zBt t m≤max 1 (m+1))∧(∀ (l:List Term) (m n:Int),sizes l≤s→n≤zDp l m n∧zDp l m n≤max n (m+1)):=by
 intro s
 induction s with
 |zero =>
  refine ⟨fun t m ht=>?_,fun l m n hl=>?_⟩
  ·obtain ⟨a,b,c,l⟩:=t
   rw [Term.size] at ht;omega
  ·cases l with
   |nil=>rw [zDp];omega
   |cons t ts=>obtain ⟨a,b,c,l⟩:=t;rw [sizes,Term.size] at hl;omega
 |succ s ih =>
  have ht:∀ (t:Term) (m:Int),t.size≤s+1→1≤zBt t m∧zBt t m≤max 1 (m+1):=by
   intro t m ht
   obtain ⟨a,b,c,l⟩:=t
   rw [Term.size] at ht
   rw [zBt]
   exact ih.2 l m 1 (by omega)
  refine ⟨ht,fun l=>?_⟩
  induction l with
  |nil=>intro m n _;rw [zDp];omega
  |cons t ts ihl =>
   intro m n hl
   rw [sizes] at hl
   rw [zDp]
   split
   ·have h1:=ht t (m - n) (by omega)
    have h2:=ihl m (n+zBt t (m - n)) (by omega)
    omega
   ·omega
theorem z03:∀ (s:Nat) (t:Term) (m:Int) (h:zAd) (Q:AOut→zAd→Prop),t.size≤s→-1000000000≤m→m≤1000000000→Q (.ret (.int .i64 (zBt t m))) h→zAg Tryz.prog 70 [enc t,.int .i64 m] h Q:=by
 intro s
 induction s with
 |zero=>intro t m h Q ht;obtain ⟨a,b,c,l⟩:=t;rw [Term.size] at ht;omega
 |succ s ih =>
  intro t m h Q ht hm1 hm2 hq
  refine zAg.of_sem (fn:=Tryz.f70) Tryz.func70 rfl (by kernel_rfl) (by rw [Tryz.ntmps70];simp) (enters_of Tryz.func70 (by kernel_rfl) (by kernel_rfl)) ?_
  repeat refine zAb fun bq hbq=>?_
  refine zAf (by simp only [zAm,gtOf,zAk];exact rfl) ?_
  simp only [go_sem,↓reduceIte]
  intro p hp
  refine zAe ?_;subst hbq
  repeat refine zAb fun bq hbq=>?_
  refine zAf (by simp only [zAm,gtOf,zAk];exact rfl) ?_
  simp only [go_sem,↓reduceIte]
  refine zAe ?_;subst hbq
  repeat refine zAb fun bq hbq=>?_
  refine zAf (by simp only [zAm,gtOf,zAk];exact rfl) ?_
  simp only [go_sem,↓reduceIte]
  refine zAe ?_;subst hbq
  repeat refine zAb fun bq hbq=>?_
  refine zA6 fun cq hcq=>?_
  subst hcq
  refine zAz (fun k τ h'=>∃ (i:Nat) (n:Int),k+i=t.args.length∧τ 1=.int .i64 m∧τ 2=.ptr p 0∧τ 5=.int .i64 n∧τ 6=.int .i64 i∧h'=upd h p (some (.cells (zAj t) 27))∧(i:Int)+1≤n∧n≤max 1 (m+1)∧zDp (t.args.drop i) m n=zBt t m) t.args.length ?_ ?_
  ·refine ⟨0,1,rfl,?_⟩
   simp only [go_sem,↓reduceIte]
   refine ⟨rfl,by omega,by omega,?_⟩
   obtain ⟨a,b,c,l⟩:=t
   simp only [List.drop_zero,zBt]
  ·intro c hc k τ h' hI
   obtain ⟨i,n,hk,e1,e2,e5,e6,rfl,hn1,hn2,hpart⟩:=hI
   subst hc
   repeat refine zAb fun bq hbq=>?_
   refine zAf (by simp only [zAm,gtOf,zAk];exact rfl) ?_
   simp only [go_sem,↓reduceIte,e1,e2,e5,e6]
   by_cases hi:i<t.args.length
   ·have hd:decide (i<t.args.length)=true:=by simpa using hi
    obtain ⟨u,hu⟩:∃ u,t.args[i]?=some u:=⟨_,List.getElem?_eq_getElem hi⟩
    have hdrop:t.args.drop i=u::t.args.drop (i+1):=by
     rw [List.drop_eq_getElem_cons hi]
     rw [List.getElem?_eq_getElem hi] at hu;injection hu with hu;rw [hu]
    simp only [go_sem,↓reduceIte,e1,e2,e5,e6,hd]
    refine zAe ?_;subst hbq
    repeat refine zAb fun bq hbq=>?_
    refine zA0 (t:=decide (n≤m)) (by simp only [go_sem,↓reduceIte]) ?_ ?_
    ·intro hnm
     have hnm':n≤m:=by simpa using hnm
     obtain ⟨r,hr⟩:=zB7 t.args i hu
     have hsz:=zDl t i hu
     have hb:=(zGc u.size).1 u (m - n) (Nat.le_refl _)
     refine zBk ?_
     refine zAe ?_;subst hbq
     repeat refine zAb fun bq hbq=>?_
     refine zA6 fun cq hcq=>?_
     subst hcq
     repeat refine zAb fun bq hbq=>?_
     refine zAf (by simp only [zAm,gtOf,zAk];exact rfl) ?_
     simp only [go_sem,↓reduceIte,e1,e2,e5,e6,hd,zA3 (m - n) (by omega),hi,hr]
     refine ih u (m - n) _ _ (by omega) (by omega) (by omega) ?_
     simp only [go_sem,↓reduceIte,e1,e2,e5,e6,zA3 (n+zBt u (m - n)) (by omega)]
     refine zBe ?_
     refine zAe ?_;subst hbq
     repeat refine zAb fun bq hbq=>?_
     refine zAf (by simp only [zAm,gtOf,zAk];exact rfl) ?_
     simp only [go_sem,↓reduceIte,e6,zA3 ((i:Int)+1) (by omega)]
     refine zAp (m:=k - 1) (by omega) ⟨i+1,n+zBt u (m - n),by omega,?_⟩
     simp only [go_sem,↓reduceIte,e1,e2]
     rw [hdrop,zDp,if_pos hnm'] at hpart
     exact ⟨rfl,by omega,by omega,hpart⟩
    ·intro hnm
     have hnm':¬ n≤m:=by simpa using hnm
     refine zC6 ?_
     repeat first|(refine zCk ?_;clear hbq bq)|refine zCl ?_|refine zBu ?_|refine zBq ?_|refine zCs rfl ?_
     refine zAe ?_;subst hbq
     repeat refine zAb fun bq hbq=>?_
     refine zAf (by simp only [zAm,gtOf,zAk];exact rfl) ?_
     simp only [go_sem,↓reduceIte,e5]
     refine zAe ?_;subst hbq
     refine zDw (by rw [Tryz.results70]) (zAh.one hp) ?_
     simp only [go_sem,↓reduceIte,zAo,Option.some.injEq,exists_eq_left']
     rw [hdrop,zDp,if_neg hnm'] at hpart
     exact zBj (by rw [hpart]) hq
   ·have hd:decide (i<t.args.length)=false:=by simpa using hi
    simp only [go_sem,↓reduceIte,e1,e2,e5,e6,hd]
    refine zAe ?_;subst hbq
    repeat refine zAb fun bq hbq=>?_
    refine zA0 (t:=false) (by simp only [go_sem,↓reduceIte]) ?_ ?_
    ·intro hf;cases hf
    ·intro _
     refine zC6 ?_
     repeat first|(refine zCk ?_;clear hbq bq)|refine zCl ?_|refine zBu ?_|refine zBq ?_|refine zCs rfl ?_
     refine zAe ?_;subst hbq
     repeat refine zAb fun bq hbq=>?_
     refine zAf (by simp only [zAm,gtOf,zAk];exact rfl) ?_
     simp only [go_sem,↓reduceIte,e5]
     refine zAe ?_;subst hbq
     refine zDw (by rw [Tryz.results70]) (zAh.one hp) ?_
     simp only [go_sem,↓reduceIte,zAo,Option.some.injEq,exists_eq_left']
     rw [List.drop_eq_nil_of_le (by omega),zDp] at hpart
     exact zBj (by rw [hpart]) hq
theorem zYv:∀ (s:Nat) (t:Term) (m:Int) (h:zAd) (Q:AOut→zAd→Prop),t.size≤s→-1000000000≤m→m≤1000000000→Q (.ret (.int .i64 (zBt t m))) h→zAg Tryz.prog 86 [enc t,.int .i64 m] h Q:=by
 intro s
 induction s with
 |zero=>intro t m h Q ht;obtain ⟨a,b,c,l⟩:=t;rw [Term.size] at ht;omega
 |succ s ih =>
  intro t m h Q ht hm1 hm2 hq
  refine zAg.of_sem (fn:=Tryz.f86) Tryz.func86 rfl (by kernel_rfl) (by rw [Tryz.ntmps86];simp) (enters_of Tryz.func86 (by kernel_rfl) (by kernel_rfl)) ?_
  repeat with_reducible refine zAb fun bq hbq=>?_
  refine zAf (by simp only [zAm,gtOf,zAk];exact rfl) ?_
  simp only [go_sem,↓reduceIte]
  intro p hp
  refine zAe ?_;subst hbq
  repeat with_reducible refine zAb fun bq hbq=>?_
  refine zAf (by simp only [zAm,gtOf,zAk];exact rfl) ?_
  simp only [go_sem,↓reduceIte]
  refine zAe ?_;subst hbq
  repeat with_reducible refine zAb fun bq hbq=>?_
  refine zAf (by simp only [zAm,gtOf,zAk];exact rfl) ?_
  simp only [go_sem,↓reduceIte]
  refine zAe ?_;subst hbq
  repeat with_reducible refine zAb fun bq hbq=>?_
  refine zA6 fun cq hcq=>?_
  subst hcq
  refine zAz (fun k τ h'=>∃ (i:Nat) (n:Int),k+i=t.args.length∧τ 1=.int .i64 m∧τ 2=.ptr p 0∧τ 5=.int .i64 n∧τ 6=.int .i64 i∧h'=upd h p (some (.cells (zAj t) 27))∧(i:Int)+1≤n∧n≤max 1 (m+1)∧zDp (t.args.drop i) m n=zBt t m) t.args.length ?_ ?_
  ·refine ⟨0,1,rfl,?_⟩
   simp only [go_sem,↓reduceIte]
   refine ⟨rfl,by omega,by omega,?_⟩
   obtain ⟨a,b,c,l⟩:=t
   simp only [List.drop_zero,zBt]
  ·intro c hc k τ h' hI
   obtain ⟨i,n,hk,e1,e2,e5,e6,rfl,hn1,hn2,hpart⟩:=hI
   subst hc
   repeat with_reducible refine zAb fun bq hbq=>?_
   refine zAf (by simp only [zAm,gtOf,zAk];exact rfl) ?_
   simp only [go_sem,↓reduceIte,e1,e2,e5,e6]
   by_cases hi:i<t.args.length
   ·have hd:decide (i<t.args.length)=true:=by simpa using hi
    obtain ⟨u,hu⟩:∃ u,t.args[i]?=some u:=⟨_,List.getElem?_eq_getElem hi⟩
    have hdrop:t.args.drop i=u::t.args.drop (i+1):=by
     rw [List.drop_eq_getElem_cons hi]
     rw [List.getElem?_eq_getElem hi] at hu;injection hu with hu;rw [hu]
    simp only [go_sem,↓reduceIte,e1,e2,e5,e6,hd]
    refine zAe ?_;subst hbq
    repeat with_reducible refine zAb fun bq hbq=>?_
    refine zA0 (t:=decide (n≤m)) (by simp only [go_sem,↓reduceIte]) ?_ ?_
    ·intro hnm
     have hnm':n≤m:=by simpa using hnm
     obtain ⟨r,hr⟩:=zB7 t.args i hu
     have hsz:=zDl t i hu
     have hb:=(zGc u.size).1 u (m - n) (Nat.le_refl _)
     refine zBk ?_
     refine zAe ?_;subst hbq
     repeat with_reducible refine zAb fun bq hbq=>?_
     refine zA6 fun cq hcq=>?_
     subst hcq
     repeat with_reducible refine zAb fun bq hbq=>?_
     refine zAf (by simp only [zAm,gtOf,zAk];exact rfl) ?_
     simp only [go_sem,↓reduceIte,e1,e2,e5,e6,hd,zA3 (m - n) (by omega),hi,hr]
     refine ih u (m - n) _ _ (by omega) (by omega) (by omega) ?_
     simp only [go_sem,↓reduceIte,e1,e2,e5,e6,zA3 (n+zBt u (m - n)) (by omega)]
     refine zBe ?_
     refine zAe ?_;subst hbq
     repeat with_reducible refine zAb fun bq hbq=>?_
     refine zAf (by simp only [zAm,gtOf,zAk];exact rfl) ?_
     simp only [go_sem,↓reduceIte,e6,zA3 ((i:Int)+1) (by omega)]
     refine zAp (m:=k - 1) (by omega) ⟨i+1,n+zBt u (m - n),by omega,?_⟩
     simp only [go_sem,↓reduceIte,e1,e2]
     rw [hdrop,zDp,if_pos hnm'] at hpart
     exact ⟨rfl,by omega,by omega,hpart⟩
    ·intro hnm
     have hnm':¬ n≤m:=by simpa using hnm
     refine zC6 ?_
     repeat first|(with_reducible refine zCk ?_;clear hbq bq)|with_reducible refine zCl ?_|with_reducible refine zBu ?_|with_reducible refine zBq ?_|(with_reducible refine zCs ?_ ?_;focus rfl)
     refine zAe ?_;subst hbq
     repeat with_reducible refine zAb fun bq hbq=>?_
     refine zAf (by simp only [zAm,gtOf,zAk];exact rfl) ?_
     simp only [go_sem,↓reduceIte,e5]
     refine zAe ?_;subst hbq
     refine zDw (by rw [Tryz.results86]) (zAh.one hp) ?_
     simp only [go_sem,↓reduceIte,zAo,Option.some.injEq,exists_eq_left']
     rw [hdrop,zDp,if_neg hnm'] at hpart
     exact zBj (by rw [hpart]) hq
   ·have hd:decide (i<t.args.length)=false:=by simpa using hi
    simp only [go_sem,↓reduceIte,e1,e2,e5,e6,hd]
    refine zAe ?_;subst hbq
    repeat with_reducible refine zAb fun bq hbq=>?_
    refine zA0 (t:=false) (by simp only [go_sem,↓reduceIte]) ?_ ?_
    ·intro hf;cases hf
    ·intro _
     refine zC6 ?_
     repeat first|(with_reducible refine zCk ?_;clear hbq bq)|with_reducible refine zCl ?_|with_reducible refine zBu ?_|with_reducible refine zBq ?_|(with_reducible refine zCs ?_ ?_;focus rfl)
     refine zAe ?_;subst hbq
     repeat with_reducible refine zAb fun bq hbq=>?_
     refine zAf (by simp only [zAm,gtOf,zAk];exact rfl) ?_
     simp only [go_sem,↓reduceIte,e5]
     refine zAe ?_;subst hbq
     refine zDw (by rw [Tryz.results86]) (zAh.one hp) ?_
     simp only [go_sem,↓reduceIte,zAo,Option.some.injEq,exists_eq_left']
     rw [List.drop_eq_nil_of_le (by omega),zDp] at hpart
     exact zBj (by rw [hpart]) hq
def zOg (x y:Int):Int:=if y>x then y else x
mutual
def zCf:Term→Int→Int
 |⟨_,_,_,l⟩,m=>zDx l m 0+1
def zDx:List Term→Int→Int→Int
 |[],_,n=>n
 |t::ts,m,n=>if m>0 then zDx ts m (zOg n (zCf t (m - 1))) else n
end
theorem zWm:∀ l:List Term,l.length≤sizes l:=by
 intro l
 induction l with
 |nil=>exact Nat.zero_le _
 |cons x l ih=>obtain ⟨a,b,c,m⟩:=x;rw [sizes,Term.size,List.length_cons];omega
theorem zE4 (t:Term):t.args.length<t.size:=by
 obtain ⟨a,b,c,l⟩:=t
 rw [Term.size]
 exact Nat.lt_succ_of_le (zWm l)
theorem zWk:∀ (s:Nat),(∀ (t:Term) (m:Int),t.size≤s→1≤zCf t m∧zCf t m≤t.size)∧(∀ (l:List Term) (m n:Int),sizes l≤s→n≤zDx l m n∧zDx l m n≤max n (sizes l)):=by
 intro s
 induction s with
 |zero =>
  refine ⟨fun t m ht=>?_,fun l m n hl=>?_⟩
  ·obtain ⟨a,b,c,l⟩:=t
   rw [Term.size] at ht;omega
  ·cases l with
   |nil=>rw [zDx];omega
   |cons t ts=>obtain ⟨a,b,c,l⟩:=t;rw [sizes,Term.size] at hl;omega
 |succ s ih =>
  have ht:∀ (t:Term) (m:Int),t.size≤s+1→1≤zCf t m∧zCf t m≤t.size:=by
   intro t m ht
   obtain ⟨a,b,c,l⟩:=t
   rw [Term.size] at ht ⊢
   rw [zCf]
   have:=ih.2 l m 0 (by omega)
   omega
  refine ⟨ht,fun l=>?_⟩
  induction l with
  |nil=>intro m n _;rw [zDx];omega
  |cons t ts ihl =>
   intro m n hl
   rw [sizes] at hl ⊢
   rw [zDx]
   split
   ·have h1:=ht t (m - 1) (by omega)
    have h2:=ihl m (zOg n (zCf t (m - 1))) (by omega)
    have h3:n≤zOg n (zCf t (m - 1))∧zOg n (zCf t (m - 1))≤max n (zCf t (m - 1)):=by unfold zOg;split <;> omega
    omega
   ·omega
theorem z8q:∀ (s:Nat) (t:Term) (m:Int) (h:zAd) (Q:AOut→zAd→Prop),t.size≤s→t.size≤1000000000→-1000000000≤m - t.size→m≤1000000000→Q (.ret (.int .i64 (zCf t m))) h→zAg Tryz.prog 124 [enc t,.int .i64 m] h Q:=by
 intro s
 induction s with
 |zero=>intro t m h Q ht;obtain ⟨a,b,c,l⟩:=t;rw [Term.size] at ht;omega
 |succ s ih =>
  intro t m h Q ht htb hm1 hm2 hq
  have hlen:=zE4 t
  refine zAg.of_sem (fn:=Tryz.f124) Tryz.func124 rfl (by kernel_rfl) (by rw [Tryz.ntmps124];simp) (enters_of Tryz.func124 (by kernel_rfl) (by kernel_rfl)) ?_
  repeat with_reducible refine zAb fun bq hbq=>?_
  refine zAf (by simp only [zAm,gtOf,zAk];exact rfl) ?_
  simp only [go_sem,↓reduceIte]
  intro p hp
  refine zAe ?_;subst hbq
  repeat with_reducible refine zAb fun bq hbq=>?_
  refine zAf (by simp only [zAm,gtOf,zAk];exact rfl) ?_
  simp only [go_sem,↓reduceIte]
  refine zAe ?_;subst hbq
  repeat with_reducible refine zAb fun bq hbq=>?_
  refine zAf (by simp only [zAm,gtOf,zAk];exact rfl) ?_
  simp only [go_sem,↓reduceIte]
  refine zAe ?_;subst hbq
  repeat with_reducible refine zAb fun bq hbq=>?_
  refine zA6 fun cq hcq=>?_
  subst hcq
  refine zAz (fun k τ h'=>∃ (i:Nat) (n:Int),k+i=t.args.length∧τ 1=.int .i64 m∧τ 2=.ptr p 0∧τ 5=.int .i64 n∧τ 6=.int .i64 i∧h'=upd h p (some (.cells (zAj t) 27))∧0≤n∧n≤1000000000∧zDx (t.args.drop i) m n+1=zCf t m) t.args.length ?_ ?_
  ·refine ⟨0,0,rfl,?_⟩
   simp only [go_sem,↓reduceIte]
   refine ⟨rfl,by omega,by omega,?_⟩
   obtain ⟨a,b,c,l⟩:=t
   simp only [List.drop_zero,zCf]
  ·intro c hc k τ h' hI
   obtain ⟨i,n,hk,e1,e2,e5,e6,rfl,hn1,hn2,hpart⟩:=hI
   subst hc
   repeat with_reducible refine zAb fun bq hbq=>?_
   refine zAf (by simp only [zAm,gtOf,zAk];exact rfl) ?_
   simp only [go_sem,↓reduceIte,e1,e2,e5,e6]
   by_cases hi:i<t.args.length
   ·have hd:decide (i<t.args.length)=true:=by simpa using hi
    obtain ⟨u,hu⟩:∃ u,t.args[i]?=some u:=⟨_,List.getElem?_eq_getElem hi⟩
    have hdrop:t.args.drop i=u::t.args.drop (i+1):=by
     rw [List.drop_eq_getElem_cons hi]
     rw [List.getElem?_eq_getElem hi] at hu;injection hu with hu;rw [hu]
    simp only [go_sem,↓reduceIte,e1,e2,e5,e6,hd]
    refine zAe ?_;subst hbq
    repeat with_reducible refine zAb fun bq hbq=>?_
    refine zA0 (t:=decide (m>0)) (by simp only [go_sem,↓reduceIte]) ?_ ?_
    ·intro hnm
     have hnm':m>0:=by simpa using hnm
     obtain ⟨r,hr⟩:=zB7 t.args i hu
     have hsz:=zDl t i hu
     have hb:=(zWk u.size).1 u (m - 1) (Nat.le_refl _)
     have hg:zOg n (zCf u (m - 1))=(if zCf u (m - 1)>n then zCf u (m - 1) else n):=rfl
     have hg2:0≤zOg n (zCf u (m - 1))∧zOg n (zCf u (m - 1))≤1000000000:=by unfold zOg;split <;> omega
     refine zBk ?_
     refine zAe ?_;subst hbq
     repeat with_reducible refine zAb fun bq hbq=>?_
     refine zA6 fun cq hcq=>?_
     subst hcq
     repeat with_reducible refine zAb fun bq hbq=>?_
     refine zAf (by simp only [zAm,gtOf,zAk];exact rfl) ?_
     simp only [go_sem,↓reduceIte,e1,e2,e5,e6,hd,zA3 (m - 1) (by omega),hi,hr]
     refine ih u (m - 1) _ _ (by omega) (by omega) (by omega) (by omega) ?_
     simp only [go_sem,↓reduceIte,e1,e2,e5,e6,← hg]
     refine zBe ?_
     refine zAe ?_;subst hbq
     repeat with_reducible refine zAb fun bq hbq=>?_
     refine zAf (by simp only [zAm,gtOf,zAk];exact rfl) ?_
     simp only [go_sem,↓reduceIte,e6,zA3 ((i:Int)+1) (by omega)]
     refine zAp (m:=k - 1) (by omega) ⟨i+1,zOg n (zCf u (m - 1)),by omega,?_⟩
     simp only [go_sem,↓reduceIte,e1,e2]
     rw [hdrop,zDx,if_pos hnm'] at hpart
     exact ⟨rfl,hg2.1,hg2.2,hpart⟩
    ·intro hnm
     have hnm':¬ m>0:=by simpa using hnm
     rw [hdrop,zDx,if_neg hnm'] at hpart
     refine zC6 ?_
     repeat first|(with_reducible refine zCk ?_;clear hbq bq)|with_reducible refine zCl ?_|with_reducible refine zBu ?_|with_reducible refine zBq ?_|(with_reducible refine zCs ?_ ?_;focus rfl)
     refine zAe ?_;subst hbq
     repeat with_reducible refine zAb fun bq hbq=>?_
     refine zAf (by simp only [zAm,gtOf,zAk];exact rfl) ?_
     simp only [go_sem,↓reduceIte,e5,zA3 (n+1) (by omega)]
     refine zAe ?_;subst hbq
     refine zDw (by rw [Tryz.results124]) (zAh.one hp) ?_
     simp only [go_sem,↓reduceIte,zAo,Option.some.injEq,exists_eq_left']
     exact zBj (by rw [hpart]) hq
   ·have hd:decide (i<t.args.length)=false:=by simpa using hi
    rw [List.drop_eq_nil_of_le (by omega),zDx] at hpart
    simp only [go_sem,↓reduceIte,e1,e2,e5,e6,hd]
    refine zAe ?_;subst hbq
    repeat with_reducible refine zAb fun bq hbq=>?_
    refine zA0 (t:=false) (by simp only [go_sem,↓reduceIte]) ?_ ?_
    ·intro hf;cases hf
    ·intro _
     refine zC6 ?_
     repeat first|(with_reducible refine zCk ?_;clear hbq bq)|with_reducible refine zCl ?_|with_reducible refine zBu ?_|with_reducible refine zBq ?_|(with_reducible refine zCs ?_ ?_;focus rfl)
     refine zAe ?_;subst hbq
     repeat with_reducible refine zAb fun bq hbq=>?_
     refine zAf (by simp only [zAm,gtOf,zAk];exact rfl) ?_
     simp only [go_sem,↓reduceIte,e5,zA3 (n+1) (by omega)]
     refine zAe ?_;subst hbq
     refine zDw (by rw [Tryz.results124]) (zAh.one hp) ?_
     simp only [go_sem,↓reduceIte,zAo,Option.some.injEq,exists_eq_left']
     exact zBj (by rw [hpart]) hq
def zDt (t:Term):Int:=if zBt t 4000>4000 then 2 else if zCf t 100>100 then 5 else 0
theorem zKt:∀ (s:Nat),(∀ (t:Term) (m:Int),t.size≤s→zBt t m≤m→zBt t m=t.size)∧(∀ (l:List Term) (m n:Int),sizes l≤s→zDp l m n≤m→zDp l m n=n+sizes l):=by
 intro s
 induction s with
 |zero =>
  refine ⟨fun t m ht=>?_,fun l m n hl=>?_⟩
  ·obtain ⟨a,b,c,l⟩:=t
   rw [Term.size] at ht;omega
  ·cases l with
   |nil=>intro _;rw [zDp,sizes];omega
   |cons t ts=>obtain ⟨a,b,c,l⟩:=t;rw [sizes,Term.size] at hl;omega
 |succ s ih =>
  have ht:∀ (t:Term) (m:Int),t.size≤s+1→zBt t m≤m→zBt t m=t.size:=by
   intro t m ht hm
   obtain ⟨a,b,c,l⟩:=t
   rw [Term.size] at ht ⊢
   rw [zBt] at hm ⊢
   have:=ih.2 l m 1 (by omega) hm
   omega
  refine ⟨ht,fun l=>?_⟩
  induction l with
  |nil=>intro m n _ _;rw [zDp,sizes];omega
  |cons t ts ihl =>
   intro m n hl hm
   rw [sizes] at hl ⊢
   have h0:=(zGc (sizes (t::ts))).2 (t::ts) m n (Nat.le_refl _)
   have hnm:n≤m:=by omega
   rw [zDp,if_pos hnm] at hm ⊢
   have h1:=(zGc (sizes ts)).2 ts m (n+zBt t (m - n)) (Nat.le_refl _)
   have h2:=ht t (m - n) (by omega) (by omega)
   have h3:=ihl m (n+zBt t (m - n)) (by omega) hm
   omega
theorem zIg (t:Term) (h:¬ zBt t 4000>4000):t.size≤4000:=by
 have:=(zKt t.size).1 t 4000 (Nat.le_refl _) (by omega)
 omega
theorem zTj (t:Term) (h:zAd) (Q:AOut→zAd→Prop) (hq:Q (.ret (.int .i64 (zDt t))) h):zAg Tryz.prog 78 [enc t] h Q:=by
 refine zAg.of_sem (fn:=Tryz.f78) Tryz.func78 rfl (by kernel_rfl) (by rw [Tryz.ntmps78];simp) (enters_of Tryz.func78 (by kernel_rfl) (by kernel_rfl)) ?_
 repeat with_reducible refine zAb fun bq hbq=>?_
 refine zAf (by simp only [zAm,gtOf,zAk];exact rfl) ?_
 simp only [go_sem,↓reduceIte]
 intro p hp
 refine zAe ?_;subst hbq
 repeat with_reducible refine zAb fun bq hbq=>?_
 repeat with_reducible refine zAb fun bq hbq=>?_
 refine zA6 fun cq hcq=>?_
 subst hcq
 repeat with_reducible refine zAb fun bq hbq=>?_
 refine zAf (by simp only [zAm,gtOf,zAk];exact rfl) ?_
 simp only [go_sem,↓reduceIte]
 refine z03 t.size t 4000 _ _ (Nat.le_refl _) (by decide) (by decide) ?_
 simp only [go_sem,↓reduceIte]
 refine zAe ?_;subst hbq
 repeat with_reducible refine zAb fun bq hbq=>?_
 refine zA0 (t:=decide (zBt t 4000>4000)) (by simp only [go_sem,↓reduceIte]) ?_ ?_
 ·intro hc
  have hc':zBt t 4000>4000:=by simpa using hc
  repeat with_reducible refine zAb fun bq hbq=>?_
  refine zAf (by simp only [zAm,gtOf,zAk];exact rfl) ?_
  simp only [go_sem,↓reduceIte]
  refine zAe ?_;subst hbq
  refine zB9 ?_
  repeat first|(with_reducible refine zDd ?_;clear hbq bq)|with_reducible refine zDj ?_|with_reducible refine zCr ?_|with_reducible refine zCb ?_
  refine zEh (by rw [Tryz.results78]) (zAh.one hp) ?_
  simp only [go_sem,↓reduceIte,zAo,Option.some.injEq,exists_eq_left']
  exact zBj (by simp [zDt,hc']) hq
 ·intro hc
  have hc':¬ zBt t 4000>4000:=by simpa using hc
  have hsz:=zIg t hc'
  repeat with_reducible refine zAb fun bq hbq=>?_
  refine zAf (by simp only [zAm,gtOf,zAk];exact rfl) ?_
  simp only [go_sem,↓reduceIte]
  refine z8q t.size t 100 _ _ (Nat.le_refl _) (by omega) (by omega) (by decide) ?_
  simp only [go_sem,↓reduceIte]
  refine zAe ?_;subst hbq
  repeat with_reducible refine zAb fun bq hbq=>?_
  refine zA0 (t:=decide (zCf t 100>100)) (by simp only [go_sem,↓reduceIte]) ?_ ?_
  ·intro hc2
   have hc2':zCf t 100>100:=by simpa using hc2
   repeat with_reducible refine zAb fun bq hbq=>?_
   refine zAf (by simp only [zAm,gtOf,zAk];exact rfl) ?_
   simp only [go_sem,↓reduceIte]
   refine zAe ?_;subst hbq
   refine zB9 ?_
   repeat first|(with_reducible refine zDd ?_;clear hbq bq)|with_reducible refine zDj ?_|with_reducible refine zCr ?_|with_reducible refine zCb ?_
   refine zEh (by rw [Tryz.results78]) (zAh.one hp) ?_
   simp only [go_sem,↓reduceIte,zAo,Option.some.injEq,exists_eq_left']
   exact zBj (by simp [zDt,hc',hc2']) hq
  ·intro hc2
   have hc2':¬ zCf t 100>100:=by simpa using hc2
   refine zBk ?_
   refine zBe ?_
   refine zAe ?_;subst hbq
   repeat with_reducible refine zAb fun bq hbq=>?_
   refine zAf (by simp only [zAm,gtOf,zAk];exact rfl) ?_
   simp only [go_sem,↓reduceIte]
   refine zAe ?_;subst hbq
   refine zDw (by rw [Tryz.results78]) (zAh.one hp) ?_
   simp only [go_sem,↓reduceIte,zAo,Option.some.injEq,exists_eq_left']
   exact zBj (by simp [zDt,hc',hc2']) hq
def fewF (t:Term):Bool:=decide (zBt t 4000≤60)||decide (zBt t 4000>4000)
theorem z9n (t:Term) (h:zAd) (Q:AOut→zAd→Prop) (hq:Q (.ret (.bool (fewF t))) h):zAg Tryz.prog 56 [enc t] h Q:=by
 refine zAg.of_sem (fn:=Tryz.f56) Tryz.func56 rfl (by kernel_rfl) (by rw [Tryz.ntmps56];simp) (enters_of Tryz.func56 (by kernel_rfl) (by kernel_rfl)) ?_
 repeat with_reducible refine zAb fun bq hbq=>?_
 refine zAf (by simp only [zAm,gtOf,zAk];exact rfl) ?_
 simp only [go_sem,↓reduceIte]
 intro p hp
 refine zAe ?_;subst hbq
 repeat with_reducible refine zAb fun bq hbq=>?_
 refine zAf (by simp only [zAm,gtOf,zAk];exact rfl) ?_
 simp only [go_sem,↓reduceIte]
 refine zYv t.size t 4000 _ _ (Nat.le_refl _) (by decide) (by decide) ?_
 simp only [go_sem,↓reduceIte]
 refine zAe ?_;subst hbq
 repeat with_reducible refine zAb fun bq hbq=>?_
 refine zAf (by simp only [zAm,gtOf,zAk];exact rfl) ?_
 simp only [go_sem,↓reduceIte]
 cases hc:decide (zBt t 4000≤60)
 all_goals
  simp only [go_sem,↓reduceIte,hc]
  refine zAe ?_;subst hbq
  refine zDw (by rw [Tryz.results56]) (zAh.one hp) ?_
  simp only [go_sem,↓reduceIte,zAo,Option.some.injEq,exists_eq_left']
  exact zBj (by simp [fewF,hc]) hq
def Asks {α:Type} (P:Program) (enc:α→AV) (g:FuncId) (first cap:List AV) (l:List α) (f:α→Bool) (h:zAd):Prop :=
 ∀ (i:Nat) (u:α),l[i]?=some u→(∀ (j:Nat) (v:α),j<i→l[j]?=some v→f v=false)→∀ (h':zAd) (Q:AOut→zAd→Prop),zAh h' h→Q (.ret (.bool (f u))) h'→zAg P g (first++[enc u]++cap) h' Q
def zH0 {α:Type} (f:α→Bool):List α→Int→Int
 |[],_=>-1
 |u::l,i=>if f u then i else zH0 f l (i+1)
theorem zWw (l:List Term) (g:FuncId) (first cap:List AV) (f:Term→Bool) (h:zAd) (Q:AOut→zAd→Prop) (hl:l.length≤1000000000) (hf:Asks Tryz.prog enc g first cap l f h) (hq:Q (.ret (.int .i64 (zH0 f l 0))) h) :
  zAg Tryz.prog 153 [.list 4 (encs l) l.length .none,.func (.func g) first cap] h Q:=by
 refine zAg.of_sem (fn:=Tryz.f153) Tryz.func153 rfl (by kernel_rfl) (by rw [Tryz.ntmps153];simp) (enters_of Tryz.func153 (by kernel_rfl) (by kernel_rfl)) ?_
 repeat with_reducible refine zAb fun bq hbq=>?_
 refine zAf (by simp only [zAm,gtOf,zAk];exact rfl) ?_
 simp only [go_sem,↓reduceIte]
 refine zAe ?_;subst hbq
 repeat with_reducible refine zAb fun bq hbq=>?_
 refine zAf (by simp only [zAm,gtOf,zAk];exact rfl) ?_
 simp only [go_sem,↓reduceIte]
 refine zAe ?_;subst hbq
 repeat with_reducible refine zAb fun bq hbq=>?_
 repeat with_reducible refine zAb fun bq hbq=>?_
 refine zA6 fun cq hcq=>?_
 subst hcq
 refine zAz (fun k τ h'=>∃ i:Nat,k+i=l.length∧τ 0=.list 4 (encs l) l.length .none∧τ 1=.func (.func g) first cap∧τ 7=.int .i64 l.length∧τ 8=.int .i64 i∧zAh h' h∧(∀ (j:Nat) (v:Term),j<i→l[j]?=some v→f v=false)∧zH0 f (l.drop i) i=zH0 f l 0) l.length ?_ ?_
 ·exact ⟨0,rfl,rfl,rfl,rfl,rfl,zAh.refl h,fun j v hj=>absurd hj (Nat.not_lt_zero _),rfl⟩
 ·intro c hc k τ h' hI
  obtain ⟨i,hk,e0,e1,e7,e8,hless,hno,hix⟩:=hI
  subst hc
  repeat with_reducible refine zAb fun bq hbq=>?_
  refine zAf (by simp only [zAm,gtOf,zAk];exact rfl) ?_
  by_cases hi:i<l.length
  ·have hd:decide (i<l.length)=true:=by simpa using hi
   obtain ⟨u,hu⟩:∃ u,l[i]?=some u:=⟨_,List.getElem?_eq_getElem hi⟩
   obtain ⟨r,hr⟩:=zB7 l i hu
   have hdrop:l.drop i=u::l.drop (i+1):=by
    rw [List.drop_eq_getElem_cons hi]
    rw [List.getElem?_eq_getElem hi] at hu;injection hu with hu;rw [hu]
   rw [hdrop,zH0] at hix
   simp only [go_sem,↓reduceIte,e7,e8,hd]
   refine zAe ?_;subst hbq
   repeat with_reducible refine zAb fun bq hbq=>?_
   refine zA0 (t:=true) (by simp only [go_sem,↓reduceIte]) ?_ ?_
   ·intro _
    refine zBk ?_
    refine zAe ?_;subst hbq
    repeat with_reducible refine zAb fun bq hbq=>?_
    refine zA6 fun cq hcq=>?_
    subst hcq
    repeat with_reducible refine zAb fun bq hbq=>?_
    refine zAf (by simp only [zAm,gtOf,zAk];exact rfl) ?_
    simp only [go_sem,↓reduceIte,e8]
    refine zAe ?_;subst hbq
    repeat with_reducible refine zAb fun bq hbq=>?_
    refine zAf (by simp only [zAm,gtOf,zAk];exact rfl) ?_
    simp only [go_sem,↓reduceIte,e0,e1,hi,hr]
    refine hf i u hu hno _ _ hless ?_
    simp only [go_sem,↓reduceIte]
    refine zAe ?_;subst hbq
    repeat with_reducible refine zAb fun bq hbq=>?_
    refine zA0 (t:=f u) (by simp only [go_sem,↓reduceIte]) ?_ ?_
    ·intro hfu
     rw [if_pos hfu] at hix
     repeat with_reducible refine zAb fun bq hbq=>?_
     refine zAf (by simp only [zAm,gtOf,zAk];exact rfl) ?_
     simp only [go_sem,↓reduceIte]
     refine zAe ?_;subst hbq
     refine zB9 ?_
     repeat first|(with_reducible refine zDd ?_;clear hbq bq)|with_reducible refine zDj ?_|with_reducible refine zCr ?_|with_reducible refine zCb ?_
     rw [← hix] at hq
     refine zBx (h':=h) (by rw [Tryz.results153]) hless ?_ hq
     simp only [go_sem,↓reduceIte,zAo,Option.some.injEq,exists_eq_left']
     exact LeAV.refl _
    ·intro hfu
     rw [if_neg (by rw [hfu];decide)] at hix
     refine zBk ?_
     refine zBe ?_
     refine zAe ?_;subst hbq
     repeat with_reducible refine zAb fun bq hbq=>?_
     refine zAf (by simp only [zAm,gtOf,zAk];exact rfl) ?_
     simp only [go_sem,↓reduceIte,e8,zA3 ((i:Int)+1) (by omega)]
     refine zAp (m:=k - 1) (by omega) ⟨i+1,by omega,?_⟩
     simp only [go_sem,↓reduceIte,e0,e1,e7]
     refine ⟨rfl,hless,fun j v hj hv=>?_,hix⟩
     by_cases e:j=i
     ·subst e;rw [hu] at hv;injection hv with hv;subst hv;exact hfu
     ·exact hno j v (by omega) hv
   ·intro hf;cases hf
  ·have hd:decide (i<l.length)=false:=by simpa using hi
   rw [List.drop_eq_nil_of_le (by omega),zH0] at hix
   simp only [go_sem,↓reduceIte,e7,e8,hd]
   refine zAe ?_;subst hbq
   repeat with_reducible refine zAb fun bq hbq=>?_
   refine zA0 (t:=false) (by simp only [go_sem,↓reduceIte]) ?_ ?_
   ·intro hf;cases hf
   ·intro _
    refine zC6 ?_
    repeat first|(with_reducible refine zCk ?_;clear hbq bq)|with_reducible refine zCl ?_|with_reducible refine zBu ?_|with_reducible refine zBq ?_|(with_reducible refine zCs ?_ ?_;focus rfl)
    refine zAe ?_;subst hbq
    repeat with_reducible refine zAb fun bq hbq=>?_
    refine zAf (by simp only [zAm,gtOf,zAk];exact rfl) ?_
    simp only [go_sem,↓reduceIte]
    refine zAe ?_;subst hbq
    rw [← hix] at hq
    refine zC3 (h':=h) (by rw [Tryz.results153]) hless ?_ hq
    simp only [go_sem,↓reduceIte,zAo,Option.some.injEq,exists_eq_left']
    exact LeAV.refl _
theorem zNi {α:Type} (f:α→Bool):∀ (l:List α) (i:Int),0≤i→decide (zH0 f l i≥0)=l.any f
 |[],i,_=>rfl
 |u::l,i,hi=>by
  rw [zH0,List.any_cons]
  cases hf:f u
  ·simp only [Bool.false_eq_true,if_false,Bool.false_or];exact zNi f l (i+1) (by omega)
  ·simp only [if_true,Bool.true_or];simpa using hi
theorem zG8 (l:List Term) (g:FuncId) (first cap:List AV) (f:Term→Bool) (h:zAd) (Q:AOut→zAd→Prop) (hl:l.length≤1000000000) (hf:Asks Tryz.prog enc g first cap l f h) (hq:Q (.ret (.bool (l.any f))) h) :
  zAg Tryz.prog 121 [.list 4 (encs l) l.length .none,.func (.func g) first cap] h Q:=by
 refine zAg.of_sem (fn:=Tryz.f121) Tryz.func121 rfl (by kernel_rfl) (by rw [Tryz.ntmps121];simp) (enters_of Tryz.func121 (by kernel_rfl) (by kernel_rfl)) ?_
 repeat with_reducible refine zAb fun bq hbq=>?_
 refine zAf (by simp only [zAm,gtOf,zAk];exact rfl) ?_
 simp only [go_sem,↓reduceIte]
 refine zAe ?_;subst hbq
 repeat with_reducible refine zAb fun bq hbq=>?_
 refine zAf (by simp only [zAm,gtOf,zAk];exact rfl) ?_
 simp only [go_sem,↓reduceIte]
 refine zWw l g first cap f h _ hl hf ?_
 simp only [go_sem,↓reduceIte]
 refine zAe ?_;subst hbq
 refine zDw (by rw [Tryz.results121]) (zAh.refl h) ?_
 simp only [go_sem,↓reduceIte,zAo,Option.some.injEq,exists_eq_left']
 exact zBj (by rw [← zNi f l 0 (by decide)]) hq
theorem z2y (a b:Term) (h:zAd) (r:Nat) (hr:h r=some (.cells (zAj a) 27)) (Q:AOut→zAd→Prop) (hq:Q (.ret (.bool (isF a b))) h):zAg Tryz.prog 154 [enc b,.ptr r 0] h Q:=by
 refine zAg.of_sem (fn:=Tryz.f154) Tryz.func154 rfl (by kernel_rfl) (by rw [Tryz.ntmps154];simp) (enters_of Tryz.func154 (by kernel_rfl) (by kernel_rfl)) ?_
 repeat with_reducible refine zAb fun bq hbq=>?_
 refine zAf (by simp only [zAm,gtOf,zAk];exact rfl) ?_
 simp only [go_sem,↓reduceIte]
 intro p hp
 have hne:=zAc hp hr
 refine zAe ?_;subst hbq
 repeat with_reducible refine zAb fun bq hbq=>?_
 refine zAf (by simp only [zAm,gtOf,zAk];exact rfl) ?_
 simp only [go_sem,↓reduceIte,hne,hr]
 refine yHk a b _ _ ?_
 simp only [go_sem,↓reduceIte]
 refine zAe ?_;subst hbq
 refine zDw (by rw [Tryz.results154]) (zAh.one hp) ?_
 simp only [go_sem,↓reduceIte,zAo,Option.some.injEq,exists_eq_left']
 exact hq
end Go.Proofs.YthkjmiejaoomcaaGreat.Am
