/- Part of the proof of a law of layer 5: own texts, joined. -/
import Derived.Test.YthkjmiejaoomcaaGreatRg
import Derived.Test.YthkjmiejaoomcaaGreatRh
set_option linter.unusedVariables false
set_option linter.unusedSimpArgs false
set_option linter.unnecessarySimpa false
namespace Go.Proofs.YthkjmiejaoomcaaGreat.Am
open Go Go.RowKit Go.Proofs
set_option linter.unusedVariables false
set_option linter.unusedSimpArgs false
set_option maxRecDepth 100000
set_option maxHeartbeats 1000000
attribute [local go_sem] cSeq cDr cOne zEf zD8 panK zEt zCe panC zLj cOp zA8 zKj aop zAv zFb List.getD_cons_zero List.getD_cons_succ AV.known AV.cells if_true if_false cond_true cond_false aPut true_and and_true ofConst ofLeaf zGj zFk zFe zEk btt btf
 zEo zGd zLn zKl aBin aInt zI6 aStr unSl aLen zC5 Option.map_some Option.map_none upd_same zKe Nat.reduceBEq List.drop_zero List.drop_succ_cons List.drop_nil List.take_succ_cons List.take_zero List.head?_cons List.length_cons List.length_nil Nat.reduceAdd Nat.reduceLeDiff Nat.reduceEqDiff List.map_cons List.map_nil Nat.zero_add Nat.add_zero reduceCtorEq Bool.false_eq_true
 zD4 zNm true_implies false_implies implies_true forall_const and_self Bool.not_true Bool.not_false Bool.cond_self zOf zEp aNil zLo aMax aMin aNot List.getElem?_cons_zero List.getElem?_cons_succ zEn zEq zBv AV.flat List.all_cons List.all_nil Bool.and_true Bool.true_and Bool.and_false Bool.false_and Int.natCast_nonneg Int.ofNat_lt Int.toNat_natCast zXd Nat.le_add_left List.append_nil List.contains_cons List.contains_nil Bool.or_true Bool.or_false Bool.true_or Bool.false_or Nat.reduceBEq List.cons_append List.nil_append
 sz_1 by_1 ag_1 tk_1 ze_1 sz_3 by_3 ag_3 tk_3 ze_3 sz_4 by_4 ag_4 tk_4 ze_4 sz_9 by_9 ag_9 tk_9 ze_9
 z07 z3c z4e z0o zZ2 z06 z3b z4d z0n zKg zZ1 z05 z3a z4c z0m zUr zKd zUt z04 z2z
 z4b zXw zCj zZ0 zD2 zFl z4a z0l zDm zKc zKb zKa zJ9 zQc z03 z2y z3z z0k zZz z02
 z2x z3y z0j zZy zJ8 zJ7 zJ6 zJ5 z1n z01 z2w z3x zXv zI1 zZx z00 z2v z3w z0i zZw
 zJ4 zJ3 zJ2 z1m z0z z2u z3v z0h zZv zJ1 zJ0 zJz zJy z1l zL9 zT5 z3u z0g zKv zJx
 zJw zV5 zMz zT4 z3t z0f zKu zIl zJv zJu zJt zXy z0y z2t z3s z0e zZu zJs zJr z1k
 z0x z2s z3r z0d zHf zZt z0w z2r z3q z0c zKf zZs z0v z2q z3p z0b zZr z0u z2p z3o
 z0a zZq zJq zJp z1j z0t z2o z3n zZ9 zZp z0s z2n z3m zZ8 zZo z0r z2m z3l zZ7 zQm
 zZn zP3 zR2 zS4 zO9 zMj zHe zHd zHc zMs zP2 zR1 zS3 zO8 zOa zP1 zR0 zS2 zO7 zN9
 zHb zHa zG9 zQi zP0 zRz zS1 zO6 zN8 zPz zRy zS0 zO5 zN7 zPy zRx zSz zO4 zQ6 zN6
 zPx zRw zSy zO3 zN5 zG8 zG7 zG6 zG5 zQh zPw zRv zSx zO2 zN4 zG4 zG3 zQg zPv zRu
 zSw zO1 zN3 zPu zRt zSv zO0 zN2 zPt zRs zSu zOz zKq zN1 zPs zRr zSt zOy zMi zG2
 zG1 zG0 zGz zMr zPr zRq zSs zOx zQ5 zN0 zPq zRp zSr zOw zQn zNz zPp zRo zSq zOv
 zNy zGy zGx zQf zPo zRn zSp zOu zNx zPn zRm zSo zOt zQ4 zNw zPm zRl zSn zOs zNv
 zGw zGv zGu zGt zQe zPl zRk zSm zOr zMh zMq zPk zRj zSl zOq zMg zGs zMp zPj zRi
 zSk zOp zNu zPi zRh zSj zOo zNt zGr zGq zGp zQd zPh zRg zSi zOn zIw zNs zPg zRf
 zSh zOm zNr zPf zRe zSg zOl zMf zGo zGn zGm zMo zPe zRd zSf zOk zKo zGl zGk zMn
 zPd zRc zSe zOj zQ3 zNq zPc zRb zSd zOi zNp zPb zRa zSc zOh zNo
theorem zNc {α:Type} {c:α→List AV} {z:Nat} (hz:∀ x,(c x).length=z):∀ (l:List α) (k:Nat) {x:α},l[k]?=some x→zBv (l.flatMap c) (k * z) (c x)=l.flatMap c
 |[],k,x,hk=>by simp at hk
 |y::l,0,x,hk=>by
  simp only [List.getElem?_cons_zero,Option.some.injEq] at hk;subst hk
  simp [zBv]
 |y::l,k+1,x,hk=>by
  simp only [List.getElem?_cons_succ] at hk
  have ih:=zNc hz l k hk
  have hl:=hz x
  have hy:=hz y
  simp only [zBv,List.flatMap_cons] at ih ⊢
  rw [List.take_append,List.drop_append,hy,List.take_of_length_le (by rw [hy,Nat.add_mul];omega),List.drop_eq_nil_of_le (by rw [hy,Nat.add_mul];omega)]
  have e1:(k+1) * z - z=k * z:=by rw [Nat.add_mul];omega
  have e2:(k+1) * z+(c x).length - z=k * z+(c x).length:=by rw [Nat.add_mul];omega
  rw [e1,e2,List.nil_append,List.append_assoc,ih]
theorem z9v (l:List Term) (k:Nat) {x:Term} (hk:l[k]?=some x):zBv (encs l) (k * 4) (zAj x)=encs l:=by
 rw [zBt]
 exact zNc (z:=4) (fun _=>rfl) l k hk
theorem yHe:∀ (s:Nat) (t:Term) (h:zAc) (Q:AOut→zAc→Prop),t.size≤s→t.size≤1000000000→Q (.ret (enc t)) h→zAg Tryz.prog 105 [enc t] h Q:=by
 intro s
 induction s with
 |zero=>intro t h Q ht;obtain ⟨a,b,c,l⟩:=t;rw [Term.size] at ht;omega
 |succ s ih =>
  intro t h Q ht hb hq
  have hlen:t.args.length≤1000000000:=by
   obtain ⟨k,n,nm,l⟩:=t
   rw [Term.size] at hb
   have:∀ l:List Term,l.length≤sizes l:=by
    intro l
    induction l with
    |nil=>exact Nat.zero_le _
    |cons x l ih=>obtain ⟨a,b,c,m⟩:=x;rw [sizes,Term.size,List.length_cons];omega
   have:=this l
   simp only
   omega
  refine zAg.of_sem (fn:=Tryz.f105) Tryz.func105 rfl (by kernel_rfl) (by rw [Tryz.ntmps105];simp) (enters_of Tryz.func105 (by kernel_rfl) (by kernel_rfl)) ?_
  repeat with_reducible refine zAb fun bq hbq=>?_
  refine zAf (by simp only [zAl,gtOf,zAk];exact rfl) ?_
  simp only [go_sem,↓reduceIte]
  intro p hp q hq'
  obtain ⟨hne,hq0⟩:=zDa hq'
  refine zAe ?_;subst hbq
  let I:Nat→Env→zAc→Prop:=fun _ τ h'=>τ 1=.ptr p 0∧τ 2=.ptr q 0∧zAh h' h∧(∃ c0,h' q=some (.cells c0 27)∧c0.length=4)∧∃ X,h' p=some (.cells [.int .i64 t.kind,.int .i64 t.n,.str t.name,X] 27)∧((X=.list 4 [] 0 .full∧t.args=[])∨∃ r,X=.sl r 0 t.args.length∧h' r=some (.cells (encs t.args) 27)∧h r=Option.none∧r≠p∧r≠q)
  refine zV1 (I 0) ?_ fun bq hbq τ h' hI=>?_
  ·repeat with_reducible refine zAb fun bq hbq=>?_
   refine zAf (by simp only [zAl,gtOf,zAk];exact rfl) ?_
   simp only [go_sem,↓reduceIte,hne,hne.symm]
   refine yDp t.args _ _ hlen ?_ ?_
   ·intro hnil
    simp only [go_sem,↓reduceIte,hne,hne.symm]
    refine zAm ?_
    refine ⟨rfl,rfl,(((zAh.refl h).new hp).new hq0).new hp,⟨_,by rw [zAa _ _ hne,upd_same],rfl⟩,_,upd_same _ _ _,.inl ⟨rfl,hnil⟩⟩
   ·intro hne' r hr
    have hrp:r≠p∧r≠q∧h r=Option.none:=by
     obtain ⟨e1,h1⟩:=zDa (show upd (upd h p _) q (some _) r=Option.none from hr)
     obtain ⟨e2,h2⟩:=zDa h1
     exact ⟨e2,e1,h2⟩
    simp only [go_sem,↓reduceIte,hne,hne.symm,hrp.1,hrp.1.symm,hrp.2.1,hrp.2.1.symm]
    refine zAm ?_
    refine ⟨rfl,rfl,((((zAh.refl h).new hp).new hq0).new hrp.2.2).new hp,⟨_,by rw [zAa _ _ hne,zAa _ _ hrp.2.1.symm,upd_same],rfl⟩,_,upd_same _ _ _,.inr ⟨r,rfl,?_,hrp.2.2,hrp.1,hrp.2.1⟩⟩
    rw [zAa _ _ hrp.1,upd_same]
  obtain ⟨e1,e2,hl,⟨c0,lq,hc0⟩,X,lp,hX⟩:=hI
  subst hbq
  have hXl:aLen Tryz.prog 25 X=some (.int .i64 t.args.length):=by
   rcases hX with ⟨rfl,e⟩|⟨r,rfl,_⟩
   ·rw [e]
    simp only [go_sem,↓reduceIte]
   ·simp only [go_sem,↓reduceIte]
  repeat with_reducible refine zAb fun bq hbq=>?_
  refine zAf (by simp only [zAl,gtOf,zAk];exact rfl) ?_
  simp only [aLen,zXw] at hXl
  simp only [go_sem,↓reduceIte,e1,lp,hXl]
  refine zAe ?_;subst hbq
  repeat with_reducible refine zAb fun bq hbq=>?_
  refine zA3 fun cq hcq=>?_
  subst hcq
  refine zAx (fun k τ h2=>∃ i:Nat,k+i=t.args.length∧τ 1=.ptr p 0∧τ 2=.ptr q 0∧τ 10=X∧τ 11=.int .i64 t.args.length∧τ 12=.int .i64 i∧zAh h2 h∧h2 q=some (.cells c0 27)∧h2 p=some (.cells [.int .i64 t.kind,.int .i64 t.n,.str t.name,X] 27)∧((X=.list 4 [] 0 .full∧t.args=[])∨∃ r,X=.sl r 0 t.args.length∧h2 r=some (.cells (encs t.args) 27)∧h r=Option.none∧r≠p∧r≠q)) t.args.length ?_ ?_
  ·refine ⟨0,rfl,?_⟩
   simp only [go_sem,↓reduceIte,e1,e2]
   exact ⟨rfl,hl,lq,lp,hX⟩
  ·intro c hc k τ h2 hI
   obtain ⟨i,hk,f1,f2,f10,f11,f12,hl2,mq,mp,hX2⟩:=hI
   subst hc
   repeat with_reducible refine zAb fun bq hbq=>?_
   refine zAf (by simp only [zAl,gtOf,zAk];exact rfl) ?_
   by_cases hi:i<t.args.length
   ·have hd:decide (i<t.args.length)=true:=by simpa using hi
    obtain ⟨u,hu⟩:∃ u,t.args[i]?=some u:=⟨_,List.getElem?_eq_getElem hi⟩
    obtain ⟨rr,hrr⟩:=zB7 t.args i hu
    have hus:=zDp t i hu
    rcases hX2 with ⟨_,e⟩|⟨r,rfl,mr,nr,nrp,nrq⟩
    ·rw [e] at hi;exact absurd hi (Nat.not_lt_zero _)
    simp only [go_sem,↓reduceIte,f11,f12,hd]
    refine zAe ?_;subst hbq
    repeat with_reducible refine zAb fun bq hbq=>?_
    refine zAy (t:=true) (by simp only [go_sem,↓reduceIte]) ?_ ?_
    ·intro _
     refine zBn ?_
     refine zAe ?_;subst hbq
     repeat with_reducible refine zAb fun bq hbq=>?_
     refine zA3 fun cq hcq=>?_
     subst hcq
     repeat with_reducible refine zAb fun bq hbq=>?_
     refine zAf (by simp only [zAl,gtOf,zAk];exact rfl) ?_
     simp only [go_sem,↓reduceIte,f10,f12,hi,mr,hrr]
     intro w hw
     have w1:=zAd hw mp
     have w2:=zAd hw mq
     have w3:=zAd hw mr
     generalize hh3:upd (upd h2 w _) w _=h3
     have x3:=(congrFun hh3.symm w).trans (upd_same _ _ _)
     have p3:=(congrFun hh3.symm p).trans ((zAa _ _ w1).trans ((zAa _ _ w1).trans mp))
     have q3:=(congrFun hh3.symm q).trans ((zAa _ _ w2).trans ((zAa _ _ w2).trans mq))
     have r3:=(congrFun hh3.symm r).trans ((zAa _ _ w3).trans ((zAa _ _ w3).trans mr))
     have hl3:zAh h3 h:=by rw [← hh3];exact (hl2.new (hl2.none hw)).new (hl2.none hw)
     clear hh3
     refine zAe ?_;subst hbq
     repeat with_reducible refine zAb fun bq hbq=>?_
     refine zBb (.take 0 (.take 1 (.take 2 (.take 3 (.one 4 [1] (.take 5 (.one 6 [] (.done)))))))) (by kernel_rfl) (by simp only [zAl,gtOf,zAk];exact rfl) ?_
     simp only [go_sem,↓reduceIte,f1,p3,x3]
     refine ih u _ _ (by omega) (by omega) ?_
     have hle:i * 4+4≤(encs t.args).length:=by rw [zEd];omega
     have hsp:=z9v t.args i hu
     simp only [zBv,List.length_cons,List.length_nil,List.cons_append,List.nil_append,Nat.reduceAdd] at hsp
     simp only [go_sem,↓reduceIte,hi,r3,p3,x3,hle,hsp]
     refine zBf ?_
     refine zAe ?_;subst hbq
     repeat with_reducible refine zAb fun bq hbq=>?_
     refine zAf (by simp only [zAl,gtOf,zAk];exact rfl) ?_
     simp only [go_sem,↓reduceIte,f12,zA6 ((i:Int)+1) (by omega)]
     refine zAp (m:=k - 1) (by omega) ⟨i+1,by omega,?_⟩
     simp only [go_sem,↓reduceIte,f1,f2,f10,f11,nrq.symm,nrp.symm,p3,q3]
     exact ⟨rfl,hl3.new nr,.inr ⟨r,rfl,by simp,nr,nrp,nrq⟩⟩
    ·intro hf;cases hf
   ·have hd:decide (i<t.args.length)=false:=by simpa using hi
    have hdr:List.drop 4 c0=[]:=List.drop_eq_nil_of_le (by omega)
    simp only [go_sem,↓reduceIte,f11,f12,hd]
    refine zAe ?_;subst hbq
    repeat with_reducible refine zAb fun bq hbq=>?_
    refine zAy (t:=false) (by simp only [go_sem,↓reduceIte]) ?_ ?_
    ·intro hf;cases hf
    ·intro _
     refine zC3 ?_
     repeat first|(with_reducible refine zCi ?_;clear hbq bq)|with_reducible refine zCk ?_|with_reducible refine zBx ?_|with_reducible refine zBq ?_|(with_reducible refine zCs ?_ ?_;focus rfl)
     refine zAe ?_;subst hbq
     repeat with_reducible refine zAb fun bq hbq=>?_
     refine zAf (by simp only [zAl,gtOf,zAk];exact rfl) ?_
     rcases hX2 with ⟨rfl,e⟩|⟨r,rfl,mr,nr,nrp,nrq⟩
     ·simp only [go_sem,↓reduceIte,f1,f2,mp,mq,hc0,hdr]
      refine zAe ?_;subst hbq
      refine zCx (v:=enc t) (by rw [Tryz.results105]) (hl2.new hq0) ?_ hq
      simp only [go_sem,↓reduceIte,f2,zAo,Option.some.injEq,exists_eq_left']
      show LeAV _ (AV.agg [_,_,_,AV.list 4 (encs t.args) t.args.length .none])
      rw [e,zBg]
      exact LeAV.agg (.cons (LeAV.refl _) (.cons (LeAV.refl _) (.cons (LeAV.refl _) (.cons (LeAV.list _ _ _ _) .nil))))
     ·simp only [go_sem,↓reduceIte,f1,f2,mp,mq,hc0,hdr]
      refine zAe ?_;subst hbq
      refine zMl (h':=h) (p:=r) (z:=4) (n:=t.args.length) (cs:=encs t.args) (T:=27) (by rw [Tryz.results105]) ?_ (zEd _) (zQ2 _) (hl2.new hq0) nr ?_ hq
      ·rw [zAa _ _ nrq];exact mr
      ·simp only [go_sem,↓reduceIte,f2,zAo,Option.some.injEq,exists_eq_left']
       exact LeF.agg (.cons (LeF.refl _) (.cons (LeF.refl _) (.cons (LeF.refl _) (.cons LeF.here .nil))))
structure Ty where
 name:ByteArray
 args:List Ty
def zB8:List Ty→List AV
 |[]=>[]
 |⟨s,l⟩::ts=>.str s::.list 2 (zB8 l) l.length .none::zB8 ts
abbrev zBz (t:Ty):List AV:=[.str t.name,.list 2 (zB8 t.args) t.args.length .none]
abbrev zMc (t:Ty):AV:=.agg (zBz t)
theorem zE8 (t:Ty) (ts:List Ty):zB8 (t::ts)=.str t.name::.list 2 (zB8 t.args) t.args.length .none::zB8 ts:=by cases t;rw [zB8]
theorem zIf:∀ ts:List Ty,zB8 ts=ts.flatMap zBz
 |[]=>by rw [zB8];rfl
 |t::ts=>by rw [zE8,zIf ts];rfl
theorem zVe (ts:List Ty) (k:Nat) {t:Ty} (hk:ts[k]?=some t):∃ r,(zB8 ts).drop (k * 2)=.str t.name::.list 2 (zB8 t.args) t.args.length .none::r:=by
 rw [zIf]
 exact zQr (z:=2) (fun _=>rfl) ts k hk
theorem zLh:zB8 []=[]:=by rw [zB8]
mutual
def Ty.size:Ty→Nat
 |⟨_,l⟩=>zK0 l+1
def zK0:List Ty→Nat
 |[]=>0
 |t::ts=>t.size+zK0 ts
end
theorem yAm:∀ (l:List Ty) (k:Nat) {t:Ty},l[k]?=some t→t.size≤zK0 l
 |[],k,t,hk=>by simp at hk
 |y::l,0,t,hk=>by simp only [List.getElem?_cons_zero,Option.some.injEq] at hk;subst hk;rw [zK0];omega
 |y::l,k+1,t,hk=>by
  simp only [List.getElem?_cons_succ] at hk
  have:=yAm l k hk
  rw [zK0];omega
theorem zOg (u:Ty) (k:Nat) {t:Ty} (hk:u.args[k]?=some t):t.size<u.size:=by
 have:=yAm u.args k hk
 obtain ⟨c,l⟩:=u
 rw [Ty.size]
 exact Nat.lt_succ_of_le this
theorem zR5:zBa Tryz.prog 40 0 []=some (.list 2 [] 0 .full):=by
 simp only [zBa,zI1,zL9,zKv,zEu];rfl
theorem z90 (ts:List Ty) (h:zAc) (Q:AOut→zAc→Prop) (hn:ts.length≤1000000000) (h0:ts=[]→Q (.ret (.list 2 [] 0 .full)) h) (h1:ts≠[]→∀ p,h p=Option.none→Q (.ret (.sl p 0 ts.length)) (upd h p (some (.cells (zB8 ts) 60)))) :
  zAg Tryz.prog 129 [.list 2 (zB8 ts) ts.length .none] h Q:=by
 refine zAg.of_sem (fn:=Tryz.f129) Tryz.func129 rfl (by kernel_rfl) (by rw [Tryz.ntmps129];simp) (enters_of Tryz.func129 (by kernel_rfl) (by kernel_rfl)) ?_
 repeat refine zAb fun bq hbq=>?_
 refine zAf (by simp only [zAl,gtOf,zAk];exact rfl) ?_
 simp only [go_sem,↓reduceIte]
 refine zAe ?_;subst hbq
 repeat refine zAb fun bq hbq=>?_
 refine zAf (by simp only [zAl,gtOf,zAk];exact rfl) ?_
 by_cases hts:ts=[]
 ·subst hts
  simp only [go_sem,↓reduceIte]
  refine zAe ?_;subst hbq
  repeat refine zAb fun bq hbq=>?_
  refine zK3 (by simp only [go_sem,↓reduceIte]) ?_ ?_
  ·repeat refine zAb fun bq hbq=>?_
   refine zAf (by simp only [zAl,gtOf,zAk];exact rfl) ?_
   simp only [go_sem,↓reduceIte]
   refine zAe ?_;subst hbq
   refine zB3 ?_
   repeat first|(refine zC8 ?_;clear hbq bq)|refine zDb ?_|refine zCr ?_|refine zB6 ?_
   refine zB2 (v:=.list 2 [] 0 .full) (by rw [Tryz.results129]) (zAh.refl h) ?_ (h0 rfl)
   simp only [go_sem,↓reduceIte,zAo,Option.some.injEq,exists_eq_left']
   exact LeAV.nil_full _ _
  ·refine zBn ?_
   refine zAe ?_;subst hbq
   repeat refine zAb fun bq hbq=>?_
   refine zAf (by simp only [zAl,gtOf,zAk];exact rfl) ?_
   simp only [go_sem,↓reduceIte,zR5]
   refine zAz ?_
   simp only [go_sem,↓reduceIte,zR5]
   intro p hp
   rw [zNl zI1 zI1 zL9 zT5 zKv ⟨rfl,by decide⟩ (.inl rfl) (.inl rfl) (by decide)]
   refine zAe ?_;subst hbq
   refine zCx (v:=.list 2 [] 0 .full) (by rw [Tryz.results129]) (zAh.refl h) ?_ (h0 rfl)
   simp only [go_sem,↓reduceIte,zAo,Option.some.injEq,exists_eq_left']
   exact LeAV.refl _
 ·have hl:ts.length≠0:=by simpa using hts
  simp only [go_sem,↓reduceIte,hl]
  refine zAe ?_;subst hbq
  repeat refine zAb fun bq hbq=>?_
  refine zAy (t:=false) (by simp only [go_sem,↓reduceIte]) ?_ ?_
  ·intro hf;cases hf
  ·intro _
   refine zBn ?_
   refine zAe ?_;subst hbq
   repeat refine zAb fun bq hbq=>?_
   refine zAf (by simp only [zAl,gtOf,zAk];exact rfl) ?_
   simp only [go_sem,↓reduceIte,zR5]
   refine zCm ?_
   simp only [go_sem,↓reduceIte,zDh,zR5]
   intro p hp
   rw [zK7 zI1 zI1 zL9 zT5 zKv ⟨rfl,by decide⟩ (.inl rfl) (.inl rfl) rfl hl (by omega)]
   refine zAe ?_;subst hbq
   refine zDr (by rw [Tryz.results129]) (zAh.refl _) ?_
   simp only [go_sem,↓reduceIte,zAo,Option.some.injEq,exists_eq_left']
   exact h1 hts p hp
theorem zE7 (l:List Ty):(zB8 l).length=l.length * 2:=by
 rw [zIf,List.length_flatMap]
 induction l with
 |nil=>rfl
 |cons t l ih=>simp only [List.map_cons,List.sum_cons,List.length_cons,List.length_nil] at ih ⊢;omega
theorem zT0:∀ l:List Ty,(zB8 l).all AV.flat=true
 |[]=>by rw [zB8];rfl
 |t::l=>by rw [zE8];simp only [List.all_cons,AV.flat,zT0 l,Bool.and_self]
theorem z6x (l:List Ty) (k:Nat) {x:Ty} (hk:l[k]?=some x):zBv (zB8 l) (k * 2) (zBz x)=zB8 l:=by
 rw [zIf]
 exact zNc (z:=2) (fun _=>rfl) l k hk
theorem z9z:∀ (s:Nat) (t:Ty) (h:zAc) (Q:AOut→zAc→Prop),t.size≤s→t.size≤1000000000→Q (.ret (zMc t)) h→zAg Tryz.prog 85 [zMc t] h Q:=by
 intro s
 induction s with
 |zero=>intro t h Q ht;obtain ⟨c,l⟩:=t;rw [Ty.size] at ht;omega
 |succ s ih =>
  intro t h Q ht hb hq
  have hlen:t.args.length≤1000000000:=by
   obtain ⟨nm,l⟩:=t
   rw [Ty.size] at hb
   have:∀ l:List Ty,l.length≤zK0 l:=by
    intro l
    induction l with
    |nil=>exact Nat.zero_le _
    |cons x l ih=>obtain ⟨c,m⟩:=x;rw [zK0,Ty.size,List.length_cons];omega
   have:=this l
   simp only
   omega
  refine zAg.of_sem (fn:=Tryz.f85) Tryz.func85 rfl (by kernel_rfl) (by rw [Tryz.ntmps85];simp) (enters_of Tryz.func85 (by kernel_rfl) (by kernel_rfl)) ?_
  repeat refine zAb fun bq hbq=>?_
  refine zAf (by simp only [zAl,gtOf,zAk];exact rfl) ?_
  simp only [go_sem,↓reduceIte]
  intro p hp q hq'
  obtain ⟨hne,hq0⟩:=zDa hq'
  refine zAe ?_;subst hbq
  let I:Nat→Env→zAc→Prop:=fun _ τ h'=>τ 1=.ptr p 0∧τ 2=.ptr q 0∧zAh h' h∧(∃ c0,h' q=some (.cells c0 60)∧c0.length=2)∧∃ X,h' p=some (.cells [.str t.name,X] 60)∧((X=.list 2 [] 0 .full∧t.args=[])∨∃ r,X=.sl r 0 t.args.length∧h' r=some (.cells (zB8 t.args) 60)∧h r=Option.none∧r≠p∧r≠q)
  refine zV1 (I 0) ?_ fun bq hbq τ h' hI=>?_
  ·repeat refine zAb fun bq hbq=>?_
   refine zAf (by simp only [zAl,gtOf,zAk];exact rfl) ?_
   simp only [go_sem,↓reduceIte,hne,hne.symm]
   refine z90 t.args _ _ hlen ?_ ?_
   ·intro hnil
    simp only [go_sem,↓reduceIte,hne,hne.symm]
    refine zAm ?_
    refine ⟨rfl,rfl,(((zAh.refl h).new hp).new hq0).new hp,⟨_,by rw [zAa _ _ hne,upd_same],rfl⟩,_,upd_same _ _ _,.inl ⟨rfl,hnil⟩⟩
   ·intro hne' r hr
    have hrp:r≠p∧r≠q∧h r=Option.none:=by
     obtain ⟨e1,h1⟩:=zDa (show upd (upd h p _) q (some _) r=Option.none from hr)
     obtain ⟨e2,h2⟩:=zDa h1
     exact ⟨e2,e1,h2⟩
    simp only [go_sem,↓reduceIte,hne,hne.symm,hrp.1,hrp.1.symm,hrp.2.1,hrp.2.1.symm]
    refine zAm ?_
    refine ⟨rfl,rfl,((((zAh.refl h).new hp).new hq0).new hrp.2.2).new hp,⟨_,by rw [zAa _ _ hne,zAa _ _ hrp.2.1.symm,upd_same],rfl⟩,_,upd_same _ _ _,.inr ⟨r,rfl,?_,hrp.2.2,hrp.1,hrp.2.1⟩⟩
    rw [zAa _ _ hrp.1,upd_same]
  obtain ⟨e1,e2,hl,⟨c0,lq,hc0⟩,X,lp,hX⟩:=hI
  subst hbq
  have hXl:aLen Tryz.prog 40 X=some (.int .i64 t.args.length):=by
   rcases hX with ⟨rfl,e⟩|⟨r,rfl,_⟩
   ·rw [e]
    simp only [go_sem,↓reduceIte]
   ·simp only [go_sem,↓reduceIte]
  repeat refine zAb fun bq hbq=>?_
  refine zAf (by simp only [zAl,gtOf,zAk];exact rfl) ?_
  simp only [aLen,zXv] at hXl
  simp only [go_sem,↓reduceIte,e1,lp,hXl]
  refine zAe ?_;subst hbq
  repeat refine zAb fun bq hbq=>?_
  refine zA3 fun cq hcq=>?_
  subst hcq
  refine zAx (fun k τ h2=>∃ i:Nat,k+i=t.args.length∧τ 1=.ptr p 0∧τ 2=.ptr q 0∧τ 10=X∧τ 11=.int .i64 t.args.length∧τ 12=.int .i64 i∧zAh h2 h∧h2 q=some (.cells c0 60)∧h2 p=some (.cells [.str t.name,X] 60)∧((X=.list 2 [] 0 .full∧t.args=[])∨∃ r,X=.sl r 0 t.args.length∧h2 r=some (.cells (zB8 t.args) 60)∧h r=Option.none∧r≠p∧r≠q)) t.args.length ?_ ?_
  ·refine ⟨0,rfl,?_⟩
   simp only [go_sem,↓reduceIte,e1,e2]
   exact ⟨rfl,hl,lq,lp,hX⟩
  ·intro c hc k τ h2 hI
   obtain ⟨i,hk,f1,f2,f10,f11,f12,hl2,mq,mp,hX2⟩:=hI
   subst hc
   repeat refine zAb fun bq hbq=>?_
   refine zAf (by simp only [zAl,gtOf,zAk];exact rfl) ?_
   by_cases hi:i<t.args.length
   ·have hd:decide (i<t.args.length)=true:=by simpa using hi
    obtain ⟨u,hu⟩:∃ u,t.args[i]?=some u:=⟨_,List.getElem?_eq_getElem hi⟩
    obtain ⟨rr,hrr⟩:=zVe t.args i hu
    have hus:=zOg t i hu
    rcases hX2 with ⟨_,e⟩|⟨r,rfl,mr,nr,nrp,nrq⟩
    ·rw [e] at hi;exact absurd hi (Nat.not_lt_zero _)
    simp only [go_sem,↓reduceIte,f11,f12,hd]
    refine zAe ?_;subst hbq
    repeat refine zAb fun bq hbq=>?_
    refine zAy (t:=true) (by simp only [go_sem,↓reduceIte]) ?_ ?_
    ·intro _
     refine zBn ?_
     refine zAe ?_;subst hbq
     repeat refine zAb fun bq hbq=>?_
     refine zA3 fun cq hcq=>?_
     subst hcq
     repeat refine zAb fun bq hbq=>?_
     refine zAf (by simp only [zAl,gtOf,zAk];exact rfl) ?_
     simp only [go_sem,↓reduceIte,f10,f12,hi,mr,hrr]
     intro w hw
     have w1:=zAd hw mp
     have w2:=zAd hw mq
     have w3:=zAd hw mr
     generalize hh3:upd (upd h2 w _) w _=h3
     have x3:=(congrFun hh3.symm w).trans (upd_same _ _ _)
     have p3:=(congrFun hh3.symm p).trans ((zAa _ _ w1).trans ((zAa _ _ w1).trans mp))
     have q3:=(congrFun hh3.symm q).trans ((zAa _ _ w2).trans ((zAa _ _ w2).trans mq))
     have r3:=(congrFun hh3.symm r).trans ((zAa _ _ w3).trans ((zAa _ _ w3).trans mr))
     have hl3:zAh h3 h:=by rw [← hh3];exact (hl2.new (hl2.none hw)).new (hl2.none hw)
     clear hh3
     refine zAe ?_;subst hbq
     repeat refine zAb fun bq hbq=>?_
     refine zBb (.take 0 (.take 1 (.take 2 (.take 3 (.one 4 [1] (.take 5 (.one 6 [] (.done)))))))) (by kernel_rfl) (by simp only [zAl,gtOf,zAk];exact rfl) ?_
     simp only [go_sem,↓reduceIte,f1,p3,x3]
     refine ih u _ _ (by omega) (by omega) ?_
     have hle:i * 2+2≤(zB8 t.args).length:=by rw [zE7];omega
     have hsp:=z6x t.args i hu
     simp only [zBv,List.length_cons,List.length_nil,List.cons_append,List.nil_append,Nat.reduceAdd] at hsp
     simp only [go_sem,↓reduceIte,hi,r3,p3,x3,hle,hsp]
     refine zBf ?_
     refine zAe ?_;subst hbq
     repeat refine zAb fun bq hbq=>?_
     refine zAf (by simp only [zAl,gtOf,zAk];exact rfl) ?_
     simp only [go_sem,↓reduceIte,f12,zA6 ((i:Int)+1) (by omega)]
     refine zAp (m:=k - 1) (by omega) ⟨i+1,by omega,?_⟩
     simp only [go_sem,↓reduceIte,f1,f2,f10,f11,nrq.symm,nrp.symm,p3,q3]
     exact ⟨rfl,hl3.new nr,.inr ⟨r,rfl,by simp,nr,nrp,nrq⟩⟩
    ·intro hf;cases hf
   ·have hd:decide (i<t.args.length)=false:=by simpa using hi
    have hdr:List.drop 2 c0=[]:=List.drop_eq_nil_of_le (by omega)
    simp only [go_sem,↓reduceIte,f11,f12,hd]
    refine zAe ?_;subst hbq
    repeat refine zAb fun bq hbq=>?_
    refine zAy (t:=false) (by simp only [go_sem,↓reduceIte]) ?_ ?_
    ·intro hf;cases hf
    ·intro _
     refine zC3 ?_
     repeat first|(refine zCi ?_;clear hbq bq)|refine zCk ?_|refine zBx ?_|refine zBq ?_|refine zCs rfl ?_
     refine zAe ?_;subst hbq
     repeat refine zAb fun bq hbq=>?_
     refine zAf (by simp only [zAl,gtOf,zAk];exact rfl) ?_
     rcases hX2 with ⟨rfl,e⟩|⟨r,rfl,mr,nr,nrp,nrq⟩
     ·simp only [go_sem,↓reduceIte,f1,f2,mp,mq,hc0,hdr]
      refine zAe ?_;subst hbq
      refine zCx (v:=zMc t) (by rw [Tryz.results85]) (hl2.new hq0) ?_ hq
      simp only [go_sem,↓reduceIte,f2,zAo,Option.some.injEq,exists_eq_left']
      show LeAV _ (AV.agg [_,AV.list 2 (zB8 t.args) t.args.length .none])
      rw [e,zLh]
      exact LeAV.agg (.cons (LeAV.refl _) (.cons (LeAV.list _ _ _ _) .nil))
     ·simp only [go_sem,↓reduceIte,f1,f2,mp,mq,hc0,hdr]
      refine zAe ?_;subst hbq
      refine zMl (h':=h) (p:=r) (z:=2) (n:=t.args.length) (cs:=zB8 t.args) (T:=60) (by rw [Tryz.results85]) ?_ (zE7 _) (zT0 _) (hl2.new hq0) nr ?_ hq
      ·rw [zAa _ _ nrq];exact mr
      ·simp only [go_sem,↓reduceIte,f2,zAo,Option.some.injEq,exists_eq_left']
       exact LeF.agg (.cons (LeF.refl _) (.cons LeF.here .nil))
structure Va where
 level:Int
 type:Ty
 is:Bool
 t:Term
abbrev zBo (v:Va):List AV:=[.int .i64 v.level,.str v.type.name,.list 2 (zB8 v.type.args) v.type.args.length .none,.bool v.is,.int .i64 v.t.kind,.int .i64 v.t.n,.str v.t.name,.list 4 (encs v.t.args) v.t.args.length .none]
abbrev encV (v:Va):AV:=.agg (zBo v)
def zAn (l:List Va):List AV:=l.flatMap zBo
theorem zEy (ts:List Va) (k:Nat) {v:Va} (hk:ts[k]?=some v):∃ r,(zAn ts).drop (k * 8)=zBo v++r:=zQr (z:=8) (fun _=>rfl) ts k hk
theorem zEe (l:List Va):(zAn l).length=l.length * 8:=by
 rw [zAn,List.length_flatMap]
 induction l with
 |nil=>rfl
 |cons t l ih=>simp only [List.map_cons,List.sum_cons,List.length_cons,List.length_nil] at ih ⊢;omega
theorem zL2:∀ l:List Va,(zAn l).all AV.flat=true
 |[]=>rfl
 |t::l=>by
  have:=zL2 l
  unfold zAn at this ⊢
  rw [List.flatMap_cons,List.all_append,this];rfl
theorem zVt {l m:List AV} {off:Nat} (h:(l.drop off).take m.length=m):zBv l off m=l:=by
 unfold zBv
 have h1:m++l.drop (off+m.length)=l.drop off:=by
  rw [← List.drop_drop]
  conv=>lhs;lhs;rw [← h]
  exact List.take_append_drop _ _
 rw [h1]
 exact List.take_append_drop _ _
theorem zR7:zBa Tryz.prog 22 0 []=some (.list 8 [] 0 .full):=by
 simp only [zBa,zKg,zMz,zKu,zEu];rfl
theorem z92 (ts:List Va) (h:zAc) (Q:AOut→zAc→Prop) (hn:ts.length≤1000000000) (h0:ts=[]→Q (.ret (.list 8 [] 0 .full)) h) (h1:ts≠[]→∀ p,h p=Option.none→Q (.ret (.sl p 0 ts.length)) (upd h p (some (.cells (zAn ts) 62)))) :
  zAg Tryz.prog 104 [.list 8 (zAn ts) ts.length .none] h Q:=by
 refine zAg.of_sem (fn:=Tryz.f104) Tryz.func104 rfl (by kernel_rfl) (by rw [Tryz.ntmps104];simp) (enters_of Tryz.func104 (by kernel_rfl) (by kernel_rfl)) ?_
 repeat refine zAb fun bq hbq=>?_
 refine zAf (by simp only [zAl,gtOf,zAk];exact rfl) ?_
 simp only [go_sem,↓reduceIte]
 refine zAe ?_;subst hbq
 repeat refine zAb fun bq hbq=>?_
 refine zAf (by simp only [zAl,gtOf,zAk];exact rfl) ?_
 by_cases hts:ts=[]
 ·subst hts
  simp only [go_sem,↓reduceIte]
  refine zAe ?_;subst hbq
  repeat refine zAb fun bq hbq=>?_
  refine zK3 (by simp only [go_sem,↓reduceIte]) ?_ ?_
  ·repeat refine zAb fun bq hbq=>?_
   refine zAf (by simp only [zAl,gtOf,zAk];exact rfl) ?_
   simp only [go_sem,↓reduceIte]
   refine zAe ?_;subst hbq
   refine zB3 ?_
   repeat first|(refine zC8 ?_;clear hbq bq)|refine zDb ?_|refine zCr ?_|refine zB6 ?_
   refine zB2 (v:=.list 8 [] 0 .full) (by rw [Tryz.results104]) (zAh.refl h) ?_ (h0 rfl)
   simp only [go_sem,↓reduceIte,zAo,Option.some.injEq,exists_eq_left']
   exact LeAV.nil_full _ _
  ·refine zBn ?_
   refine zAe ?_;subst hbq
   repeat refine zAb fun bq hbq=>?_
   refine zAf (by simp only [zAl,gtOf,zAk];exact rfl) ?_
   simp only [go_sem,↓reduceIte,zR7]
   refine zAz ?_
   simp only [go_sem,↓reduceIte,zR7]
   intro p hp
   rw [zNl zKg zKg zMz zT4 zKu ⟨rfl,by decide⟩ (.inl rfl) (.inl rfl) (by decide)]
   refine zAe ?_;subst hbq
   refine zCx (v:=.list 8 [] 0 .full) (by rw [Tryz.results104]) (zAh.refl h) ?_ (h0 rfl)
   simp only [go_sem,↓reduceIte,zAo,Option.some.injEq,exists_eq_left']
   exact LeAV.refl _
 ·have hl:ts.length≠0:=by simpa using hts
  simp only [go_sem,↓reduceIte,hl]
  refine zAe ?_;subst hbq
  repeat refine zAb fun bq hbq=>?_
  refine zAy (t:=false) (by simp only [go_sem,↓reduceIte]) ?_ ?_
  ·intro hf;cases hf
  ·intro _
   refine zBn ?_
   refine zAe ?_;subst hbq
   repeat refine zAb fun bq hbq=>?_
   refine zAf (by simp only [zAl,gtOf,zAk];exact rfl) ?_
   simp only [go_sem,↓reduceIte,zR7]
   refine zCm ?_
   simp only [go_sem,↓reduceIte,zDh,zR7]
   intro p hp
   rw [zK7 zKg zKg zMz zT4 zKu ⟨rfl,by decide⟩ (.inl rfl) (.inl rfl) rfl hl (by omega)]
   refine zAe ?_;subst hbq
   refine zDr (by rw [Tryz.results104]) (zAh.refl _) ?_
   simp only [go_sem,↓reduceIte,zAo,Option.some.injEq,exists_eq_left']
   exact h1 hts p hp
theorem zY3 (vs:List Va) (i:Nat) {v:Va} (hv:vs[i]?=some v) (o n:Nat) (hn:o+n≤8):(List.drop (i * 8+o) (zAn vs)).take n=((zBo v).drop o).take n:=by
 obtain ⟨r,hr⟩:=zEy vs i hv
 rw [← List.drop_drop,hr,List.drop_append,List.take_append]
 have:(zBo v).length=8:=rfl
 rw [show n - ((zBo v).drop o).length=0 by rw [List.length_drop,this];omega]
 simp
theorem z7g (sz:Nat) (c:List AV) (n:Nat) (t:Tok):zCf Tryz.prog 24 [(0,.list sz c n t)]=some (.agg [.list sz c n t]):=by
 simp only [zCf,zUr,zUt,zEu]
 rfl
theorem yDs (r n:Nat):zCf Tryz.prog 24 [(0,.sl r 0 n)]=some (.agg [.sl r 0 n]):=by
 simp only [zCf,zUr,zUt,zEu]
 rfl
theorem zF3 (vs:List Va) (h:zAc) (Q:AOut→zAc→Prop) (hn:vs.length≤1000000000) (hs:∀ v ∈ vs,v.type.size≤1000000000∧v.t.size≤1000000000) (h0:vs=[]→Q (.ret (.agg [.list 8 [] 0 .full])) h)
  (h1:vs≠[]→∀ p,h p=Option.none→Q (.ret (.agg [.sl p 0 vs.length])) (upd h p (some (.cells (zAn vs) 62)))):zAg Tryz.prog 58 [.agg [.list 8 (zAn vs) vs.length .none]] h Q:=by
 refine zAg.of_sem (fn:=Tryz.f58) Tryz.func58 rfl (by kernel_rfl) (by rw [Tryz.ntmps58];simp) (enters_of Tryz.func58 (by kernel_rfl) (by kernel_rfl)) ?_
 repeat refine zAb fun bq hbq=>?_
 refine zAf (by simp only [zAl,gtOf,zAk];exact rfl) ?_
 simp only [go_sem,↓reduceIte]
 intro p hp q hq'
 obtain ⟨hne,hq0⟩:=zDa hq'
 refine zAe ?_;subst hbq
 let I:Env→zAc→Prop:=fun τ h'=>τ 2=.ptr q 0∧zAh h' h∧(∃ c0,h' q=some (.cells c0 24)∧c0.length=1)∧((τ 3=.list 8 [] 0 .full∧vs=[])∨∃ r,τ 3=.sl r 0 vs.length∧h' r=some (.cells (zAn vs) 62)∧h r=Option.none∧r≠q∧vs≠[])
 refine zV1 (I) ?_ fun bq hbq τ h' hI=>?_
 ·repeat refine zAb fun bq hbq=>?_
  refine zAf (by simp only [zAl,gtOf,zAk];exact rfl) ?_
  simp only [go_sem,↓reduceIte,hne,hne.symm]
  refine z92 vs _ _ hn ?_ ?_
  ·intro hnil
   simp only [go_sem,↓reduceIte,hne,hne.symm]
   refine zAm ?_
   exact ⟨rfl,((zAh.refl h).new hp).new hq0,⟨_,by rw [upd_same],rfl⟩,.inl ⟨rfl,hnil⟩⟩
  ·intro hne' r hr
   have hrp:r≠p∧r≠q∧h r=Option.none:=by
    obtain ⟨e1,h1⟩:=zDa (show upd (upd h p _) q (some _) r=Option.none from hr)
    obtain ⟨e2,h2⟩:=zDa h1
    exact ⟨e2,e1,h2⟩
   simp only [go_sem,↓reduceIte,hne,hne.symm,hrp.1,hrp.1.symm,hrp.2.1,hrp.2.1.symm]
   refine zAm ?_
   exact ⟨rfl,(((zAh.refl h).new hp).new hq0).new hrp.2.2,⟨_,by rw [zAa _ _ hrp.2.1.symm,upd_same],rfl⟩,.inr ⟨r,rfl,upd_same _ _ _,hrp.2.2,hrp.2.1,hne'⟩⟩
 obtain ⟨e2,hl,⟨c0,lq,hc0⟩,hX⟩:=hI
 subst hbq
 have hdr:List.drop 1 c0=[]:=List.drop_eq_nil_of_le (by omega)
 repeat refine zAb fun bq hbq=>?_
 refine zAf (by simp only [zAl,gtOf,zAk];exact rfl) ?_
 rcases hX with ⟨e3,hnil⟩|⟨r,e3,lr,nr,nrq,hne'⟩
 ·simp only [go_sem,↓reduceIte,e3]
  refine zAe ?_;subst hbq
  repeat refine zAb fun bq hbq=>?_
  refine zA3 fun cq hcq=>?_
  subst hcq
  refine zAx (fun k τ h2=>τ 2=.ptr q 0∧τ 3=.list 8 [] 0 .full∧τ 10=.int .i64 0∧τ 11=.int .i64 0∧h2=h') 0 ?_ ?_
  ·simp only [go_sem,↓reduceIte,e2,e3]
   exact rfl
  ·intro c hc k τ h2 hI
   obtain ⟨f2,f3,f10,f11,rfl⟩:=hI
   subst hc
   repeat refine zAb fun bq hbq=>?_
   refine zAf (by simp only [zAl,gtOf,zAk];exact rfl) ?_
   simp only [go_sem,↓reduceIte,f10,f11,Int.lt_irrefl,Nat.lt_irrefl,decide_false]
   refine zAe ?_;subst hbq
   repeat refine zAb fun bq hbq=>?_
   refine zAy (t:=false) (by simp only [go_sem,↓reduceIte]) ?_ ?_
   ·intro hf;cases hf
   ·intro _
    refine zC3 ?_
    repeat first|(refine zCi ?_;clear hbq bq)|refine zCk ?_|refine zBx ?_|refine zBq ?_|refine zCs rfl ?_
    refine zAe ?_;subst hbq
    repeat refine zAb fun bq hbq=>?_
    refine zAf (by simp only [zAl,gtOf,zAk];exact rfl) ?_
    simp only [go_sem,↓reduceIte,f2,f3,lq,hc0,hdr,z7g]
    refine zAe ?_;subst hbq
    refine zCx (v:=.agg [.list 8 [] 0 .full]) (by rw [Tryz.results58]) (hl.new hq0) ?_ (h0 hnil)
    simp only [go_sem,↓reduceIte,f2,f10,f11,zAo,Option.some.injEq,exists_eq_left']
    exact LeAV.refl _
 ·simp only [go_sem,↓reduceIte,e3]
  refine zAe ?_;subst hbq
  repeat refine zAb fun bq hbq=>?_
  refine zA3 fun cq hcq=>?_
  subst hcq
  refine zAx (fun k τ h2=>∃ i:Nat,k+i=vs.length∧τ 2=.ptr q 0∧τ 3=.sl r 0 vs.length∧τ 9=.sl r 0 vs.length∧τ 10=.int .i64 vs.length∧τ 11=.int .i64 i∧zAh h2 h∧h2 q=some (.cells c0 24)∧h2 r=some (.cells (zAn vs) 62)) vs.length ?_ ?_
  ·refine ⟨0,rfl,?_⟩
   simp only [go_sem,↓reduceIte,e2,e3]
   exact ⟨rfl,hl,lq,lr⟩
  ·intro c hc k τ h2 hI
   obtain ⟨i,hk,f2,f3,f9,f10,f11,hl2,mq,mr⟩:=hI
   subst hc
   repeat refine zAb fun bq hbq=>?_
   refine zAf (by simp only [zAl,gtOf,zAk];exact rfl) ?_
   by_cases hi:i<vs.length
   ·have hd:decide (i<vs.length)=true:=by simpa using hi
    obtain ⟨u,hu⟩:∃ u,vs[i]?=some u:=⟨_,List.getElem?_eq_getElem hi⟩
    obtain ⟨rr,hrr⟩:=zEy vs i hu
    have hsz:=hs u (List.mem_of_getElem? hu)
    simp only [go_sem,↓reduceIte,f10,f11,hd]
    refine zAe ?_;subst hbq
    repeat refine zAb fun bq hbq=>?_
    refine zAy (t:=true) (by simp only [go_sem,↓reduceIte]) ?_ ?_
    ·intro _
     refine zBn ?_
     refine zAe ?_;subst hbq
     repeat refine zAb fun bq hbq=>?_
     refine zA3 fun cq hcq=>?_
     subst hcq
     repeat refine zAb fun bq hbq=>?_
     refine zAf (by simp only [zAl,gtOf,zAk];exact rfl) ?_
     simp only [go_sem,↓reduceIte,f9,f11,hi,mr,hrr]
     intro w hw
     have w2:=zAd hw mq
     have w3:=zAd hw mr
     generalize hh3:upd (upd h2 w _) w _=h3
     have x3:=(congrFun hh3.symm w).trans (upd_same _ _ _)
     have q3:=(congrFun hh3.symm q).trans ((zAa _ _ w2).trans ((zAa _ _ w2).trans mq))
     have r3:=(congrFun hh3.symm r).trans ((zAa _ _ w3).trans ((zAa _ _ w3).trans mr))
     have hl3:zAh h3 h:=by rw [← hh3];exact (hl2.new (hl2.none hw)).new (hl2.none hw)
     clear hh3
     refine zAe ?_;subst hbq
     repeat refine zAb fun bq hbq=>?_
     refine zBb (.take 0 (.take 1 (.take 2 (.take 3 (.take 4 (.take 5 (.take 7 (.take 8 (.one 6 [8] (.one 9 [] (.take 10 (.take 11 (.one 12 [] (.take 13 (.take 14 (.one 15 [] (.done))))))))))))))))) (by kernel_rfl) (by simp only [zAl,gtOf,zAk];exact rfl) ?_
     simp only [go_sem,↓reduceIte,f3,x3]
     refine z9z u.type.size u.type _ _ (Nat.le_refl _) hsz.1 ?_
     simp only [go_sem,↓reduceIte,x3]
     refine yHe u.t.size u.t _ _ (Nat.le_refl _) hsz.2 ?_
     have p1:=zY3 vs i hu 1 2 (by omega)
     have p2:=zY3 vs i hu 4 4 (by omega)
     have s1:zBv (zAn vs) (i * 8+1) (zBz u.type)=zAn vs:=zVt p1
     have s2:zBv (zAn vs) (i * 8+4) (zAj u.t)=zAn vs:=zVt p2
     simp only [zBv,List.length_cons,List.length_nil,List.cons_append,List.nil_append,Nat.reduceAdd] at s1 s2
     have hle1:i * 8+1+2≤(zAn vs).length:=by rw [zEe];omega
     have hle2:i * 8+4+4≤(zAn vs).length:=by rw [zEe];omega
     simp only [go_sem,↓reduceIte,f3,hi,r3,x3,hle1,hle2,s1,s2]
     refine zBf ?_
     refine zAe ?_;subst hbq
     repeat refine zAb fun bq hbq=>?_
     refine zAf (by simp only [zAl,gtOf,zAk];exact rfl) ?_
     simp only [go_sem,↓reduceIte,f11,zA6 ((i:Int)+1) (by omega)]
     refine zAp (m:=k - 1) (by omega) ⟨i+1,by omega,?_⟩
     simp only [go_sem,↓reduceIte,f2,f3,f9,f10,nrq.symm,q3]
     exact ⟨rfl,(hl3.new nr).new nr⟩
    ·intro hf;cases hf
   ·have hd:decide (i<vs.length)=false:=by simpa using hi
    simp only [go_sem,↓reduceIte,f10,f11,hd]
    refine zAe ?_;subst hbq
    repeat refine zAb fun bq hbq=>?_
    refine zAy (t:=false) (by simp only [go_sem,↓reduceIte]) ?_ ?_
    ·intro hf;cases hf
    ·intro _
     refine zC3 ?_
     repeat first|(refine zCi ?_;clear hbq bq)|refine zCk ?_|refine zBx ?_|refine zBq ?_|refine zCs rfl ?_
     refine zAe ?_;subst hbq
     repeat refine zAb fun bq hbq=>?_
     refine zAf (by simp only [zAl,gtOf,zAk];exact rfl) ?_
     simp only [go_sem,↓reduceIte,f2,f3,mq,hc0,hdr,yDs]
     refine zAe ?_;subst hbq
     refine zCx (v:=.agg [.sl r 0 vs.length]) (by rw [Tryz.results58]) ((hl2.with mr).new (by rw [zAa _ _ nrq.symm];exact hq0)) ?_ (h1 hne' r nr)
     simp only [go_sem,↓reduceIte,f2,zAo,Option.some.injEq,exists_eq_left']
     exact LeAV.refl _
def zBp (t:Ty):Bool:=(t.args.length:Int)==0&&!(t.name.toList==(⟨#[45,62]⟩:ByteArray).toList)&&decide ((t.name.size:Int)>0)&&decide ((t.name.size:Int)≤40)
theorem z6i (t:Ty) (h:zAc) (Q:AOut→zAc→Prop) (hq:Q (.ret (.bool (zBp t))) h):zAg Tryz.prog 83 [zMc t] h Q:=by
 refine zAg.of_sem (fn:=Tryz.f83) Tryz.func83 rfl (by kernel_rfl) (by rw [Tryz.ntmps83];simp) (enters_of Tryz.func83 (by kernel_rfl) (by kernel_rfl)) ?_
 repeat refine zAb fun bq hbq=>?_
 refine zAf (by simp only [zAl,gtOf,zAk];exact rfl) ?_
 simp only [go_sem,↓reduceIte]
 intro p hp
 refine zAe ?_;subst hbq
 repeat refine zAb fun bq hbq=>?_
 refine zAf (by simp only [zAl,gtOf,zAk];exact rfl) ?_
 have fin:zAh (upd h p (some (AObj.cells (zBz t) 60))) h:=zAh.one hp
 cases h1:((t.args.length:Int)==0) <;> cases h2:(t.name.toList==(⟨#[45,62]⟩:ByteArray).toList) <;> cases h3:decide ((t.name.size:Int)>0)
 all_goals
  simp only [go_sem,↓reduceIte,h1,h2,h3]
  refine zAe ?_;subst hbq
  refine zDr (by rw [Tryz.results83]) fin ?_
  simp only [go_sem,↓reduceIte,zAo,Option.some.injEq,exists_eq_left']
  exact zBk (by simp only [zBp,h1,h2,h3,Bool.and_false,Bool.false_and,Bool.true_and,Bool.not_true,Bool.not_false]) hq
def zTv (t:Term):Bool:=t.kind==0&&t.n==0&&t.name.toList==(⟨#[]⟩:ByteArray).toList&&(t.args.length:Int)==0
theorem yGm (t:Term) (h:zAc) (Q:AOut→zAc→Prop) (hq:Q (.ret (.bool (zTv t))) h):zAg Tryz.prog 117 [enc t] h Q:=by
 refine zAg.of_sem (fn:=Tryz.f117) Tryz.func117 rfl (by kernel_rfl) (by rw [Tryz.ntmps117];simp) (enters_of Tryz.func117 (by kernel_rfl) (by kernel_rfl)) ?_
 repeat refine zAb fun bq hbq=>?_
 refine zAf (by simp only [zAl,gtOf,zAk];exact rfl) ?_
 simp only [go_sem,↓reduceIte]
 intro p hp
 refine zAe ?_;subst hbq
 repeat refine zAb fun bq hbq=>?_
 refine zAf (by simp only [zAl,gtOf,zAk];exact rfl) ?_
 have fin:zAh (upd h p (some (AObj.cells (zAj t) 27))) h:=zAh.one hp
 cases h1:(t.kind==0) <;> cases h2:(t.n==0) <;> cases h3:(t.name.toList==(⟨#[]⟩:ByteArray).toList)
 all_goals
  simp only [go_sem,↓reduceIte,h1,h2,h3]
  refine zAe ?_;subst hbq
  refine zDr (by rw [Tryz.results117]) fin ?_
  simp only [go_sem,↓reduceIte,zAo,Option.some.injEq,exists_eq_left']
  exact zBk (by simp only [zTv,h1,h2,h3,Bool.and_false,Bool.false_and,Bool.true_and]) hq
def zCb:Ty→Ty
 |⟨n,[a,b]⟩=>zCb b
 |⟨n,l⟩=>⟨n,l⟩
theorem zVr {t:Ty} (h:((t.args.length:Int)==2)=true):∃ a b,t.args=[a,b]∧zCb t=zCb b∧b.size<t.size:=by
 obtain ⟨n,l⟩:=t
 match l,h with
 |[a,b],_=>exact ⟨a,b,rfl,by rw [zCb],zOg ⟨n,[a,b]⟩ 1 rfl⟩
 |[],h=>simp at h
 |[a],h=>simp at h
 |a::b::c::l,h=>simp at h;omega
theorem zVs {t:Ty} (h:((t.args.length:Int)==2)=false):zCb t=t:=by
 obtain ⟨n,l⟩:=t
 match l,h with
 |[a,b],h=>simp at h
 |[],_=>rw [zCb];intro a b e;cases e
 |[a],_=>rw [zCb];intro a b e;cases e
 |a::b::c::l,_=>rw [zCb];intro a b e;cases e
theorem zPa (t:Ty) (h:zAc) (Q:AOut→zAc→Prop) (hq:Q (.ret (zMc (zCb t))) h):zAg Tryz.prog 159 [zMc t] h Q:=by
 refine zAg.of_sem (fn:=Tryz.f159) Tryz.func159 rfl (by kernel_rfl) (by rw [Tryz.ntmps159];simp) (enters_of Tryz.func159 (by kernel_rfl) (by kernel_rfl)) ?_
 repeat with_reducible refine zAb fun bq hbq=>?_
 refine zAf (by simp only [zAl,gtOf,zAk];exact rfl) ?_
 simp only [go_sem,↓reduceIte]
 intro p hp q hq'
 obtain ⟨hne,hq0⟩:=zDa hq'
 refine zAe ?_;subst hbq
 repeat with_reducible refine zAb fun bq hbq=>?_
 refine zA3 fun cq hcq=>?_
 subst hcq
 refine zAx (fun k τ h'=>∃ u:Ty,k=u.size∧zCb u=zCb t∧τ 1=.ptr p 0∧τ 2=.ptr q 0∧zAh h' h∧h' p=some (.cells (zBz u) 60)∧∃ c0,h' q=some (.cells c0 60)∧c0.length=2) t.size ?_ ?_
 ·refine ⟨t,rfl,rfl,rfl,rfl,((zAh.refl h).new hp).new hq0,by rw [zAa _ _ hne.symm,upd_same],_,upd_same _ _ _,rfl⟩
 ·intro c hc k τ h2 hI
  obtain ⟨u,rfl,hu,e1,e2,hl,lp,c0,lq,hc0⟩:=hI
  subst hc
  have hdr:List.drop 2 c0=[]:=List.drop_eq_nil_of_le (by omega)
  repeat with_reducible refine zAb fun bq hbq=>?_
  refine zAf (by simp only [zAl,gtOf,zAk];exact rfl) ?_
  cases hk:((u.args.length:Int)==2)
  ·simp only [go_sem,↓reduceIte,e1,lp,hk]
   refine zAe ?_;subst hbq
   repeat with_reducible refine zAb fun bq hbq=>?_
   refine zAy (t:=false) (by simp only [go_sem,↓reduceIte]) ?_ ?_
   ·intro hf;cases hf
   ·intro _
    refine zC3 ?_
    repeat first|(with_reducible refine zCi ?_;clear hbq bq)|with_reducible refine zCk ?_|with_reducible refine zBx ?_|with_reducible refine zBq ?_|(with_reducible refine zCs ?_ ?_;focus rfl)
    refine zAe ?_;subst hbq
    repeat with_reducible refine zAb fun bq hbq=>?_
    refine zAf (by simp only [zAl,gtOf,zAk];exact rfl) ?_
    simp only [go_sem,↓reduceIte,e1,e2,lp,lq,hc0,hdr]
    refine zAe ?_;subst hbq
    rw [← hu,zVs hk] at hq
    refine zCx (h':=h) (v:=zMc u) (by rw [Tryz.results159]) (hl.new hq0) ?_ hq
    simp only [go_sem,↓reduceIte,e2,zAo,Option.some.injEq,exists_eq_left']
    exact LeAV.refl _
  ·simp only [go_sem,↓reduceIte,e1,lp,hk]
   refine zAe ?_;subst hbq
   repeat with_reducible refine zAb fun bq hbq=>?_
   refine zAy (t:=true) (by simp only [go_sem,↓reduceIte]) ?_ ?_
   ·intro _
    refine zBn ?_
    refine zAe ?_;subst hbq
    obtain ⟨a,b,hab,ht,hsz⟩:=zVr hk
    repeat with_reducible refine zAb fun bq hbq=>?_
    refine zA3 fun cq hcq=>?_
    subst hcq
    repeat with_reducible refine zAb fun bq hbq=>?_
    refine zAf (by simp only [zAl,gtOf,zAk];exact rfl) ?_
    obtain ⟨r,hr⟩:=zVe [a,b] 1 (t:=b) rfl
    have lp':h2 p=some (.cells [.str u.name,.list 2 (zB8 [a,b]) 2 .none] 60):=by rw [lp];show _=some (AObj.cells [_,AV.list 2 (zB8 [a,b]) [a,b].length .none] 60);rw [← hab]
    simp only [Nat.reduceMul] at hr
    simp only [go_sem,↓reduceIte,e1,lp',show (0:Int)≤1 from by decide,show (1:Int)<((2:Nat):Int) from by decide,show (1:Int).toNat=1 from rfl,Nat.reduceMul,hr]
    refine zBf ?_
    refine zAp hsz ⟨b,rfl,by rw [← ht,hu],?_⟩
    simp only [go_sem,↓reduceIte,e1,e2,hne,lq]
    exact ⟨hl.new hp,c0,rfl,hc0⟩
   ·intro hf;cases hf
def zA7:Term:=⟨0,0,⟨#[]⟩,[]⟩
def zCc (k n:Int) (s:ByteArray) (args:List Term) (d:Int):Int × Int × ByteArray :=
 if k==2&&decide (n≥d) then
  let a:=args.getD ((args.length:Int) - 1 - (n - d)).toNat zA7
  (a.kind,if a.kind==2 then a.n+d else a.n,a.name)
 else (k,n,s)
mutual
def zBi:Term→List Term→Int→Term
 |⟨k,n,s,l⟩,us,d=>⟨(zCc k n s us d).1,(zCc k n s us d).2.1,(zCc k n s us d).2.2,zBc l us (inner k d)⟩
def zBc:List Term→List Term→Int→List Term
 |[],_,_=>[]
 |t::ts,us,d=>zBi t us d::zBc ts us d
end
mutual
def zQu:Term→Nat→Int→Bool
 |⟨k,n,_,l⟩,m,d=>(k != 2||decide (n<d+m))&&zJo l m (inner k d)
def zJo:List Term→Nat→Int→Bool
 |[],_,_=>true
 |t::ts,m,d=>zQu t m d&&zJo ts m d
end
theorem zYx:∀ (l us:List Term) (d:Int) (i:Nat),(zBc l us d)[i]?=(l[i]?).map fun t=>zBi t us d
 |[],us,d,i=>by simp [zBc]
 |t::l,us,d,0=>by simp [zBc]
 |t::l,us,d,i+1=>by simp [zBc,zYx l us d i]
theorem zCw:∀ (l us:List Term) (d:Int),(zBc l us d).length=l.length
 |[],us,d=>by simp [zBc]
 |t::l,us,d=>by simp [zBc,zCw l us d]
theorem zYy:∀ (l:List Term) (m:Nat) (d:Int) (i:Nat) {t:Term},zJo l m d=true→l[i]?=some t→zQu t m d=true
 |[],m,d,i,t,_,hi=>by simp at hi
 |u::l,m,d,0,t,ho,hi=>by
  simp only [List.getElem?_cons_zero,Option.some.injEq] at hi;subst hi
  rw [zJo,Bool.and_eq_true] at ho;exact ho.1
 |u::l,m,d,i+1,t,ho,hi=>by
  simp only [List.getElem?_cons_succ] at hi
  rw [zJo,Bool.and_eq_true] at ho;exact zYy l m d i ho.2 hi
theorem z6r:∀ (s:Nat) (t:Term) (us:List Term) (d:Int) (h:zAc) (Q:AOut→zAc→Prop),t.size≤s→0≤d→d+t.size≤1000000000→us.length≤1000000000→(∀ a ∈ us,-1000000000≤a.n∧a.n≤1000000000)→zQu t us.length d=true →
  Q (.ret (enc (zBi t us d))) h→zAg Tryz.prog 143 [enc t,.list 4 (encs us) us.length .none,.int .i64 d] h Q:=by
 intro s
 induction s with
 |zero=>intro t us d h Q ht;obtain ⟨a,b,c,l⟩:=t;rw [Term.size] at ht;omega
 |succ s ih =>
  intro t us d h Q ht hd0 hd1 has hn hok hq
  refine zAg.of_sem (fn:=Tryz.f143) Tryz.func143 rfl (by kernel_rfl) (by rw [Tryz.ntmps143];simp) (enters_of Tryz.func143 (by kernel_rfl) (by kernel_rfl)) ?_
  repeat with_reducible refine zAb fun bq hbq=>?_
  refine zAf (by simp only [zAl,gtOf,zAk];exact rfl) ?_
  simp only [go_sem,↓reduceIte]
  intro p hp q hq'
  have hne:=zDa hq'
  refine zAe ?_;subst hbq
  repeat with_reducible refine zAb fun bq hbq=>?_
  refine zAf (by simp only [zAl,gtOf,zAk];exact rfl) ?_
  simp only [go_sem,↓reduceIte,hne.1,hne.1.symm]
  intro r hr
  have hrp:r≠p∧r≠q∧h r=Option.none:=by
   by_cases e1:r=q
   ·subst e1;rw [if_pos rfl] at hr;cases hr
   ·by_cases e2:r=p
    ·subst e2;rw [if_neg e1,if_pos rfl] at hr;cases hr
    ·rw [if_neg e1,if_neg e2] at hr;exact ⟨e2,e1,hr⟩
  refine zAe ?_;subst hbq
  refine zV1 (fun τ h'=>τ 1=.list 4 (encs us) us.length .none∧τ 3=.ptr p 0∧τ 6=.ptr q 0∧τ 7=.ptr r 0∧τ 8=.int .i64 (inner t.kind d)∧zAh h' h∧h' p=some (.cells (zAj t) 27)∧(∃ c0,h' q=some (.cells c0 27)∧c0.length=4)∧∃ lst,h' r=some (.cells [.int .i64 (zCc t.kind t.n t.name us d).1,.int .i64 (zCc t.kind t.n t.name us d).2.1,.str (zCc t.kind t.n t.name us d).2.2,lst] 27)) ?_ fun bq hbq τ h' hI=>?_
  ·repeat with_reducible refine zAb fun bq hbq=>?_
   refine zA3 fun cq hcq=>?_
   subst hcq
   repeat with_reducible refine zAb fun bq hbq=>?_
   refine zAf (by simp only [zAl,gtOf,zAk];exact rfl) ?_
   simp only [go_sem,↓reduceIte,hne.1,hne.1.symm,hrp.1,hrp.1.symm,hrp.2.1,hrp.2.1.symm]
   refine zAe ?_;subst hbq
   repeat with_reducible refine zAb fun bq hbq=>?_
   refine zAy (t:=t.kind==5) (by simp only [go_sem,↓reduceIte]) ?_ ?_
   ·intro hk5
    have hk2:(t.kind==2)=false:=by simp only [beq_iff_eq] at hk5;rw [hk5];rfl
    repeat with_reducible refine zAb fun bq hbq=>?_
    refine zAf (by simp only [zAl,gtOf,zAk];exact rfl) ?_
    simp only [go_sem,↓reduceIte,zA6 (d+1) (by omega)]
    refine zBf ?_
    refine zAm ?_
    simp only [go_sem,↓reduceIte,hne.1,hne.1.symm,hrp.1,hrp.1.symm,hrp.2.1,hrp.2.1.symm,inner,hk5,zCc,hk2]
    exact ⟨((zAh.refl h).new hp |>.new hne.2 |>.new hrp.2.2 |>.new hrp.2.2),⟨_,rfl,rfl⟩,_,rfl⟩
   ·intro hk5
    have hinn:inner t.kind d=d:=by unfold inner;rw [hk5];rfl
    repeat with_reducible refine zAb fun bq hbq=>?_
    refine zAf (by simp only [zAl,gtOf,zAk];exact rfl) ?_
    cases hk2:(t.kind==2)
    ·simp only [go_sem,↓reduceIte,hne.1,hne.1.symm,hrp.1,hrp.1.symm,hrp.2.1,hrp.2.1.symm,hk2]
     refine zAe ?_;subst hbq
     repeat with_reducible refine zAb fun bq hbq=>?_
     refine zAy (t:=false) (by simp only [go_sem,↓reduceIte]) ?_ ?_
     ·intro hf;cases hf
     ·intro _
      refine zBn ?_
      refine zBf ?_
      refine zAm ?_
      simp only [go_sem,↓reduceIte,hne.1,hne.1.symm,hrp.1,hrp.1.symm,hrp.2.1,hrp.2.1.symm,hinn,zCc,hk2]
      exact ⟨((zAh.refl h).new hp |>.new hne.2 |>.new hrp.2.2 |>.new hrp.2.2),⟨_,rfl,rfl⟩,_,rfl⟩
    ·simp only [go_sem,↓reduceIte,hne.1,hne.1.symm,hrp.1,hrp.1.symm,hrp.2.1,hrp.2.1.symm,hk2]
     refine zAe ?_;subst hbq
     repeat with_reducible refine zAb fun bq hbq=>?_
     refine zAy (t:=decide (t.n≥d)) (by simp only [go_sem,↓reduceIte]) ?_ ?_
     ·intro hge
      have hge':d≤t.n:=by simpa using hge
      have hlt:t.n<d+us.length:=by
       obtain ⟨k,n,nm,l⟩:=t
       rw [zQu,Bool.and_eq_true] at hok
       have:=hok.1
       simp only [bne,hk2,Bool.not_true,Bool.false_or,decide_eq_true_eq] at this
       exact this
      obtain ⟨j,hj⟩:∃ j:Nat,(us.length:Int) - 1 - (t.n - d)=j:=⟨_,(Int.toNat_of_nonneg (by omega)).symm⟩
      have hjl:j<us.length:=by omega
      obtain ⟨u,hu⟩:∃ u,us[j]?=some u:=⟨_,List.getElem?_eq_getElem hjl⟩
      obtain ⟨rr,hrr⟩:=zB7 us j hu
      have hum:=hn u (List.mem_of_getElem? hu)
      have hput:zCc t.kind t.n t.name us d=(u.kind,(if u.kind==2 then u.n+d else u.n),u.name):=by
       unfold zCc
       rw [hk2,hge,Bool.and_true,if_pos rfl,hj,Int.toNat_natCast,List.getD_eq_getElem?_getD,hu]
       rfl
      repeat with_reducible refine zAb fun bq hbq=>?_
      refine zAf (by simp only [zAl,gtOf,zAk];exact rfl) ?_
      simp only [go_sem,↓reduceIte,hne.1,hne.1.symm,hrp.1,hrp.1.symm,hrp.2.1,hrp.2.1.symm,zA6 ((us.length:Int) - 1) (by omega),zA6 (t.n - d) (by omega),hj,zA6 ((j:Int)) (by omega),hjl,hrr]
      refine zAe ?_;subst hbq
      repeat with_reducible refine zAb fun bq hbq=>?_
      refine zAf (by simp only [zAl,gtOf,zAk];exact rfl) ?_
      simp only [go_sem,↓reduceIte]
      refine zAe ?_;subst hbq
      repeat with_reducible refine zAb fun bq hbq=>?_
      refine zAy (t:=u.kind==2) (by simp only [go_sem,↓reduceIte]) ?_ ?_
      ·intro hu2
       repeat with_reducible refine zAb fun bq hbq=>?_
       refine zAf (by simp only [zAl,gtOf,zAk];exact rfl) ?_
       simp only [go_sem,↓reduceIte,zA6 (u.n+d) (by omega)]
       refine zBf ?_
       refine zAm ?_
       simp only [go_sem,↓reduceIte,hne.1,hne.1.symm,hrp.1,hrp.1.symm,hrp.2.1,hrp.2.1.symm,hinn,hput,hu2]
       exact ⟨((zAh.refl h).new hp |>.new hne.2 |>.new hrp.2.2 |>.new hrp.2.2 |>.new hrp.2.2 |>.new hrp.2.2),⟨_,rfl,rfl⟩,_,rfl⟩
      ·intro hu2
       refine zBn ?_
       refine zBf ?_
       refine zAm ?_
       simp only [go_sem,↓reduceIte,hne.1,hne.1.symm,hrp.1,hrp.1.symm,hrp.2.1,hrp.2.1.symm,hinn,hput,hu2]
       exact ⟨((zAh.refl h).new hp |>.new hne.2 |>.new hrp.2.2 |>.new hrp.2.2 |>.new hrp.2.2),⟨_,rfl,rfl⟩,_,rfl⟩
     ·intro hge
      refine zBn ?_
      refine zBf ?_
      refine zAm ?_
      simp only [go_sem,↓reduceIte,hne.1,hne.1.symm,hrp.1,hrp.1.symm,hrp.2.1,hrp.2.1.symm,hinn,zCc,hk2,hge]
      exact ⟨((zAh.refl h).new hp |>.new hne.2 |>.new hrp.2.2 |>.new hrp.2.2),⟨_,rfl,rfl⟩,_,rfl⟩
  ·obtain ⟨e1,e3,e6,e7,e8,hl,lp,⟨c0,lq,hc0⟩,lst,lr⟩:=hI
   subst hbq
   repeat with_reducible refine zAb fun bq hbq=>?_
   refine zAf (by simp only [zAl,gtOf,zAk];exact rfl) ?_
   simp only [go_sem,↓reduceIte,e7,lr]
   refine zAe ?_;subst hbq
   repeat with_reducible refine zAb fun bq hbq=>?_
   refine zAf (by simp only [zAl,gtOf,zAk];exact rfl) ?_
   simp only [go_sem,↓reduceIte,e3,hrp.1.symm,lp]
   refine zAe ?_;subst hbq
   have hsz:=t.size
   generalize hK:(zCc t.kind t.n t.name us d).1=K at lr ⊢
   generalize hN:(zCc t.kind t.n t.name us d).2.1=N at lr ⊢
   generalize hS:(zCc t.kind t.n t.name us d).2.2=S at lr ⊢
   generalize hD:inner t.kind d=D at e8 ⊢
   have hDb:0≤D∧D≤d+1:=by rw [← hD];unfold inner;split <;> omega
   have hfill:zBi t us d=⟨K,N,S,zBc t.args us D⟩:=by
    rw [← hK,← hN,← hS,← hD];obtain ⟨k,n,nm,l⟩:=t;rw [zBi]
   have hok2:zJo t.args us.length D=true:=by
    rw [← hD];obtain ⟨k,n,nm,l⟩:=t
    rw [zQu,Bool.and_eq_true] at hok;exact hok.2
   have hlen:t.args.length≤t.size:=by
    obtain ⟨k,n,nm,l⟩:=t
    rw [Term.size]
    have:∀ l:List Term,l.length≤sizes l:=by
     intro l
     induction l with
     |nil=>exact Nat.zero_le _
     |cons x l ih=>obtain ⟨a,b,c,m⟩:=x;rw [sizes,Term.size,List.length_cons];omega
    exact Nat.le_succ_of_le (this l)
   repeat with_reducible refine zAb fun bq hbq=>?_
   refine zA3 fun cq hcq=>?_
   subst hcq
   refine zAx (fun k τ h2=>∃ (i sz:Nat) (tok:Tok),k+i=t.args.length∧τ 1=.list 4 (encs us) us.length .none∧τ 6=.ptr q 0∧τ 7=.ptr r 0∧τ 8=.int .i64 D∧τ 50=.list 4 (encs t.args) t.args.length .none∧τ 51=.int .i64 t.args.length∧τ 52=.int .i64 i∧zAh h2 h∧h2 q=some (.cells c0 27)∧h2 r=some (.cells [.int .i64 K,.int .i64 N,.str S,.list sz (encs ((zBc t.args us D).take i)) i tok] 27)∧Grow 27 h h2 tok∧(i=0∨sz=4)) t.args.length ?_ ?_
   ·refine ⟨0,0,.nil,rfl,?_⟩
    simp only [go_sem,↓reduceIte,e1,e3,e6,e7,e8,hrp.2.1.symm,lq,List.take_zero,zBg]
    exact ⟨rfl,hl.new hrp.2.2,.inl (.inr rfl),by simp⟩
   ·intro c hc k τ h2 hI
    obtain ⟨i,sz,tok,hk,f1,f6,f7,f8,f50,f51,f52,hl2,mq,mr,hg,hsz0⟩:=hI
    subst hc
    repeat with_reducible refine zAb fun bq hbq=>?_
    refine zAf (by simp only [zAl,gtOf,zAk];exact rfl) ?_
    by_cases hi:i<t.args.length
    ·have hd:decide (i<t.args.length)=true:=by simpa using hi
     obtain ⟨u,hu⟩:∃ u,t.args[i]?=some u:=⟨_,List.getElem?_eq_getElem hi⟩
     obtain ⟨rr,hrr⟩:=zB7 t.args i hu
     have hus:=zDp t i hu
     simp only [go_sem,↓reduceIte,f51,f52,hd]
     refine zAe ?_;subst hbq
     repeat with_reducible refine zAb fun bq hbq=>?_
     refine zAy (t:=true) (by simp only [go_sem,↓reduceIte]) ?_ ?_
     ·intro _
      refine zBn ?_
      refine zAe ?_;subst hbq
      repeat with_reducible refine zAb fun bq hbq=>?_
      refine zA3 fun cq hcq=>?_
      subst hcq
      repeat with_reducible refine zAb fun bq hbq=>?_
      refine zAf (by simp only [zAl,gtOf,zAk];exact rfl) ?_
      simp only [go_sem,↓reduceIte,f50,f52,hi,hrr]
      intro w hw
      have hwq:=zAd hw mq
      have hwr:=zAd hw mr
      generalize hh3:upd (upd h2 w _) w _=h3
      have w3:h3 w=some (.cells (zAj u) 27):=by rw [← hh3,upd_same]
      have r3:=(congrFun hh3.symm r).trans ((zAa _ _ hwr).trans ((zAa _ _ hwr).trans mr))
      have q3:=(congrFun hh3.symm q).trans ((zAa _ _ hwq).trans ((zAa _ _ hwq).trans mq))
      have hl3:zAh h3 h:=by rw [← hh3];exact (hl2.new (hl2.none hw)).new (hl2.none hw)
      have hg3:Grow 27 h h3 tok:=by
       rw [← hh3]
       rcases hg with e|⟨f,ef,hf,hf0⟩
       ·exact .inl e
       ·exact .inr ⟨f,ef,by rw [zAa _ _ (zAd hw hf),zAa _ _ (zAd hw hf)];exact hf,hf0⟩
      clear hh3
      refine zAe ?_;subst hbq
      repeat with_reducible refine zAb fun bq hbq=>?_
      refine zBb (.take 0 (.take 1 (.take 2 (.take 3 (.take 4 (.one 5 [1] (.take 6 (.one 7 [] (.take 8 (.one 9 [] (.done))))))))))) (by kernel_rfl) (by simp only [zAl,gtOf,zAk];exact rfl) ?_
      simp only [go_sem,↓reduceIte,f1,f7,f8,w3,r3]
      refine ih u us D _ _ (by omega) (by omega) (by omega) has hn (zYy _ _ _ i hok2 hu) ?_
      simp only [go_sem,↓reduceIte,zCz,r3]
      refine zAz ?_
      simp only [go_sem,↓reduceIte,zCz,r3]
      intro a ha
      obtain ⟨h4,ea,hg4,hl4,keep⟩:=zEh zCj zCj zD2 zFl zDm ⟨rfl,by decide⟩ hl3 ha (c1:=encs ((zBc t.args us D).take i)) (c2:=zAj (zBi u us D)) (n2:=1) (t2:=.full) hg3 hsz0 (sz2:=4) rfl (by decide) (by omega)
      have r4:=keep _ _ _ r3
      have q4:=keep _ _ _ q3
      simp only [go_sem,↓reduceIte,ea,r4,f7]
      refine zBf ?_
      refine zAe ?_;subst hbq
      repeat with_reducible refine zAb fun bq hbq=>?_
      refine zAf (by simp only [zAl,gtOf,zAk];exact rfl) ?_
      simp only [go_sem,↓reduceIte,f52,zA6 ((i:Int)+1) (by omega)]
      refine zAp (m:=k - 1) (by omega) ⟨i+1,4,.id a,by omega,?_⟩
      simp only [go_sem,↓reduceIte,f1,f6,f7,f8,f50,f51,hrp.2.1.symm,q4]
      rw [yG3 _ i (x:=zBi u us D) (by rw [zYx,hu];rfl)]
      refine ⟨rfl,hl4.new hrp.2.2,rfl,?_,by simp⟩
      rcases hg4 with e|⟨f,ef,hf,hf0⟩
      ·rcases e with e|e <;> cases e
      ·injection ef with ef;subst ef
       exact .inr ⟨a,rfl,by rw [zAa _ _ (by intro e;rw [e,r4] at hf;cases hf)];exact hf,hf0⟩
     ·intro hf;cases hf
    ·have hd:decide (i<t.args.length)=false:=by simpa using hi
     simp only [go_sem,↓reduceIte,f51,f52,hd]
     refine zAe ?_;subst hbq
     repeat with_reducible refine zAb fun bq hbq=>?_
     refine zAy (t:=false) (by simp only [go_sem,↓reduceIte]) ?_ ?_
     ·intro hf;cases hf
     ·intro _
      refine zC3 ?_
      repeat first|(with_reducible refine zCi ?_;clear hbq bq)|with_reducible refine zCk ?_|with_reducible refine zBx ?_|with_reducible refine zBq ?_|(with_reducible refine zCs ?_ ?_;focus rfl)
      refine zAe ?_;subst hbq
      repeat with_reducible refine zAb fun bq hbq=>?_
      refine zAf (by simp only [zAl,gtOf,zAk];exact rfl) ?_
      simp only [go_sem,↓reduceIte,f6,f7,mr,mq,hc0]
      refine zAe ?_;subst hbq
      have hil:i=t.args.length:=by omega
      refine zCx (h':=h) (v:=enc (zBi t us d)) (by rw [Tryz.results143]) (hl2.new hne.2) ?_ hq
      rw [hfill]
      simp only [go_sem,↓reduceIte,f6,zAo,Option.some.injEq,exists_eq_left']
      rw [List.take_of_length_le (by rw [zCw];omega)]
      refine LeAV.agg (.cons (LeAV.refl _) (.cons (LeAV.refl _) (.cons (LeAV.refl _) (.cons ?_ .nil))))
      rw [zCw,← hil]
      rcases hsz0 with h0|h4
      ·have hnil:zBc t.args us D=[]:=List.eq_nil_of_length_eq_zero (by rw [zCw];omega)
       rw [hnil,h0,zBg]
       exact LeAV.nil _ _ _
      ·rw [h4];exact LeAV.list _ _ _ _
def zUu (t:Term):Bool:=t.kind != 5||(t.n != 0||(!(t.name.toList==(⟨#[]⟩:ByteArray).toList)||(t.args.length:Int) != 1))
def zDe:Nat→Term→Term × Bool
 |0,t=>(t,t.kind != 5)
 |k+1,t=>if zUu t then (t,false) else zDe k (t.args.headD zA7)
theorem zIv {t:Term} (h:zUu t=false):∃ u,t.args=[u]:=by
 simp only [zUu,Bool.or_eq_false_iff] at h
 have h3:=h.2.2.2
 have:t.args.length=1:=by simp at h3;omega
 match hl:t.args,this with
 |[u],_=>exact ⟨u,rfl⟩
theorem z3e (t:Term) (n:Int) (h:zAc) (Q:AOut→zAc→Prop) (hn:n≤1000000000) (hq:Q (.ret (.tuple [enc (zDe n.toNat t).1,.bool (zDe n.toNat t).2])) h):zAg Tryz.prog 118 [enc t,.int .i64 n] h Q:=by
 refine zAg.of_sem (fn:=Tryz.f118) Tryz.func118 rfl (by kernel_rfl) (by rw [Tryz.ntmps118];simp) (enters_of Tryz.func118 (by kernel_rfl) (by kernel_rfl)) ?_
 repeat refine zAb fun bq hbq=>?_
 refine zAf (by simp only [zAl,gtOf,zAk];exact rfl) ?_
 simp only [go_sem,↓reduceIte]
 intro p hp q hq'
 obtain ⟨hne,hq0⟩:=zDa hq'
 refine zAe ?_;subst hbq
 repeat refine zAb fun bq hbq=>?_
 refine zAf (by simp only [zAl,gtOf,zAk];exact rfl) ?_
 simp only [go_sem,↓reduceIte]
 refine zAe ?_;subst hbq
 repeat refine zAb fun bq hbq=>?_
 refine zA3 fun cq hcq=>?_
 subst hcq
 refine zAx (fun k τ h'=>∃ (i:Nat) (u:Term),k=n.toNat - i∧((i:Int)≤n∨i=0)∧zDe (n.toNat - i) u=zDe n.toNat t∧τ 2=.ptr p 0∧τ 4=.ptr q 0∧τ 6=.int .i64 n∧τ 7=.int .i64 i∧zAh h' h∧h' p=some (.cells (zAj u) 27)∧∃ c0,h' q=some (.cells c0 27)∧c0.length=4) n.toNat ?_ ?_
 ·exact ⟨0,t,rfl,.inr rfl,rfl,rfl,rfl,rfl,rfl,((zAh.refl h).new hp).new hq0,by rw [zAa _ _ hne.symm,upd_same],_,upd_same _ _ _,rfl⟩
 ·intro c hc k τ h2 hI
  obtain ⟨i,u,rfl,hin,hu,e2,e4,e6,e7,hl,lp,c0,lq,hc0⟩:=hI
  subst hc
  have hdr:List.drop 4 c0=[]:=List.drop_eq_nil_of_le (by omega)
  repeat refine zAb fun bq hbq=>?_
  refine zAf (by simp only [zAl,gtOf,zAk];exact rfl) ?_
  simp only [go_sem,↓reduceIte,e6,e7]
  refine zAe ?_;subst hbq
  repeat refine zAb fun bq hbq=>?_
  refine zAy (t:=decide ((i:Int)<n)) (by simp only [go_sem,↓reduceIte]) ?_ ?_
  ·intro hlt
   have hlt':(i:Int)<n:=by simpa using hlt
   obtain ⟨k,hk⟩:∃ k,n.toNat - i=k+1:=⟨n.toNat - i - 1,by omega⟩
   rw [hk,zDe] at hu
   refine zBn ?_
   refine zAe ?_;subst hbq
   repeat refine zAb fun bq hbq=>?_
   refine zA3 fun cq hcq=>?_
   subst hcq
   refine zAb fun bq hbq=>?_
   refine zV1 (fun τ' h'=>h'=h2∧τ' 2=.ptr p 0∧τ' 4=.ptr q 0∧τ' 6=.int .i64 n∧τ' 7=.int .i64 i∧τ' 27=.bool (zUu u)) ?_ fun bq hbq τ h' hI=>?_
   ·repeat refine zAb fun bq hbq=>?_
    refine zAf (by simp only [zAl,gtOf,zAk];exact rfl) ?_
    cases h1:(u.kind != 5) <;> cases h2:(u.n != 0) <;> cases h3:(u.name.toList==(⟨#[]⟩:ByteArray).toList) <;> cases h4:((u.args.length:Int) != 1)
    all_goals
     simp only [go_sem,↓reduceIte,e2,lp,h1,h2,h3,h4]
     refine zAm ?_
     simp only [go_sem,↓reduceIte,e2,e4,e6,e7,zUu,h1,h2,h3,h4,Bool.or_self]
   ·obtain ⟨rfl,g2,g4,g6,g7,g27⟩:=hI
    subst hbq
    refine zAy g27 ?_ ?_
    ·intro hno
     rw [if_pos hno] at hu
     repeat refine zAb fun bq hbq=>?_
     refine zAf (by simp only [zAl,gtOf,zAk];exact rfl) ?_
     simp only [go_sem,↓reduceIte,g2,g4,lp,lq,hc0,hdr]
     refine zAe ?_;subst hbq
     refine zB3 ?_
     repeat first|(refine zC8 ?_;clear hbq bq)|refine zDb ?_|refine zCr ?_|refine zB6 ?_
     rw [← hu] at hq
     refine zB2 (h':=h) (by rw [Tryz.results118]) (hl.new hq0) ?_ hq
     simp only [go_sem,↓reduceIte,g4,zAo,Option.some.injEq,exists_eq_left']
     exact LeAV.refl _
    ·intro hno
     rw [if_neg (by rw [hno];decide)] at hu
     obtain ⟨x,hx⟩:=zIv hno
     have lp':h' p=some (.cells [.int .i64 u.kind,.int .i64 u.n,.str u.name,.list 4 (encs [x]) 1 .none] 27):=by rw [lp];show _=some (AObj.cells [_,_,_,AV.list 4 (encs [x]) [x].length .none] 27);rw [← hx]
     refine zBn ?_
     refine zAe ?_;subst hbq
     repeat refine zAb fun bq hbq=>?_
     refine zAf (by simp only [zAl,gtOf,zAk];exact rfl) ?_
     simp only [go_sem,↓reduceIte,g2,lp',show (0:Int)≤0 from by decide,show (0:Int)<((1:Nat):Int) from by decide,show (0:Int).toNat=0 from rfl,Nat.zero_mul,zH3]
     refine zBf ?_
     refine zAe ?_;subst hbq
     repeat refine zAb fun bq hbq=>?_
     refine zAf (by simp only [zAl,gtOf,zAk];exact rfl) ?_
     simp only [go_sem,↓reduceIte,g7,zA6 ((i:Int)+1) (by omega)]
     refine zAp (m:=n.toNat - (i+1)) (by omega) ⟨i+1,x,rfl,.inl (by omega),?_,?_⟩
     ·rw [hx] at hu
      rw [← hu,show n.toNat - (i+1)=k by omega]
      rfl
     ·simp only [go_sem,↓reduceIte,g2,g4,g6,hne,lq]
      exact ⟨rfl,hl.new hp,c0,rfl,hc0⟩
  ·intro hlt
   have hlt':¬ (i:Int)<n:=by simpa using hlt
   rw [show n.toNat - i=0 by omega,zDe] at hu
   refine zC3 ?_
   repeat first|(refine zCi ?_;clear hbq bq)|refine zCk ?_|refine zBx ?_|refine zBq ?_|refine zCs rfl ?_
   refine zAe ?_;subst hbq
   repeat refine zAb fun bq hbq=>?_
   refine zBb (.take 0 (.take 1 (.take 2 (.take 3 (.one 4 [2] (.take 5 (.done))))))) (by kernel_rfl) (by simp only [zAl,gtOf,zAk];exact rfl) ?_
   simp only [go_sem,↓reduceIte,e2,e4,lp,lq,hc0,hdr,hne,hne.symm]
   refine zAe ?_;subst hbq
   rw [← hu] at hq
   refine zCx (h':=h) (by rw [Tryz.results118]) (hl.new hq0) ?_ hq
   simp only [go_sem,↓reduceIte,e4,zAo,Option.some.injEq,exists_eq_left']
   exact LeAV.refl _
abbrev encS (l:List ByteArray):List AV:=l.map AV.str
def zFj (n:ByteArray):Bool:=n.toList==(⟨#[45,62]⟩:ByteArray).toList
def zFm (t:Ty) (out:List ByteArray):Option (List ByteArray):=if zBp t then some out else none
def zFa:Ty→List ByteArray→Option (List ByteArray)
 |⟨n,[a,b]⟩,out=>if zFj n then (if !zBp a||(out.length:Int)==8 then none else zFa b (out++[a.name])) else zFm ⟨n,[a,b]⟩ out
 |⟨n,l⟩,out=>zFm ⟨n,l⟩ out
def zDu (t:Ty):Option (List ByteArray):=zFa t []
def yHy (r:Option (List ByteArray)):AV:=match r with
 |some l=>.tuple [.list 1 (encS l) l.length .none,.bool true]
 |Option.none=>.tuple [.list 1 [] 0 .none,.bool false]
theorem zI5 {t:Ty} (out:List ByteArray) (h1:zFj t.name=true) (h:((t.args.length:Int)==2)=true):∃ a b,t.args=[a,b]∧zFa t out=(if !zBp a||(out.length:Int)==8 then none else zFa b (out++[a.name]))∧b.size<t.size:=by
 obtain ⟨n,l⟩:=t
 match l,h with
 |[a,b],_=>exact ⟨a,b,rfl,by rw [zFa,if_pos h1],zOg ⟨n,[a,b]⟩ 1 rfl⟩
 |[],h=>simp at h
 |[a],h=>simp at h
 |a::b::c::l,h=>simp at h;omega
theorem zEm {t:Ty} (out:List ByteArray) (h:(zFj t.name&&(t.args.length:Int)==2)=false):zFa t out=zFm t out:=by
 obtain ⟨n,l⟩:=t
 match l,h with
 |[a,b],h =>
  have:zFj n=false:=by simpa using h
  rw [zFa,if_neg (by rw [this];decide)]
 |[],_=>rw [zFa];intro a b e;cases e
 |[a],_=>rw [zFa];intro a b e;cases e
 |a::b::c::l,_=>rw [zFa];intro a b e;cases e
theorem zH5 (s:ByteArray):zBa Tryz.prog 70 1 [(0,.str s)]=some (.list 1 [.str s] 1 .full):=zR4 zHf sz_9 ze_9 rfl rfl rfl (by decide)
theorem zNk (t:Ty) (h:zAc) (Q:AOut→zAc→Prop) (hq:Q (.ret (yHy (zDu t))) h):zAg Tryz.prog 33 [zMc t] h Q:=by
 refine zAg.of_sem (fn:=Tryz.f33) Tryz.func33 rfl (by kernel_rfl) (by rw [Tryz.ntmps33];simp) (enters_of Tryz.func33 (by kernel_rfl) (by kernel_rfl)) ?_
 repeat refine zAb fun bq hbq=>?_
 refine zAf (by simp only [zAl,gtOf,zAk];exact rfl) ?_
 simp only [go_sem,↓reduceIte]
 intro p hp
 refine zAe ?_;subst hbq
 repeat refine zAb fun bq hbq=>?_
 refine zAf (by simp only [zAl,gtOf,zAk];exact rfl) ?_
 simp only [go_sem,↓reduceIte]
 refine zAe ?_;subst hbq
 repeat refine zAb fun bq hbq=>?_
 repeat refine zAb fun bq hbq=>?_
 refine zA3 fun cq hcq=>?_
 subst hcq
 refine zAx (fun k τ h'=>∃ (u:Ty) (out:List ByteArray) (sz:Nat) (tok:Tok),k=u.size∧zFa u out=zDu t∧τ 1=.ptr p 0∧τ 4=.list sz (encS out) out.length tok∧(out=[]∨sz=1)∧out.length≤8∧zAh h' h∧h' p=some (.cells (zBz u) 60)∧Grow 9 h h' tok) t.size ?_ ?_
 ·exact ⟨t,[],0,.nil,rfl,rfl,rfl,rfl,.inl rfl,by decide,(zAh.refl h).new hp,upd_same _ _ _,.inl (.inr rfl)⟩
 ·intro c hc k τ h' hI
  obtain ⟨u,out,sz,tok,rfl,hu,e1,e4,hsz,hout,hl,lp,hg⟩:=hI
  subst hc
  repeat refine zAb fun bq hbq=>?_
  refine zAf (by simp only [zAl,gtOf,zAk];exact rfl) ?_
  have arrow:∀ b,zFj u.name=b→(u.name.toList==(⟨#[45,62]⟩:ByteArray).toList)=b:=fun b hb=>hb
  cases h1:zFj u.name <;> cases h2:((u.args.length:Int)==2)
  case true.true =>
   have h1':=arrow _ h1
   simp only [go_sem,↓reduceIte,e1,lp,h1',h2]
   refine zAe ?_;subst hbq
   repeat refine zAb fun bq hbq=>?_
   refine zAy (t:=true) (by simp only [go_sem,↓reduceIte]) ?_ ?_
   ·intro _
    obtain ⟨a,b,hab,hgo,hsb⟩:=zI5 out h1 h2
    rw [hgo] at hu
    have lp':h' p=some (.cells [.str u.name,.list 2 (zB8 [a,b]) 2 .none] 60):=by rw [lp];show _=some (AObj.cells [_,AV.list 2 (zB8 [a,b]) [a,b].length .none] 60);rw [← hab]
    have z0:=show (0:Int)≤0 from by decide
    have z1:=show (0:Int)<((2:Nat):Int) from by decide
    have z2:=show (0:Int).toNat=0 from rfl
    refine zBn ?_
    refine zAe ?_;subst hbq
    repeat refine zAb fun bq hbq=>?_
    refine zA3 fun cq hcq=>?_
    subst hcq
    repeat refine zAb fun bq hbq=>?_
    refine zAf (by simp only [zAl,gtOf,zAk];exact rfl) ?_
    simp only [go_sem,↓reduceIte,e1,lp',z0,z1,z2,Nat.zero_mul,zE8]
    refine z6i a _ _ ?_
    cases hb:zBp a
    ·rw [hb] at hu
     simp only [go_sem,↓reduceIte,e4]
     refine zAe ?_;subst hbq
     repeat refine zAb fun bq hbq=>?_
     refine zAy (t:=true) (by simp only [go_sem,↓reduceIte]) ?_ ?_
     ·intro _
      repeat refine zAb fun bq hbq=>?_
      refine zAf (by simp only [zAl,gtOf,zAk];exact rfl) ?_
      simp only [go_sem,↓reduceIte]
      refine zAe ?_;subst hbq
      refine zB3 ?_
      repeat first|(refine zC8 ?_;clear hbq bq)|refine zDb ?_|refine zCr ?_|refine zB6 ?_
      have hu':zDu t=Option.none:=by rw [← hu];rfl
      rw [hu'] at hq
      refine zB2 (h':=h) (by rw [Tryz.results33]) (hl.trans (zAh.refl h)) ?_ hq
      simp only [go_sem,↓reduceIte,zAo,Option.some.injEq,exists_eq_left']
      exact LeAV.tuple (.cons (LeAV.nil _ _ _) (.cons (LeAV.refl _) .nil))
     ·intro hf;cases hf
    ·rw [hb] at hu
     cases h8:((out.length:Int)==8)
     ·rw [h8] at hu
      simp only [go_sem,↓reduceIte,e4,List.length_map,h8]
      refine zAe ?_;subst hbq
      repeat refine zAb fun bq hbq=>?_
      refine zAy (t:=false) (by simp only [go_sem,↓reduceIte]) ?_ ?_
      ·intro hf;cases hf
      ·intro _
       refine zBn ?_
       refine zAe ?_;subst hbq
       repeat refine zAb fun bq hbq=>?_
       refine zAf (by simp only [zAl,gtOf,zAk];exact rfl) ?_
       simp only [go_sem,↓reduceIte,e1,e4,lp',z0,z1,z2,Nat.zero_mul,zE8,zH5]
       refine zAz ?_
       simp only [go_sem,↓reduceIte,zH5,e4]
       intro w hw
       have h8':¬ out.length=8:=by simp at h8;omega
       obtain ⟨h4,ea,hg4,hl4,keep⟩:=zEh zHf zHf sz_9 by_9 ze_9 ⟨rfl,by decide⟩ hl hw (sz1:=sz) (n1:=out.length) (c1:=encS out) (c2:=[.str a.name]) (n2:=1) (t2:=.full) hg (by rcases hsz with e|e <;> simp [e]) (sz2:=1) rfl (by decide) (by omega)
       have p4:=keep _ _ _ lp'
       simp only [go_sem,↓reduceIte,ea]
       refine zAe ?_;subst hbq
       repeat refine zAb fun bq hbq=>?_
       refine zAf (by simp only [zAl,gtOf,zAk];exact rfl) ?_
       obtain ⟨rb,hrb⟩:=zVe [a,b] 1 (t:=b) rfl
       simp only [Nat.reduceMul] at hrb
       simp only [go_sem,↓reduceIte,e1,p4,show (0:Int)≤1 from by decide,show (1:Int)<((2:Nat):Int) from by decide,show (1:Int).toNat=1 from rfl,Nat.reduceMul,hrb]
       refine zBf ?_
       have hgo2:zFa b (out++[a.name])=zDu t:=by rw [← hu];rfl
       refine zAp hsb ⟨b,out++[a.name],1,.id w,rfl,hgo2,?_⟩
       simp only [go_sem,↓reduceIte,e1]
       refine ⟨by simp [encS],by simp,by simp;omega,hl4.new hp,?_⟩
       rcases hg4 with e|⟨f,ef,hf,hf0⟩
       ·rcases e with e|e <;> cases e
       ·injection ef with ef;subst ef
        exact .inr ⟨w,rfl,by rw [zAa _ _ (by intro e;rw [e,p4] at hf;cases hf)];exact hf,hf0⟩
     ·rw [h8] at hu
      simp only [go_sem,↓reduceIte,e4,h8]
      refine zAe ?_;subst hbq
      repeat refine zAb fun bq hbq=>?_
      refine zAy (t:=true) (by simp only [go_sem,↓reduceIte]) ?_ ?_
      ·intro _
       repeat refine zAb fun bq hbq=>?_
       refine zAf (by simp only [zAl,gtOf,zAk];exact rfl) ?_
       simp only [go_sem,↓reduceIte]
       refine zAe ?_;subst hbq
       refine zB3 ?_
       repeat first|(refine zC8 ?_;clear hbq bq)|refine zDb ?_|refine zCr ?_|refine zB6 ?_
       have hu':zDu t=Option.none:=by rw [← hu];rfl
       rw [hu'] at hq
       refine zB2 (h':=h) (by rw [Tryz.results33]) (hl.trans (zAh.refl h)) ?_ hq
       simp only [go_sem,↓reduceIte,zAo,Option.some.injEq,exists_eq_left']
       exact LeAV.tuple (.cons (LeAV.nil _ _ _) (.cons (LeAV.refl _) .nil))
      ·intro hf;cases hf
   ·intro hf;cases hf
  all_goals
   have h1':=arrow _ h1
   have hend:zFa u out=zFm u out:=zEm out (by rw [h1,h2];rfl)
   rw [hend] at hu
   simp only [go_sem,↓reduceIte,e1,lp,h1',h2]
   refine zAe ?_;subst hbq
   repeat refine zAb fun bq hbq=>?_
   refine zAy (t:=false) (by simp only [go_sem,↓reduceIte]) ?_ ?_
   ·intro hf;cases hf
   ·intro _
    refine zC3 ?_
    repeat first|(refine zCi ?_;clear hbq bq)|refine zCk ?_|refine zBx ?_|refine zBq ?_|refine zCs rfl ?_
    refine zAe ?_;subst hbq
    repeat refine zAb fun bq hbq=>?_
    refine zAf (by simp only [zAl,gtOf,zAk];exact rfl) ?_
    simp only [go_sem,↓reduceIte,e1,lp]
    refine z6i u _ _ ?_
    cases hb:zBp u
    ·simp only [go_sem,↓reduceIte]
     refine zAe ?_;subst hbq
     repeat refine zAb fun bq hbq=>?_
     refine zAy (t:=true) (by simp only [go_sem,↓reduceIte]) ?_ ?_
     ·intro _
      repeat refine zAb fun bq hbq=>?_
      refine zAf (by simp only [zAl,gtOf,zAk];exact rfl) ?_
      simp only [go_sem,↓reduceIte]
      refine zAe ?_;subst hbq
      refine zB3 ?_
      repeat first|(refine zC8 ?_;clear hbq bq)|refine zDb ?_|refine zCr ?_|refine zB6 ?_
      have hu':zDu t=Option.none:=by rw [← hu,zFm,hb];rfl
      rw [hu'] at hq
      refine zB2 (h':=h) (by rw [Tryz.results33]) (hl.trans (zAh.refl h)) ?_ hq
      simp only [go_sem,↓reduceIte,zAo,Option.some.injEq,exists_eq_left']
      exact LeAV.tuple (.cons (LeAV.nil _ _ _) (.cons (LeAV.refl _) .nil))
     ·intro hf;cases hf
    ·simp only [go_sem,↓reduceIte]
     refine zAe ?_;subst hbq
     repeat refine zAb fun bq hbq=>?_
     refine zAy (t:=false) (by simp only [go_sem,↓reduceIte]) ?_ ?_
     ·intro hf;cases hf
     ·intro _
      refine zBn ?_
      refine zAe ?_;subst hbq
      repeat refine zAb fun bq hbq=>?_
      refine zAf (by simp only [zAl,gtOf,zAk];exact rfl) ?_
      simp only [go_sem,↓reduceIte,e4]
      refine zAe ?_;subst hbq
      have hu':zDu t=some out:=by rw [← hu,zFm,hb];rfl
      rw [hu'] at hq
      refine zCx (h':=h) (by rw [Tryz.results33]) hl ?_ hq
      simp only [go_sem,↓reduceIte,zAo,Option.some.injEq,exists_eq_left']
      refine LeAV.tuple (.cons ?_ (.cons (LeAV.refl _) .nil))
      rcases hsz with e|e
      ·rw [e];exact LeAV.nil _ _ _
      ·rw [e];exact LeAV.list _ _ _ _
theorem z2a (l:List Va) (g:FuncId) (first cap:List AV) (f:Va→Bool) (h:zAc) (Q:AOut→zAc→Prop) (hl:l.length≤1000000000) (hf:Asks Tryz.prog encV g first cap l f h) (hq:Q (.ret (.int .i64 (zIy f l 0))) h) :
  zAg Tryz.prog 116 [.list 8 (zAn l) l.length .none,.func (.func g) first cap] h Q:=by
 refine zAg.of_sem (fn:=Tryz.f116) Tryz.func116 rfl (by kernel_rfl) (by rw [Tryz.ntmps116];simp) (enters_of Tryz.func116 (by kernel_rfl) (by kernel_rfl)) ?_
 repeat with_reducible refine zAb fun bq hbq=>?_
 refine zAf (by simp only [zAl,gtOf,zAk];exact rfl) ?_
 simp only [go_sem,↓reduceIte]
 refine zAe ?_;subst hbq
 repeat with_reducible refine zAb fun bq hbq=>?_
 refine zAf (by simp only [zAl,gtOf,zAk];exact rfl) ?_
 simp only [go_sem,↓reduceIte]
 refine zAe ?_;subst hbq
 repeat with_reducible refine zAb fun bq hbq=>?_
 repeat with_reducible refine zAb fun bq hbq=>?_
 refine zA3 fun cq hcq=>?_
 subst hcq
 refine zAx (fun k τ h'=>∃ i:Nat,k+i=l.length∧τ 0=.list 8 (zAn l) l.length .none∧τ 1=.func (.func g) first cap∧τ 7=.int .i64 l.length∧τ 8=.int .i64 i∧zAh h' h∧(∀ (j:Nat) (v:Va),j<i→l[j]?=some v→f v=false)∧zIy f (l.drop i) i=zIy f l 0) l.length ?_ ?_
 ·exact ⟨0,rfl,rfl,rfl,rfl,rfl,zAh.refl h,fun j v hj=>absurd hj (Nat.not_lt_zero _),rfl⟩
 ·intro c hc k τ h' hI
  obtain ⟨i,hk,e0,e1,e7,e8,hless,hno,hix⟩:=hI
  subst hc
  repeat with_reducible refine zAb fun bq hbq=>?_
  refine zAf (by simp only [zAl,gtOf,zAk];exact rfl) ?_
  by_cases hi:i<l.length
  ·have hd:decide (i<l.length)=true:=by simpa using hi
   obtain ⟨u,hu⟩:∃ u,l[i]?=some u:=⟨_,List.getElem?_eq_getElem hi⟩
   obtain ⟨r,hr⟩:=zEy l i hu
   have hdrop:l.drop i=u::l.drop (i+1):=by
    rw [List.drop_eq_getElem_cons hi]
    rw [List.getElem?_eq_getElem hi] at hu;injection hu with hu;rw [hu]
   rw [hdrop,zIy] at hix
   simp only [go_sem,↓reduceIte,e7,e8,hd]
   refine zAe ?_;subst hbq
   repeat with_reducible refine zAb fun bq hbq=>?_
   refine zAy (t:=true) (by simp only [go_sem,↓reduceIte]) ?_ ?_
   ·intro _
    refine zBn ?_
    refine zAe ?_;subst hbq
    repeat with_reducible refine zAb fun bq hbq=>?_
    refine zA3 fun cq hcq=>?_
    subst hcq
    repeat with_reducible refine zAb fun bq hbq=>?_
    refine zAf (by simp only [zAl,gtOf,zAk];exact rfl) ?_
    simp only [go_sem,↓reduceIte,e8]
    refine zAe ?_;subst hbq
    repeat with_reducible refine zAb fun bq hbq=>?_
    refine zAf (by simp only [zAl,gtOf,zAk];exact rfl) ?_
    simp only [go_sem,↓reduceIte,e0,e1,hi,hr,List.cons_append,List.nil_append]
    refine hf i u hu hno _ _ hless ?_
    simp only [go_sem,↓reduceIte]
    refine zAe ?_;subst hbq
    repeat with_reducible refine zAb fun bq hbq=>?_
    refine zAy (t:=f u) (by simp only [go_sem,↓reduceIte]) ?_ ?_
    ·intro hfu
     rw [if_pos hfu] at hix
     repeat with_reducible refine zAb fun bq hbq=>?_
     refine zAf (by simp only [zAl,gtOf,zAk];exact rfl) ?_
     simp only [go_sem,↓reduceIte]
     refine zAe ?_;subst hbq
     refine zB3 ?_
     repeat first|(with_reducible refine zC8 ?_;clear hbq bq)|with_reducible refine zDb ?_|with_reducible refine zCr ?_|with_reducible refine zB6 ?_
     rw [← hix] at hq
     refine zB2 (h':=h) (by rw [Tryz.results116]) hless ?_ hq
     simp only [go_sem,↓reduceIte,zAo,Option.some.injEq,exists_eq_left']
     exact LeAV.refl _
    ·intro hfu
     rw [if_neg (by rw [hfu];decide)] at hix
     refine zBn ?_
     refine zBf ?_
     refine zAe ?_;subst hbq
     repeat with_reducible refine zAb fun bq hbq=>?_
     refine zAf (by simp only [zAl,gtOf,zAk];exact rfl) ?_
     simp only [go_sem,↓reduceIte,e8,zA6 ((i:Int)+1) (by omega)]
     refine zAp (m:=k - 1) (by omega) ⟨i+1,by omega,?_⟩
     simp only [go_sem,↓reduceIte,e0,e1,e7]
     refine ⟨rfl,hless,fun j v hj hv=>?_,hix⟩
     by_cases e:j=i
     ·subst e;rw [hu] at hv;injection hv with hv;subst hv;exact hfu
     ·exact hno j v (by omega) hv
   ·intro hf;cases hf
  ·have hd:decide (i<l.length)=false:=by simpa using hi
   rw [List.drop_eq_nil_of_le (by omega),zIy] at hix
   simp only [go_sem,↓reduceIte,e7,e8,hd]
   refine zAe ?_;subst hbq
   repeat with_reducible refine zAb fun bq hbq=>?_
   refine zAy (t:=false) (by simp only [go_sem,↓reduceIte]) ?_ ?_
   ·intro hf;cases hf
   ·intro _
    refine zC3 ?_
    repeat first|(with_reducible refine zCi ?_;clear hbq bq)|with_reducible refine zCk ?_|with_reducible refine zBx ?_|with_reducible refine zBq ?_|(with_reducible refine zCs ?_ ?_;focus rfl)
    refine zAe ?_;subst hbq
    repeat with_reducible refine zAb fun bq hbq=>?_
    refine zAf (by simp only [zAl,gtOf,zAk];exact rfl) ?_
    simp only [go_sem,↓reduceIte]
    refine zAe ?_;subst hbq
    rw [← hix] at hq
    refine zCx (h':=h) (by rw [Tryz.results116]) hless ?_ hq
    simp only [go_sem,↓reduceIte,zAo,Option.some.injEq,exists_eq_left']
    exact LeAV.refl _
theorem zUv (l:List Va) (g:FuncId) (first cap:List AV) (f:Va→Bool) (h:zAc) (Q:AOut→zAc→Prop) (hl:l.length≤1000000000) (hf:Asks Tryz.prog encV g first cap l f h) (hq:Q (.ret (.bool (l.any f))) h) :
  zAg Tryz.prog 71 [.list 8 (zAn l) l.length .none,.func (.func g) first cap] h Q:=by
 refine zAg.of_sem (fn:=Tryz.f71) Tryz.func71 rfl (by kernel_rfl) (by rw [Tryz.ntmps71];simp) (enters_of Tryz.func71 (by kernel_rfl) (by kernel_rfl)) ?_
 repeat with_reducible refine zAb fun bq hbq=>?_
 refine zAf (by simp only [zAl,gtOf,zAk];exact rfl) ?_
 simp only [go_sem,↓reduceIte]
 refine zAe ?_;subst hbq
 repeat with_reducible refine zAb fun bq hbq=>?_
 refine zAf (by simp only [zAl,gtOf,zAk];exact rfl) ?_
 simp only [go_sem,↓reduceIte]
 refine z2a l g first cap f h _ hl hf ?_
 simp only [go_sem,↓reduceIte]
 refine zAe ?_;subst hbq
 refine zDr (by rw [Tryz.results71]) (zAh.refl h) ?_
 simp only [go_sem,↓reduceIte,zAo,Option.some.injEq,exists_eq_left']
 exact zBk (by rw [← zTw f l 0 (by decide)]) hq
end Go.Proofs.YthkjmiejaoomcaaGreat.Am
