/- Part of the proof of a law of layer 5: own texts, joined. -/
import Derived.Test.YthkjmiejaoomcaaGreatSg
import Derived.Test.YthkjmiejaoomcaaGreatSh
set_option linter.unusedVariables false
set_option linter.unusedSimpArgs false
set_option linter.unnecessarySimpa false
namespace Go.Proofs.YthkjmiejaoomcaaGreat.Am
open Go Go.RowKit Go.Proofs
set_option linter.unusedVariables false
set_option linter.unusedSimpArgs false
set_option maxRecDepth 100000
set_option maxHeartbeats 1000000
theorem zK6 {α:Type} {c:α→List AV} {z:Nat} (hz:∀ x,(c x).length=z):∀ (l:List α) (k:Nat) {x:α},l[k]?=some x→zCt (l.flatMap c) (k * z) (c x)=l.flatMap c
 |[],k,x,hk=>by simp at hk
 |y::l,0,x,hk=>by
  simp only [List.getElem?_cons_zero,Option.some.injEq] at hk;subst hk
  simp [zCt]
 |y::l,k+1,x,hk=>by
  simp only [List.getElem?_cons_succ] at hk
  have ih:=zK6 hz l k hk
  have hl:=hz x
  have hy:=hz y
  simp only [zCt,List.flatMap_cons] at ih ⊢
  rw [List.take_append,List.drop_append,hy,List.take_of_length_le (by rw [hy,Nat.add_mul];omega),List.drop_eq_nil_of_le (by rw [hy,Nat.add_mul];omega)]
  have e1:(k+1) * z - z=k * z:=by rw [Nat.add_mul];omega
  have e2:(k+1) * z+(c x).length - z=k * z+(c x).length:=by rw [Nat.add_mul];omega
  rw [e1,e2,List.nil_append,List.append_assoc,ih]
theorem zZs (l:List Term) (k:Nat) {x:Term} (hk:l[k]?=some x):zCt (encs l) (k * 4) (zAj x)=encs l:=by
 rw [zB6]
 exact zK6 (z:=4) (fun _=>rfl) l k hk
theorem z97:∀ (s:Nat) (t:Term) (h:zAd) (Q:AOut→zAd→Prop),t.size≤s→t.size≤1000000000→Q (.ret (enc t)) h→zAg Tryz.prog 105 [enc t] h Q:=by
 intro s
 induction s with
 |zero=>intro t h Q ht;obtain ⟨a,b,c,l⟩:=t;rw [Term.size] at ht;omega
 |succ s ih =>
  intro t h Q ht hb hq
  have hlen:t.args.length≤1000000000:=by
   obtain ⟨k,n,nm,l⟩:=t
   rw [Term.size] at hb
   have:∀ l:List Term,l.length≤sizes l:=by
    intro l
    induction l with
    |nil=>exact Nat.zero_le _
    |cons x l ih=>obtain ⟨a,b,c,m⟩:=x;rw [sizes,Term.size,List.length_cons];omega
   have:=this l
   simp only
   omega
  refine zAg.of_sem (fn:=Tryz.f105) Tryz.func105 rfl (by kernel_rfl) (by rw [Tryz.ntmps105];simp) (enters_of Tryz.func105 (by kernel_rfl) (by kernel_rfl)) ?_
  repeat with_reducible refine zAb fun bq hbq=>?_
  refine zAf (by simp only [zAm,gtOf,zAk];exact rfl) ?_
  simp only [go_sem,↓reduceIte]
  intro p hp q hq'
  obtain ⟨hne,hq0⟩:=zDi hq'
  refine zAe ?_;subst hbq
  let I:Nat→Env→zAd→Prop:=fun _ τ h'=>τ 1=.ptr p 0∧τ 2=.ptr q 0∧zAh h' h∧(∃ c0,h' q=some (.cells c0 27)∧c0.length=4)∧∃ X,h' p=some (.cells [.int .i64 t.kind,.int .i64 t.n,.str t.name,X] 27)∧((X=.list 4 [] 0 .full∧t.args=[])∨∃ r,X=.sl r 0 t.args.length∧h' r=some (.cells (encs t.args) 27)∧h r=Option.none∧r≠p∧r≠q)
  refine zPr (I 0) ?_ fun bq hbq τ h' hI=>?_
  ·repeat with_reducible refine zAb fun bq hbq=>?_
   refine zAf (by simp only [zAm,gtOf,zAk];exact rfl) ?_
   simp only [go_sem,↓reduceIte,hne,hne.symm]
   refine z4k t.args _ _ hlen ?_ ?_
   ·intro hnil
    simp only [go_sem,↓reduceIte,hne,hne.symm]
    refine zAl ?_
    refine ⟨rfl,rfl,(((zAh.refl h).new hp).new hq0).new hp,⟨_,by rw [zAa _ _ hne,upd_same],rfl⟩,_,upd_same _ _ _,.inl ⟨rfl,hnil⟩⟩
   ·intro hne' r hr
    have hrp:r≠p∧r≠q∧h r=Option.none:=by
     obtain ⟨e1,h1⟩:=zDi (show upd (upd h p _) q (some _) r=Option.none from hr)
     obtain ⟨e2,h2⟩:=zDi h1
     exact ⟨e2,e1,h2⟩
    simp only [go_sem,↓reduceIte,hne,hne.symm,hrp.1,hrp.1.symm,hrp.2.1,hrp.2.1.symm]
    refine zAl ?_
    refine ⟨rfl,rfl,((((zAh.refl h).new hp).new hq0).new hrp.2.2).new hp,⟨_,by rw [zAa _ _ hne,zAa _ _ hrp.2.1.symm,upd_same],rfl⟩,_,upd_same _ _ _,.inr ⟨r,rfl,?_,hrp.2.2,hrp.1,hrp.2.1⟩⟩
    rw [zAa _ _ hrp.1,upd_same]
  obtain ⟨e1,e2,hl,⟨c0,lq,hc0⟩,X,lp,hX⟩:=hI
  subst hbq
  have hXl:aLen Tryz.prog 25 X=some (.int .i64 t.args.length):=by
   rcases hX with ⟨rfl,e⟩|⟨r,rfl,_⟩
   ·rw [e]
    simp only [go_sem,↓reduceIte]
   ·simp only [go_sem,↓reduceIte]
  repeat with_reducible refine zAb fun bq hbq=>?_
  refine zAf (by simp only [zAm,gtOf,zAk];exact rfl) ?_
  simp only [aLen,yJx] at hXl
  simp only [go_sem,↓reduceIte,e1,lp,hXl]
  refine zAe ?_;subst hbq
  repeat with_reducible refine zAb fun bq hbq=>?_
  refine zA6 fun cq hcq=>?_
  subst hcq
  refine zAz (fun k τ h2=>∃ i:Nat,k+i=t.args.length∧τ 1=.ptr p 0∧τ 2=.ptr q 0∧τ 10=X∧τ 11=.int .i64 t.args.length∧τ 12=.int .i64 i∧zAh h2 h∧h2 q=some (.cells c0 27)∧h2 p=some (.cells [.int .i64 t.kind,.int .i64 t.n,.str t.name,X] 27)∧((X=.list 4 [] 0 .full∧t.args=[])∨∃ r,X=.sl r 0 t.args.length∧h2 r=some (.cells (encs t.args) 27)∧h r=Option.none∧r≠p∧r≠q)) t.args.length ?_ ?_
  ·refine ⟨0,rfl,?_⟩
   simp only [go_sem,↓reduceIte,e1,e2]
   exact ⟨rfl,hl,lq,lp,hX⟩
  ·intro c hc k τ h2 hI
   obtain ⟨i,hk,f1,f2,f10,f11,f12,hl2,mq,mp,hX2⟩:=hI
   subst hc
   repeat with_reducible refine zAb fun bq hbq=>?_
   refine zAf (by simp only [zAm,gtOf,zAk];exact rfl) ?_
   by_cases hi:i<t.args.length
   ·have hd:decide (i<t.args.length)=true:=by simpa using hi
    obtain ⟨u,hu⟩:∃ u,t.args[i]?=some u:=⟨_,List.getElem?_eq_getElem hi⟩
    obtain ⟨rr,hrr⟩:=zB7 t.args i hu
    have hus:=zDl t i hu
    rcases hX2 with ⟨_,e⟩|⟨r,rfl,mr,nr,nrp,nrq⟩
    ·rw [e] at hi;exact absurd hi (Nat.not_lt_zero _)
    simp only [go_sem,↓reduceIte,f11,f12,hd]
    refine zAe ?_;subst hbq
    repeat with_reducible refine zAb fun bq hbq=>?_
    refine zA0 (t:=true) (by simp only [go_sem,↓reduceIte]) ?_ ?_
    ·intro _
     refine zBk ?_
     refine zAe ?_;subst hbq
     repeat with_reducible refine zAb fun bq hbq=>?_
     refine zA6 fun cq hcq=>?_
     subst hcq
     repeat with_reducible refine zAb fun bq hbq=>?_
     refine zAf (by simp only [zAm,gtOf,zAk];exact rfl) ?_
     simp only [go_sem,↓reduceIte,f10,f12,hi,mr,hrr]
     intro w hw
     have w1:=zAc hw mp
     have w2:=zAc hw mq
     have w3:=zAc hw mr
     generalize hh3:upd (upd h2 w _) w _=h3
     have x3:=(congrFun hh3.symm w).trans (upd_same _ _ _)
     have p3:=(congrFun hh3.symm p).trans ((zAa _ _ w1).trans ((zAa _ _ w1).trans mp))
     have q3:=(congrFun hh3.symm q).trans ((zAa _ _ w2).trans ((zAa _ _ w2).trans mq))
     have r3:=(congrFun hh3.symm r).trans ((zAa _ _ w3).trans ((zAa _ _ w3).trans mr))
     have hl3:zAh h3 h:=by rw [← hh3];exact (hl2.new (hl2.none hw)).new (hl2.none hw)
     clear hh3
     refine zAe ?_;subst hbq
     repeat with_reducible refine zAb fun bq hbq=>?_
     refine zA9 (.take 0 (.take 1 (.take 2 (.take 3 (.one 4 [1] (.take 5 (.one 6 [] (.done)))))))) (by kernel_rfl) (by simp only [zAm,gtOf,zAk];exact rfl) ?_
     simp only [go_sem,↓reduceIte,f1,p3,x3]
     refine ih u _ _ (by omega) (by omega) ?_
     have hle:i * 4+4≤(encs t.args).length:=by rw [zDk];omega
     have hsp:=zZs t.args i hu
     simp only [zCt,List.length_cons,List.length_nil,List.cons_append,List.nil_append,Nat.reduceAdd] at hsp
     simp only [go_sem,↓reduceIte,hi,r3,p3,x3,hle,hsp]
     refine zBe ?_
     refine zAe ?_;subst hbq
     repeat with_reducible refine zAb fun bq hbq=>?_
     refine zAf (by simp only [zAm,gtOf,zAk];exact rfl) ?_
     simp only [go_sem,↓reduceIte,f12,zA3 ((i:Int)+1) (by omega)]
     refine zAp (m:=k - 1) (by omega) ⟨i+1,by omega,?_⟩
     simp only [go_sem,↓reduceIte,f1,f2,f10,f11,nrq.symm,nrp.symm,p3,q3]
     exact ⟨rfl,hl3.new nr,.inr ⟨r,rfl,by simp,nr,nrp,nrq⟩⟩
    ·intro hf;cases hf
   ·have hd:decide (i<t.args.length)=false:=by simpa using hi
    have hdr:List.drop 4 c0=[]:=List.drop_eq_nil_of_le (by omega)
    simp only [go_sem,↓reduceIte,f11,f12,hd]
    refine zAe ?_;subst hbq
    repeat with_reducible refine zAb fun bq hbq=>?_
    refine zA0 (t:=false) (by simp only [go_sem,↓reduceIte]) ?_ ?_
    ·intro hf;cases hf
    ·intro _
     refine zC6 ?_
     repeat first|(with_reducible refine zCk ?_;clear hbq bq)|with_reducible refine zCl ?_|with_reducible refine zBu ?_|with_reducible refine zBq ?_|(with_reducible refine zCs ?_ ?_;focus rfl)
     refine zAe ?_;subst hbq
     repeat with_reducible refine zAb fun bq hbq=>?_
     refine zAf (by simp only [zAm,gtOf,zAk];exact rfl) ?_
     rcases hX2 with ⟨rfl,e⟩|⟨r,rfl,mr,nr,nrp,nrq⟩
     ·simp only [go_sem,↓reduceIte,f1,f2,mp,mq,hc0,hdr]
      refine zAe ?_;subst hbq
      refine zC3 (v:=enc t) (by rw [Tryz.results105]) (hl2.new hq0) ?_ hq
      simp only [go_sem,↓reduceIte,f2,zAo,Option.some.injEq,exists_eq_left']
      show LeAV _ (AV.agg [_,_,_,AV.list 4 (encs t.args) t.args.length .none])
      rw [e,zBa]
      exact LeAV.agg (.cons (LeAV.refl _) (.cons (LeAV.refl _) (.cons (LeAV.refl _) (.cons (LeAV.list _ _ _ _) .nil))))
     ·simp only [go_sem,↓reduceIte,f1,f2,mp,mq,hc0,hdr]
      refine zAe ?_;subst hbq
      refine zKi (h':=h) (p:=r) (z:=4) (n:=t.args.length) (cs:=encs t.args) (T:=27) (by rw [Tryz.results105]) ?_ (zDk _) (zMd _) (hl2.new hq0) nr ?_ hq
      ·rw [zAa _ _ nrq];exact mr
      ·simp only [go_sem,↓reduceIte,f2,zAo,Option.some.injEq,exists_eq_left']
       exact LeF.agg (.cons (LeF.refl _) (.cons (LeF.refl _) (.cons (LeF.refl _) (.cons LeF.here .nil))))
structure Ty where
 name:ByteArray
 args:List Ty
def zCg:List Ty→List AV
 |[]=>[]
 |⟨s,l⟩::ts=>.str s::.list 2 (zCg l) l.length .none::zCg ts
abbrev zBz (t:Ty):List AV:=[.str t.name,.list 2 (zCg t.args) t.args.length .none]
abbrev zKd (t:Ty):AV:=.agg (zBz t)
theorem zFa (t:Ty) (ts:List Ty):zCg (t::ts)=.str t.name::.list 2 (zCg t.args) t.args.length .none::zCg ts:=by cases t;rw [zCg]
theorem zHm:∀ ts:List Ty,zCg ts=ts.flatMap zBz
 |[]=>by rw [zCg];rfl
 |t::ts=>by rw [zFa,zHm ts];rfl
theorem zO0 (ts:List Ty) (k:Nat) {t:Ty} (hk:ts[k]?=some t):∃ r,(zCg ts).drop (k * 2)=.str t.name::.list 2 (zCg t.args) t.args.length .none::r:=by
 rw [zHm]
 exact zL6 (z:=2) (fun _=>rfl) ts k hk
theorem zJp:zCg []=[]:=by rw [zCg]
mutual
def Ty.size:Ty→Nat
 |⟨_,l⟩=>zI5 l+1
def zI5:List Ty→Nat
 |[]=>0
 |t::ts=>t.size+zI5 ts
end
theorem z0j:∀ (l:List Ty) (k:Nat) {t:Ty},l[k]?=some t→t.size≤zI5 l
 |[],k,t,hk=>by simp at hk
 |y::l,0,t,hk=>by simp only [List.getElem?_cons_zero,Option.some.injEq] at hk;subst hk;rw [zI5];omega
 |y::l,k+1,t,hk=>by
  simp only [List.getElem?_cons_succ] at hk
  have:=z0j l k hk
  rw [zI5];omega
theorem zLp (u:Ty) (k:Nat) {t:Ty} (hk:u.args[k]?=some t):t.size<u.size:=by
 have:=z0j u.args k hk
 obtain ⟨c,l⟩:=u
 rw [Ty.size]
 exact Nat.lt_succ_of_le this
theorem zMh:zA8 Tryz.prog 40 0 []=some (.list 2 [] 0 .full):=by
 simp only [zA8,zOh,zVj,zRj,zEt];rfl
theorem zZw (ts:List Ty) (h:zAd) (Q:AOut→zAd→Prop) (hn:ts.length≤1000000000) (h0:ts=[]→Q (.ret (.list 2 [] 0 .full)) h) (h1:ts≠[]→∀ p,h p=Option.none→Q (.ret (.sl p 0 ts.length)) (upd h p (some (.cells (zCg ts) 60)))) :
  zAg Tryz.prog 129 [.list 2 (zCg ts) ts.length .none] h Q:=by
 refine zAg.of_sem (fn:=Tryz.f129) Tryz.func129 rfl (by kernel_rfl) (by rw [Tryz.ntmps129];simp) (enters_of Tryz.func129 (by kernel_rfl) (by kernel_rfl)) ?_
 repeat refine zAb fun bq hbq=>?_
 refine zAf (by simp only [zAm,gtOf,zAk];exact rfl) ?_
 simp only [go_sem,↓reduceIte]
 refine zAe ?_;subst hbq
 repeat refine zAb fun bq hbq=>?_
 refine zAf (by simp only [zAm,gtOf,zAk];exact rfl) ?_
 by_cases hts:ts=[]
 ·subst hts
  simp only [go_sem,↓reduceIte]
  refine zAe ?_;subst hbq
  repeat refine zAb fun bq hbq=>?_
  refine zI9 (by simp only [go_sem,↓reduceIte]) ?_ ?_
  ·repeat refine zAb fun bq hbq=>?_
   refine zAf (by simp only [zAm,gtOf,zAk];exact rfl) ?_
   simp only [go_sem,↓reduceIte]
   refine zAe ?_;subst hbq
   refine zB9 ?_
   repeat first|(refine zDd ?_;clear hbq bq)|refine zDj ?_|refine zCr ?_|refine zCb ?_
   refine zBx (v:=.list 2 [] 0 .full) (by rw [Tryz.results129]) (zAh.refl h) ?_ (h0 rfl)
   simp only [go_sem,↓reduceIte,zAo,Option.some.injEq,exists_eq_left']
   exact LeAV.nil_full _ _
  ·refine zBk ?_
   refine zAe ?_;subst hbq
   repeat refine zAb fun bq hbq=>?_
   refine zAf (by simp only [zAm,gtOf,zAk];exact rfl) ?_
   simp only [go_sem,↓reduceIte,zMh]
   refine zAw ?_
   simp only [go_sem,↓reduceIte,zMh]
   intro p hp
   rw [zHe zOh zOh zVj yAe zRj ⟨rfl,by decide⟩ (.inl rfl) (.inl rfl) (by decide)]
   refine zAe ?_;subst hbq
   refine zC3 (v:=.list 2 [] 0 .full) (by rw [Tryz.results129]) (zAh.refl h) ?_ (h0 rfl)
   simp only [go_sem,↓reduceIte,zAo,Option.some.injEq,exists_eq_left']
   exact LeAV.refl _
 ·have hl:ts.length≠0:=by simpa using hts
  simp only [go_sem,↓reduceIte,hl]
  refine zAe ?_;subst hbq
  repeat refine zAb fun bq hbq=>?_
  refine zA0 (t:=false) (by simp only [go_sem,↓reduceIte]) ?_ ?_
  ·intro hf;cases hf
  ·intro _
   refine zBk ?_
   refine zAe ?_;subst hbq
   repeat refine zAb fun bq hbq=>?_
   refine zAf (by simp only [zAm,gtOf,zAk];exact rfl) ?_
   simp only [go_sem,↓reduceIte,zMh]
   refine zCp ?_
   simp only [go_sem,↓reduceIte,zDm,zMh]
   intro p hp
   rw [zJd zOh zOh zVj yAe zRj ⟨rfl,by decide⟩ (.inl rfl) (.inl rfl) rfl hl (by omega)]
   refine zAe ?_;subst hbq
   refine zDw (by rw [Tryz.results129]) (zAh.refl _) ?_
   simp only [go_sem,↓reduceIte,zAo,Option.some.injEq,exists_eq_left']
   exact h1 hts p hp
theorem zE9 (l:List Ty):(zCg l).length=l.length * 2:=by
 rw [zHm,List.length_flatMap]
 induction l with
 |nil=>rfl
 |cons t l ih=>simp only [List.map_cons,List.sum_cons,List.length_cons,List.length_nil] at ih ⊢;omega
theorem zNm:∀ l:List Ty,(zCg l).all AV.flat=true
 |[]=>by rw [zCg];rfl
 |t::l=>by rw [zFa];simp only [List.all_cons,AV.flat,zNm l,Bool.and_self]
theorem zXb (l:List Ty) (k:Nat) {x:Ty} (hk:l[k]?=some x):zCt (zCg l) (k * 2) (zBz x)=zCg l:=by
 rw [zHm]
 exact zK6 (z:=2) (fun _=>rfl) l k hk
theorem zZv:∀ (s:Nat) (t:Ty) (h:zAd) (Q:AOut→zAd→Prop),t.size≤s→t.size≤1000000000→Q (.ret (zKd t)) h→zAg Tryz.prog 85 [zKd t] h Q:=by
 intro s
 induction s with
 |zero=>intro t h Q ht;obtain ⟨c,l⟩:=t;rw [Ty.size] at ht;omega
 |succ s ih =>
  intro t h Q ht hb hq
  have hlen:t.args.length≤1000000000:=by
   obtain ⟨nm,l⟩:=t
   rw [Ty.size] at hb
   have:∀ l:List Ty,l.length≤zI5 l:=by
    intro l
    induction l with
    |nil=>exact Nat.zero_le _
    |cons x l ih=>obtain ⟨c,m⟩:=x;rw [zI5,Ty.size,List.length_cons];omega
   have:=this l
   simp only
   omega
  refine zAg.of_sem (fn:=Tryz.f85) Tryz.func85 rfl (by kernel_rfl) (by rw [Tryz.ntmps85];simp) (enters_of Tryz.func85 (by kernel_rfl) (by kernel_rfl)) ?_
  repeat refine zAb fun bq hbq=>?_
  refine zAf (by simp only [zAm,gtOf,zAk];exact rfl) ?_
  simp only [go_sem,↓reduceIte]
  intro p hp q hq'
  obtain ⟨hne,hq0⟩:=zDi hq'
  refine zAe ?_;subst hbq
  let I:Nat→Env→zAd→Prop:=fun _ τ h'=>τ 1=.ptr p 0∧τ 2=.ptr q 0∧zAh h' h∧(∃ c0,h' q=some (.cells c0 60)∧c0.length=2)∧∃ X,h' p=some (.cells [.str t.name,X] 60)∧((X=.list 2 [] 0 .full∧t.args=[])∨∃ r,X=.sl r 0 t.args.length∧h' r=some (.cells (zCg t.args) 60)∧h r=Option.none∧r≠p∧r≠q)
  refine zPr (I 0) ?_ fun bq hbq τ h' hI=>?_
  ·repeat refine zAb fun bq hbq=>?_
   refine zAf (by simp only [zAm,gtOf,zAk];exact rfl) ?_
   simp only [go_sem,↓reduceIte,hne,hne.symm]
   refine zZw t.args _ _ hlen ?_ ?_
   ·intro hnil
    simp only [go_sem,↓reduceIte,hne,hne.symm]
    refine zAl ?_
    refine ⟨rfl,rfl,(((zAh.refl h).new hp).new hq0).new hp,⟨_,by rw [zAa _ _ hne,upd_same],rfl⟩,_,upd_same _ _ _,.inl ⟨rfl,hnil⟩⟩
   ·intro hne' r hr
    have hrp:r≠p∧r≠q∧h r=Option.none:=by
     obtain ⟨e1,h1⟩:=zDi (show upd (upd h p _) q (some _) r=Option.none from hr)
     obtain ⟨e2,h2⟩:=zDi h1
     exact ⟨e2,e1,h2⟩
    simp only [go_sem,↓reduceIte,hne,hne.symm,hrp.1,hrp.1.symm,hrp.2.1,hrp.2.1.symm]
    refine zAl ?_
    refine ⟨rfl,rfl,((((zAh.refl h).new hp).new hq0).new hrp.2.2).new hp,⟨_,by rw [zAa _ _ hne,zAa _ _ hrp.2.1.symm,upd_same],rfl⟩,_,upd_same _ _ _,.inr ⟨r,rfl,?_,hrp.2.2,hrp.1,hrp.2.1⟩⟩
    rw [zAa _ _ hrp.1,upd_same]
  obtain ⟨e1,e2,hl,⟨c0,lq,hc0⟩,X,lp,hX⟩:=hI
  subst hbq
  have hXl:aLen Tryz.prog 40 X=some (.int .i64 t.args.length):=by
   rcases hX with ⟨rfl,e⟩|⟨r,rfl,_⟩
   ·rw [e]
    simp only [go_sem,↓reduceIte]
   ·simp only [go_sem,↓reduceIte]
  repeat refine zAb fun bq hbq=>?_
  refine zAf (by simp only [zAm,gtOf,zAk];exact rfl) ?_
  simp only [aLen,yJw] at hXl
  simp only [go_sem,↓reduceIte,e1,lp,hXl]
  refine zAe ?_;subst hbq
  repeat refine zAb fun bq hbq=>?_
  refine zA6 fun cq hcq=>?_
  subst hcq
  refine zAz (fun k τ h2=>∃ i:Nat,k+i=t.args.length∧τ 1=.ptr p 0∧τ 2=.ptr q 0∧τ 10=X∧τ 11=.int .i64 t.args.length∧τ 12=.int .i64 i∧zAh h2 h∧h2 q=some (.cells c0 60)∧h2 p=some (.cells [.str t.name,X] 60)∧((X=.list 2 [] 0 .full∧t.args=[])∨∃ r,X=.sl r 0 t.args.length∧h2 r=some (.cells (zCg t.args) 60)∧h r=Option.none∧r≠p∧r≠q)) t.args.length ?_ ?_
  ·refine ⟨0,rfl,?_⟩
   simp only [go_sem,↓reduceIte,e1,e2]
   exact ⟨rfl,hl,lq,lp,hX⟩
  ·intro c hc k τ h2 hI
   obtain ⟨i,hk,f1,f2,f10,f11,f12,hl2,mq,mp,hX2⟩:=hI
   subst hc
   repeat refine zAb fun bq hbq=>?_
   refine zAf (by simp only [zAm,gtOf,zAk];exact rfl) ?_
   by_cases hi:i<t.args.length
   ·have hd:decide (i<t.args.length)=true:=by simpa using hi
    obtain ⟨u,hu⟩:∃ u,t.args[i]?=some u:=⟨_,List.getElem?_eq_getElem hi⟩
    obtain ⟨rr,hrr⟩:=zO0 t.args i hu
    have hus:=zLp t i hu
    rcases hX2 with ⟨_,e⟩|⟨r,rfl,mr,nr,nrp,nrq⟩
    ·rw [e] at hi;exact absurd hi (Nat.not_lt_zero _)
    simp only [go_sem,↓reduceIte,f11,f12,hd]
    refine zAe ?_;subst hbq
    repeat refine zAb fun bq hbq=>?_
    refine zA0 (t:=true) (by simp only [go_sem,↓reduceIte]) ?_ ?_
    ·intro _
     refine zBk ?_
     refine zAe ?_;subst hbq
     repeat refine zAb fun bq hbq=>?_
     refine zA6 fun cq hcq=>?_
     subst hcq
     repeat refine zAb fun bq hbq=>?_
     refine zAf (by simp only [zAm,gtOf,zAk];exact rfl) ?_
     simp only [go_sem,↓reduceIte,f10,f12,hi,mr,hrr]
     intro w hw
     have w1:=zAc hw mp
     have w2:=zAc hw mq
     have w3:=zAc hw mr
     generalize hh3:upd (upd h2 w _) w _=h3
     have x3:=(congrFun hh3.symm w).trans (upd_same _ _ _)
     have p3:=(congrFun hh3.symm p).trans ((zAa _ _ w1).trans ((zAa _ _ w1).trans mp))
     have q3:=(congrFun hh3.symm q).trans ((zAa _ _ w2).trans ((zAa _ _ w2).trans mq))
     have r3:=(congrFun hh3.symm r).trans ((zAa _ _ w3).trans ((zAa _ _ w3).trans mr))
     have hl3:zAh h3 h:=by rw [← hh3];exact (hl2.new (hl2.none hw)).new (hl2.none hw)
     clear hh3
     refine zAe ?_;subst hbq
     repeat refine zAb fun bq hbq=>?_
     refine zA9 (.take 0 (.take 1 (.take 2 (.take 3 (.one 4 [1] (.take 5 (.one 6 [] (.done)))))))) (by kernel_rfl) (by simp only [zAm,gtOf,zAk];exact rfl) ?_
     simp only [go_sem,↓reduceIte,f1,p3,x3]
     refine ih u _ _ (by omega) (by omega) ?_
     have hle:i * 2+2≤(zCg t.args).length:=by rw [zE9];omega
     have hsp:=zXb t.args i hu
     simp only [zCt,List.length_cons,List.length_nil,List.cons_append,List.nil_append,Nat.reduceAdd] at hsp
     simp only [go_sem,↓reduceIte,hi,r3,p3,x3,hle,hsp]
     refine zBe ?_
     refine zAe ?_;subst hbq
     repeat refine zAb fun bq hbq=>?_
     refine zAf (by simp only [zAm,gtOf,zAk];exact rfl) ?_
     simp only [go_sem,↓reduceIte,f12,zA3 ((i:Int)+1) (by omega)]
     refine zAp (m:=k - 1) (by omega) ⟨i+1,by omega,?_⟩
     simp only [go_sem,↓reduceIte,f1,f2,f10,f11,nrq.symm,nrp.symm,p3,q3]
     exact ⟨rfl,hl3.new nr,.inr ⟨r,rfl,by simp,nr,nrp,nrq⟩⟩
    ·intro hf;cases hf
   ·have hd:decide (i<t.args.length)=false:=by simpa using hi
    have hdr:List.drop 2 c0=[]:=List.drop_eq_nil_of_le (by omega)
    simp only [go_sem,↓reduceIte,f11,f12,hd]
    refine zAe ?_;subst hbq
    repeat refine zAb fun bq hbq=>?_
    refine zA0 (t:=false) (by simp only [go_sem,↓reduceIte]) ?_ ?_
    ·intro hf;cases hf
    ·intro _
     refine zC6 ?_
     repeat first|(refine zCk ?_;clear hbq bq)|refine zCl ?_|refine zBu ?_|refine zBq ?_|refine zCs rfl ?_
     refine zAe ?_;subst hbq
     repeat refine zAb fun bq hbq=>?_
     refine zAf (by simp only [zAm,gtOf,zAk];exact rfl) ?_
     rcases hX2 with ⟨rfl,e⟩|⟨r,rfl,mr,nr,nrp,nrq⟩
     ·simp only [go_sem,↓reduceIte,f1,f2,mp,mq,hc0,hdr]
      refine zAe ?_;subst hbq
      refine zC3 (v:=zKd t) (by rw [Tryz.results85]) (hl2.new hq0) ?_ hq
      simp only [go_sem,↓reduceIte,f2,zAo,Option.some.injEq,exists_eq_left']
      show LeAV _ (AV.agg [_,AV.list 2 (zCg t.args) t.args.length .none])
      rw [e,zJp]
      exact LeAV.agg (.cons (LeAV.refl _) (.cons (LeAV.list _ _ _ _) .nil))
     ·simp only [go_sem,↓reduceIte,f1,f2,mp,mq,hc0,hdr]
      refine zAe ?_;subst hbq
      refine zKi (h':=h) (p:=r) (z:=2) (n:=t.args.length) (cs:=zCg t.args) (T:=60) (by rw [Tryz.results85]) ?_ (zE9 _) (zNm _) (hl2.new hq0) nr ?_ hq
      ·rw [zAa _ _ nrq];exact mr
      ·simp only [go_sem,↓reduceIte,f2,zAo,Option.some.injEq,exists_eq_left']
       exact LeF.agg (.cons (LeF.refl _) (.cons LeF.here .nil))
structure Va where
 level:Int
 type:Ty
 is:Bool
 t:Term
abbrev zBc (v:Va):List AV:=[.int .i64 v.level,.str v.type.name,.list 2 (zCg v.type.args) v.type.args.length .none,.bool v.is,.int .i64 v.t.kind,.int .i64 v.t.n,.str v.t.name,.list 4 (encs v.t.args) v.t.args.length .none]
abbrev encV (v:Va):AV:=.agg (zBc v)
def zAn (l:List Va):List AV:=l.flatMap zBc
theorem zEr (ts:List Va) (k:Nat) {v:Va} (hk:ts[k]?=some v):∃ r,(zAn ts).drop (k * 8)=zBc v++r:=zL6 (z:=8) (fun _=>rfl) ts k hk
theorem zEn (l:List Va):(zAn l).length=l.length * 8:=by
 rw [zAn,List.length_flatMap]
 induction l with
 |nil=>rfl
 |cons t l ih=>simp only [List.map_cons,List.sum_cons,List.length_cons,List.length_nil] at ih ⊢;omega
theorem zJ4:∀ l:List Va,(zAn l).all AV.flat=true
 |[]=>rfl
 |t::l=>by
  have:=zJ4 l
  unfold zAn at this ⊢
  rw [List.flatMap_cons,List.all_append,this];rfl
theorem zPh {l m:List AV} {off:Nat} (h:(l.drop off).take m.length=m):zCt l off m=l:=by
 unfold zCt
 have h1:m++l.drop (off+m.length)=l.drop off:=by
  rw [← List.drop_drop]
  conv=>lhs;lhs;rw [← h]
  exact List.take_append_drop _ _
 rw [h1]
 exact List.take_append_drop _ _
theorem zJr:zA8 Tryz.prog 22 0 []=some (.list 8 [] 0 .full):=by
 simp only [zA8,zI0,zPg,zLj,zEt];rfl
theorem zZx (ts:List Va) (h:zAd) (Q:AOut→zAd→Prop) (hn:ts.length≤1000000000) (h0:ts=[]→Q (.ret (.list 8 [] 0 .full)) h) (h1:ts≠[]→∀ p,h p=Option.none→Q (.ret (.sl p 0 ts.length)) (upd h p (some (.cells (zAn ts) 62)))) :
  zAg Tryz.prog 104 [.list 8 (zAn ts) ts.length .none] h Q:=by
 refine zAg.of_sem (fn:=Tryz.f104) Tryz.func104 rfl (by kernel_rfl) (by rw [Tryz.ntmps104];simp) (enters_of Tryz.func104 (by kernel_rfl) (by kernel_rfl)) ?_
 repeat refine zAb fun bq hbq=>?_
 refine zAf (by simp only [zAm,gtOf,zAk];exact rfl) ?_
 simp only [go_sem,↓reduceIte]
 refine zAe ?_;subst hbq
 repeat refine zAb fun bq hbq=>?_
 refine zAf (by simp only [zAm,gtOf,zAk];exact rfl) ?_
 by_cases hts:ts=[]
 ·subst hts
  simp only [go_sem,↓reduceIte]
  refine zAe ?_;subst hbq
  repeat refine zAb fun bq hbq=>?_
  refine zI9 (by simp only [go_sem,↓reduceIte]) ?_ ?_
  ·repeat refine zAb fun bq hbq=>?_
   refine zAf (by simp only [zAm,gtOf,zAk];exact rfl) ?_
   simp only [go_sem,↓reduceIte]
   refine zAe ?_;subst hbq
   refine zB9 ?_
   repeat first|(refine zDd ?_;clear hbq bq)|refine zDj ?_|refine zCr ?_|refine zCb ?_
   refine zBx (v:=.list 8 [] 0 .full) (by rw [Tryz.results104]) (zAh.refl h) ?_ (h0 rfl)
   simp only [go_sem,↓reduceIte,zAo,Option.some.injEq,exists_eq_left']
   exact LeAV.nil_full _ _
  ·refine zBk ?_
   refine zAe ?_;subst hbq
   repeat refine zAb fun bq hbq=>?_
   refine zAf (by simp only [zAm,gtOf,zAk];exact rfl) ?_
   simp only [go_sem,↓reduceIte,zJr]
   refine zAw ?_
   simp only [go_sem,↓reduceIte,zJr]
   intro p hp
   rw [zHe zI0 zI0 zPg zXj zLj ⟨rfl,by decide⟩ (.inl rfl) (.inl rfl) (by decide)]
   refine zAe ?_;subst hbq
   refine zC3 (v:=.list 8 [] 0 .full) (by rw [Tryz.results104]) (zAh.refl h) ?_ (h0 rfl)
   simp only [go_sem,↓reduceIte,zAo,Option.some.injEq,exists_eq_left']
   exact LeAV.refl _
 ·have hl:ts.length≠0:=by simpa using hts
  simp only [go_sem,↓reduceIte,hl]
  refine zAe ?_;subst hbq
  repeat refine zAb fun bq hbq=>?_
  refine zA0 (t:=false) (by simp only [go_sem,↓reduceIte]) ?_ ?_
  ·intro hf;cases hf
  ·intro _
   refine zBk ?_
   refine zAe ?_;subst hbq
   repeat refine zAb fun bq hbq=>?_
   refine zAf (by simp only [zAm,gtOf,zAk];exact rfl) ?_
   simp only [go_sem,↓reduceIte,zJr]
   refine zCp ?_
   simp only [go_sem,↓reduceIte,zDm,zJr]
   intro p hp
   rw [zJd zI0 zI0 zPg zXj zLj ⟨rfl,by decide⟩ (.inl rfl) (.inl rfl) rfl hl (by omega)]
   refine zAe ?_;subst hbq
   refine zDw (by rw [Tryz.results104]) (zAh.refl _) ?_
   simp only [go_sem,↓reduceIte,zAo,Option.some.injEq,exists_eq_left']
   exact h1 hts p hp
theorem zSt (vs:List Va) (i:Nat) {v:Va} (hv:vs[i]?=some v) (o n:Nat) (hn:o+n≤8):(List.drop (i * 8+o) (zAn vs)).take n=((zBc v).drop o).take n:=by
 obtain ⟨r,hr⟩:=zEr vs i hv
 rw [← List.drop_drop,hr,List.drop_append,List.take_append]
 have:(zBc v).length=8:=rfl
 rw [show n - ((zBc v).drop o).length=0 by rw [List.length_drop,this];omega]
 simp
theorem zOd (sz:Nat) (c:List AV) (n:Nat) (t:Tok):zCh Tryz.prog 24 [(0,.list sz c n t)]=some (.agg [.list sz c n t]):=by
 simp only [zCh,yA8,yCa,zEt]
 rfl
theorem z4o (r n:Nat):zCh Tryz.prog 24 [(0,.sl r 0 n)]=some (.agg [.sl r 0 n]):=by
 simp only [zCh,yA8,yCa,zEt]
 rfl
theorem zF4 (vs:List Va) (h:zAd) (Q:AOut→zAd→Prop) (hn:vs.length≤1000000000) (hs:∀ v ∈ vs,v.type.size≤1000000000∧v.t.size≤1000000000) (h0:vs=[]→Q (.ret (.agg [.list 8 [] 0 .full])) h)
  (h1:vs≠[]→∀ p,h p=Option.none→Q (.ret (.agg [.sl p 0 vs.length])) (upd h p (some (.cells (zAn vs) 62)))):zAg Tryz.prog 58 [.agg [.list 8 (zAn vs) vs.length .none]] h Q:=by
 refine zAg.of_sem (fn:=Tryz.f58) Tryz.func58 rfl (by kernel_rfl) (by rw [Tryz.ntmps58];simp) (enters_of Tryz.func58 (by kernel_rfl) (by kernel_rfl)) ?_
 repeat refine zAb fun bq hbq=>?_
 refine zAf (by simp only [zAm,gtOf,zAk];exact rfl) ?_
 simp only [go_sem,↓reduceIte]
 intro p hp q hq'
 obtain ⟨hne,hq0⟩:=zDi hq'
 refine zAe ?_;subst hbq
 let I:Env→zAd→Prop:=fun τ h'=>τ 2=.ptr q 0∧zAh h' h∧(∃ c0,h' q=some (.cells c0 24)∧c0.length=1)∧((τ 3=.list 8 [] 0 .full∧vs=[])∨∃ r,τ 3=.sl r 0 vs.length∧h' r=some (.cells (zAn vs) 62)∧h r=Option.none∧r≠q∧vs≠[])
 refine zPr (I) ?_ fun bq hbq τ h' hI=>?_
 ·repeat refine zAb fun bq hbq=>?_
  refine zAf (by simp only [zAm,gtOf,zAk];exact rfl) ?_
  simp only [go_sem,↓reduceIte,hne,hne.symm]
  refine zZx vs _ _ hn ?_ ?_
  ·intro hnil
   simp only [go_sem,↓reduceIte,hne,hne.symm]
   refine zAl ?_
   exact ⟨rfl,((zAh.refl h).new hp).new hq0,⟨_,by rw [upd_same],rfl⟩,.inl ⟨rfl,hnil⟩⟩
  ·intro hne' r hr
   have hrp:r≠p∧r≠q∧h r=Option.none:=by
    obtain ⟨e1,h1⟩:=zDi (show upd (upd h p _) q (some _) r=Option.none from hr)
    obtain ⟨e2,h2⟩:=zDi h1
    exact ⟨e2,e1,h2⟩
   simp only [go_sem,↓reduceIte,hne,hne.symm,hrp.1,hrp.1.symm,hrp.2.1,hrp.2.1.symm]
   refine zAl ?_
   exact ⟨rfl,(((zAh.refl h).new hp).new hq0).new hrp.2.2,⟨_,by rw [zAa _ _ hrp.2.1.symm,upd_same],rfl⟩,.inr ⟨r,rfl,upd_same _ _ _,hrp.2.2,hrp.2.1,hne'⟩⟩
 obtain ⟨e2,hl,⟨c0,lq,hc0⟩,hX⟩:=hI
 subst hbq
 have hdr:List.drop 1 c0=[]:=List.drop_eq_nil_of_le (by omega)
 repeat refine zAb fun bq hbq=>?_
 refine zAf (by simp only [zAm,gtOf,zAk];exact rfl) ?_
 rcases hX with ⟨e3,hnil⟩|⟨r,e3,lr,nr,nrq,hne'⟩
 ·simp only [go_sem,↓reduceIte,e3]
  refine zAe ?_;subst hbq
  repeat refine zAb fun bq hbq=>?_
  refine zA6 fun cq hcq=>?_
  subst hcq
  refine zAz (fun k τ h2=>τ 2=.ptr q 0∧τ 3=.list 8 [] 0 .full∧τ 10=.int .i64 0∧τ 11=.int .i64 0∧h2=h') 0 ?_ ?_
  ·simp only [go_sem,↓reduceIte,e2,e3]
   exact rfl
  ·intro c hc k τ h2 hI
   obtain ⟨f2,f3,f10,f11,rfl⟩:=hI
   subst hc
   repeat refine zAb fun bq hbq=>?_
   refine zAf (by simp only [zAm,gtOf,zAk];exact rfl) ?_
   simp only [go_sem,↓reduceIte,f10,f11,Int.lt_irrefl,Nat.lt_irrefl,decide_false]
   refine zAe ?_;subst hbq
   repeat refine zAb fun bq hbq=>?_
   refine zA0 (t:=false) (by simp only [go_sem,↓reduceIte]) ?_ ?_
   ·intro hf;cases hf
   ·intro _
    refine zC6 ?_
    repeat first|(refine zCk ?_;clear hbq bq)|refine zCl ?_|refine zBu ?_|refine zBq ?_|refine zCs rfl ?_
    refine zAe ?_;subst hbq
    repeat refine zAb fun bq hbq=>?_
    refine zAf (by simp only [zAm,gtOf,zAk];exact rfl) ?_
    simp only [go_sem,↓reduceIte,f2,f3,lq,hc0,hdr,zOd]
    refine zAe ?_;subst hbq
    refine zC3 (v:=.agg [.list 8 [] 0 .full]) (by rw [Tryz.results58]) (hl.new hq0) ?_ (h0 hnil)
    simp only [go_sem,↓reduceIte,f2,f10,f11,zAo,Option.some.injEq,exists_eq_left']
    exact LeAV.refl _
 ·simp only [go_sem,↓reduceIte,e3]
  refine zAe ?_;subst hbq
  repeat refine zAb fun bq hbq=>?_
  refine zA6 fun cq hcq=>?_
  subst hcq
  refine zAz (fun k τ h2=>∃ i:Nat,k+i=vs.length∧τ 2=.ptr q 0∧τ 3=.sl r 0 vs.length∧τ 9=.sl r 0 vs.length∧τ 10=.int .i64 vs.length∧τ 11=.int .i64 i∧zAh h2 h∧h2 q=some (.cells c0 24)∧h2 r=some (.cells (zAn vs) 62)) vs.length ?_ ?_
  ·refine ⟨0,rfl,?_⟩
   simp only [go_sem,↓reduceIte,e2,e3]
   exact ⟨rfl,hl,lq,lr⟩
  ·intro c hc k τ h2 hI
   obtain ⟨i,hk,f2,f3,f9,f10,f11,hl2,mq,mr⟩:=hI
   subst hc
   repeat refine zAb fun bq hbq=>?_
   refine zAf (by simp only [zAm,gtOf,zAk];exact rfl) ?_
   by_cases hi:i<vs.length
   ·have hd:decide (i<vs.length)=true:=by simpa using hi
    obtain ⟨u,hu⟩:∃ u,vs[i]?=some u:=⟨_,List.getElem?_eq_getElem hi⟩
    obtain ⟨rr,hrr⟩:=zEr vs i hu
    have hsz:=hs u (List.mem_of_getElem? hu)
    simp only [go_sem,↓reduceIte,f10,f11,hd]
    refine zAe ?_;subst hbq
    repeat refine zAb fun bq hbq=>?_
    refine zA0 (t:=true) (by simp only [go_sem,↓reduceIte]) ?_ ?_
    ·intro _
     refine zBk ?_
     refine zAe ?_;subst hbq
     repeat refine zAb fun bq hbq=>?_
     refine zA6 fun cq hcq=>?_
     subst hcq
     repeat refine zAb fun bq hbq=>?_
     refine zAf (by simp only [zAm,gtOf,zAk];exact rfl) ?_
     simp only [go_sem,↓reduceIte,f9,f11,hi,mr,hrr]
     intro w hw
     have w2:=zAc hw mq
     have w3:=zAc hw mr
     generalize hh3:upd (upd h2 w _) w _=h3
     have x3:=(congrFun hh3.symm w).trans (upd_same _ _ _)
     have q3:=(congrFun hh3.symm q).trans ((zAa _ _ w2).trans ((zAa _ _ w2).trans mq))
     have r3:=(congrFun hh3.symm r).trans ((zAa _ _ w3).trans ((zAa _ _ w3).trans mr))
     have hl3:zAh h3 h:=by rw [← hh3];exact (hl2.new (hl2.none hw)).new (hl2.none hw)
     clear hh3
     refine zAe ?_;subst hbq
     repeat refine zAb fun bq hbq=>?_
     refine zA9 (.take 0 (.take 1 (.take 2 (.take 3 (.take 4 (.take 5 (.take 7 (.take 8 (.one 6 [8] (.one 9 [] (.take 10 (.take 11 (.one 12 [] (.take 13 (.take 14 (.one 15 [] (.done))))))))))))))))) (by kernel_rfl) (by simp only [zAm,gtOf,zAk];exact rfl) ?_
     simp only [go_sem,↓reduceIte,f3,x3]
     refine zZv u.type.size u.type _ _ (Nat.le_refl _) hsz.1 ?_
     simp only [go_sem,↓reduceIte,x3]
     refine z97 u.t.size u.t _ _ (Nat.le_refl _) hsz.2 ?_
     have p1:=zSt vs i hu 1 2 (by omega)
     have p2:=zSt vs i hu 4 4 (by omega)
     have s1:zCt (zAn vs) (i * 8+1) (zBz u.type)=zAn vs:=zPh p1
     have s2:zCt (zAn vs) (i * 8+4) (zAj u.t)=zAn vs:=zPh p2
     simp only [zCt,List.length_cons,List.length_nil,List.cons_append,List.nil_append,Nat.reduceAdd] at s1 s2
     have hle1:i * 8+1+2≤(zAn vs).length:=by rw [zEn];omega
     have hle2:i * 8+4+4≤(zAn vs).length:=by rw [zEn];omega
     simp only [go_sem,↓reduceIte,f3,hi,r3,x3,hle1,hle2,s1,s2]
     refine zBe ?_
     refine zAe ?_;subst hbq
     repeat refine zAb fun bq hbq=>?_
     refine zAf (by simp only [zAm,gtOf,zAk];exact rfl) ?_
     simp only [go_sem,↓reduceIte,f11,zA3 ((i:Int)+1) (by omega)]
     refine zAp (m:=k - 1) (by omega) ⟨i+1,by omega,?_⟩
     simp only [go_sem,↓reduceIte,f2,f3,f9,f10,nrq.symm,q3]
     exact ⟨rfl,(hl3.new nr).new nr⟩
    ·intro hf;cases hf
   ·have hd:decide (i<vs.length)=false:=by simpa using hi
    simp only [go_sem,↓reduceIte,f10,f11,hd]
    refine zAe ?_;subst hbq
    repeat refine zAb fun bq hbq=>?_
    refine zA0 (t:=false) (by simp only [go_sem,↓reduceIte]) ?_ ?_
    ·intro hf;cases hf
    ·intro _
     refine zC6 ?_
     repeat first|(refine zCk ?_;clear hbq bq)|refine zCl ?_|refine zBu ?_|refine zBq ?_|refine zCs rfl ?_
     refine zAe ?_;subst hbq
     repeat refine zAb fun bq hbq=>?_
     refine zAf (by simp only [zAm,gtOf,zAk];exact rfl) ?_
     simp only [go_sem,↓reduceIte,f2,f3,mq,hc0,hdr,z4o]
     refine zAe ?_;subst hbq
     refine zC3 (v:=.agg [.sl r 0 vs.length]) (by rw [Tryz.results58]) ((hl2.with mr).new (by rw [zAa _ _ nrq.symm];exact hq0)) ?_ (h1 hne' r nr)
     simp only [go_sem,↓reduceIte,f2,zAo,Option.some.injEq,exists_eq_left']
     exact LeAV.refl _
def zBn (t:Ty):Bool:=(t.args.length:Int)==0&&!(t.name.toList==(⟨#[45,62]⟩:ByteArray).toList)&&decide ((t.name.size:Int)>0)&&decide ((t.name.size:Int)≤40)
theorem zWu (t:Ty) (h:zAd) (Q:AOut→zAd→Prop) (hq:Q (.ret (.bool (zBn t))) h):zAg Tryz.prog 83 [zKd t] h Q:=by
 refine zAg.of_sem (fn:=Tryz.f83) Tryz.func83 rfl (by kernel_rfl) (by rw [Tryz.ntmps83];simp) (enters_of Tryz.func83 (by kernel_rfl) (by kernel_rfl)) ?_
 repeat refine zAb fun bq hbq=>?_
 refine zAf (by simp only [zAm,gtOf,zAk];exact rfl) ?_
 simp only [go_sem,↓reduceIte]
 intro p hp
 refine zAe ?_;subst hbq
 repeat refine zAb fun bq hbq=>?_
 refine zAf (by simp only [zAm,gtOf,zAk];exact rfl) ?_
 have fin:zAh (upd h p (some (AObj.cells (zBz t) 60))) h:=zAh.one hp
 cases h1:((t.args.length:Int)==0) <;> cases h2:(t.name.toList==(⟨#[45,62]⟩:ByteArray).toList) <;> cases h3:decide ((t.name.size:Int)>0)
 all_goals
  simp only [go_sem,↓reduceIte,h1,h2,h3]
  refine zAe ?_;subst hbq
  refine zDw (by rw [Tryz.results83]) fin ?_
  simp only [go_sem,↓reduceIte,zAo,Option.some.injEq,exists_eq_left']
  exact zBj (by simp only [zBn,h1,h2,h3,Bool.and_false,Bool.false_and,Bool.true_and,Bool.not_true,Bool.not_false]) hq
def zIm (t:Term):Bool:=t.kind==0&&t.n==0&&t.name.toList==(⟨#[]⟩:ByteArray).toList&&(t.args.length:Int)==0
theorem z9c (t:Term) (h:zAd) (Q:AOut→zAd→Prop) (hq:Q (.ret (.bool (zIm t))) h):zAg Tryz.prog 117 [enc t] h Q:=by
 refine zAg.of_sem (fn:=Tryz.f117) Tryz.func117 rfl (by kernel_rfl) (by rw [Tryz.ntmps117];simp) (enters_of Tryz.func117 (by kernel_rfl) (by kernel_rfl)) ?_
 repeat refine zAb fun bq hbq=>?_
 refine zAf (by simp only [zAm,gtOf,zAk];exact rfl) ?_
 simp only [go_sem,↓reduceIte]
 intro p hp
 refine zAe ?_;subst hbq
 repeat refine zAb fun bq hbq=>?_
 refine zAf (by simp only [zAm,gtOf,zAk];exact rfl) ?_
 have fin:zAh (upd h p (some (AObj.cells (zAj t) 27))) h:=zAh.one hp
 cases h1:(t.kind==0) <;> cases h2:(t.n==0) <;> cases h3:(t.name.toList==(⟨#[]⟩:ByteArray).toList)
 all_goals
  simp only [go_sem,↓reduceIte,h1,h2,h3]
  refine zAe ?_;subst hbq
  refine zDw (by rw [Tryz.results117]) fin ?_
  simp only [go_sem,↓reduceIte,zAo,Option.some.injEq,exists_eq_left']
  exact zBj (by simp only [zIm,h1,h2,h3,Bool.and_false,Bool.false_and,Bool.true_and]) hq
def zCe:Ty→Ty
 |⟨n,[a,b]⟩=>zCe b
 |⟨n,l⟩=>⟨n,l⟩
theorem zPe {t:Ty} (h:((t.args.length:Int)==2)=true):∃ a b,t.args=[a,b]∧zCe t=zCe b∧b.size<t.size:=by
 obtain ⟨n,l⟩:=t
 match l,h with
 |[a,b],_=>exact ⟨a,b,rfl,by rw [zCe],zLp ⟨n,[a,b]⟩ 1 rfl⟩
 |[],h=>simp at h
 |[a],h=>simp at h
 |a::b::c::l,h=>simp at h;omega
theorem zPf {t:Ty} (h:((t.args.length:Int)==2)=false):zCe t=t:=by
 obtain ⟨n,l⟩:=t
 match l,h with
 |[a,b],h=>simp at h
 |[],_=>rw [zCe];intro a b e;cases e
 |[a],_=>rw [zCe];intro a b e;cases e
 |a::b::c::l,_=>rw [zCe];intro a b e;cases e
theorem zLq (t:Ty) (h:zAd) (Q:AOut→zAd→Prop) (hq:Q (.ret (zKd (zCe t))) h):zAg Tryz.prog 159 [zKd t] h Q:=by
 refine zAg.of_sem (fn:=Tryz.f159) Tryz.func159 rfl (by kernel_rfl) (by rw [Tryz.ntmps159];simp) (enters_of Tryz.func159 (by kernel_rfl) (by kernel_rfl)) ?_
 repeat with_reducible refine zAb fun bq hbq=>?_
 refine zAf (by simp only [zAm,gtOf,zAk];exact rfl) ?_
 simp only [go_sem,↓reduceIte]
 intro p hp q hq'
 obtain ⟨hne,hq0⟩:=zDi hq'
 refine zAe ?_;subst hbq
 repeat with_reducible refine zAb fun bq hbq=>?_
 refine zA6 fun cq hcq=>?_
 subst hcq
 refine zAz (fun k τ h'=>∃ u:Ty,k=u.size∧zCe u=zCe t∧τ 1=.ptr p 0∧τ 2=.ptr q 0∧zAh h' h∧h' p=some (.cells (zBz u) 60)∧∃ c0,h' q=some (.cells c0 60)∧c0.length=2) t.size ?_ ?_
 ·refine ⟨t,rfl,rfl,rfl,rfl,((zAh.refl h).new hp).new hq0,by rw [zAa _ _ hne.symm,upd_same],_,upd_same _ _ _,rfl⟩
 ·intro c hc k τ h2 hI
  obtain ⟨u,rfl,hu,e1,e2,hl,lp,c0,lq,hc0⟩:=hI
  subst hc
  have hdr:List.drop 2 c0=[]:=List.drop_eq_nil_of_le (by omega)
  repeat with_reducible refine zAb fun bq hbq=>?_
  refine zAf (by simp only [zAm,gtOf,zAk];exact rfl) ?_
  cases hk:((u.args.length:Int)==2)
  ·simp only [go_sem,↓reduceIte,e1,lp,hk]
   refine zAe ?_;subst hbq
   repeat with_reducible refine zAb fun bq hbq=>?_
   refine zA0 (t:=false) (by simp only [go_sem,↓reduceIte]) ?_ ?_
   ·intro hf;cases hf
   ·intro _
    refine zC6 ?_
    repeat first|(with_reducible refine zCk ?_;clear hbq bq)|with_reducible refine zCl ?_|with_reducible refine zBu ?_|with_reducible refine zBq ?_|(with_reducible refine zCs ?_ ?_;focus rfl)
    refine zAe ?_;subst hbq
    repeat with_reducible refine zAb fun bq hbq=>?_
    refine zAf (by simp only [zAm,gtOf,zAk];exact rfl) ?_
    simp only [go_sem,↓reduceIte,e1,e2,lp,lq,hc0,hdr]
    refine zAe ?_;subst hbq
    rw [← hu,zPf hk] at hq
    refine zC3 (h':=h) (v:=zKd u) (by rw [Tryz.results159]) (hl.new hq0) ?_ hq
    simp only [go_sem,↓reduceIte,e2,zAo,Option.some.injEq,exists_eq_left']
    exact LeAV.refl _
  ·simp only [go_sem,↓reduceIte,e1,lp,hk]
   refine zAe ?_;subst hbq
   repeat with_reducible refine zAb fun bq hbq=>?_
   refine zA0 (t:=true) (by simp only [go_sem,↓reduceIte]) ?_ ?_
   ·intro _
    refine zBk ?_
    refine zAe ?_;subst hbq
    obtain ⟨a,b,hab,ht,hsz⟩:=zPe hk
    repeat with_reducible refine zAb fun bq hbq=>?_
    refine zA6 fun cq hcq=>?_
    subst hcq
    repeat with_reducible refine zAb fun bq hbq=>?_
    refine zAf (by simp only [zAm,gtOf,zAk];exact rfl) ?_
    obtain ⟨r,hr⟩:=zO0 [a,b] 1 (t:=b) rfl
    have lp':h2 p=some (.cells [.str u.name,.list 2 (zCg [a,b]) 2 .none] 60):=by rw [lp];show _=some (AObj.cells [_,AV.list 2 (zCg [a,b]) [a,b].length .none] 60);rw [← hab]
    simp only [Nat.reduceMul] at hr
    simp only [go_sem,↓reduceIte,e1,lp',show (0:Int)≤1 from by decide,show (1:Int)<((2:Nat):Int) from by decide,show (1:Int).toNat=1 from rfl,Nat.reduceMul,hr]
    refine zBe ?_
    refine zAp hsz ⟨b,rfl,by rw [← ht,hu],?_⟩
    simp only [go_sem,↓reduceIte,e1,e2,hne,lq]
    exact ⟨hl.new hp,c0,rfl,hc0⟩
   ·intro hf;cases hf
def zBo:Term:=⟨0,0,⟨#[]⟩,[]⟩
def zCn (k n:Int) (s:ByteArray) (args:List Term) (d:Int):Int × Int × ByteArray :=
 if k==2&&decide (n≥d) then
  let a:=args.getD ((args.length:Int) - 1 - (n - d)).toNat zBo
  (a.kind,if a.kind==2 then a.n+d else a.n,a.name)
 else (k,n,s)
mutual
def zB5:Term→List Term→Int→Term
 |⟨k,n,s,l⟩,us,d=>⟨(zCn k n s us d).1,(zCn k n s us d).2.1,(zCn k n s us d).2.2,zBs l us (inner k d)⟩
def zBs:List Term→List Term→Int→List Term
 |[],_,_=>[]
 |t::ts,us,d=>zB5 t us d::zBs ts us d
end
mutual
def zH3:Term→Nat→Int→Bool
 |⟨k,n,_,l⟩,m,d=>(k != 2||decide (n<d+m))&&zFw l m (inner k d)
def zFw:List Term→Nat→Int→Bool
 |[],_,_=>true
 |t::ts,m,d=>zH3 t m d&&zFw ts m d
end
theorem zSn:∀ (l us:List Term) (d:Int) (i:Nat),(zBs l us d)[i]?=(l[i]?).map fun t=>zB5 t us d
 |[],us,d,i=>by simp [zBs]
 |t::l,us,d,0=>by simp [zBs]
 |t::l,us,d,i+1=>by simp [zBs,zSn l us d i]
theorem zC1:∀ (l us:List Term) (d:Int),(zBs l us d).length=l.length
 |[],us,d=>by simp [zBs]
 |t::l,us,d=>by simp [zBs,zC1 l us d]
theorem zSo:∀ (l:List Term) (m:Nat) (d:Int) (i:Nat) {t:Term},zFw l m d=true→l[i]?=some t→zH3 t m d=true
 |[],m,d,i,t,_,hi=>by simp at hi
 |u::l,m,d,0,t,ho,hi=>by
  simp only [List.getElem?_cons_zero,Option.some.injEq] at hi;subst hi
  rw [zFw,Bool.and_eq_true] at ho;exact ho.1
 |u::l,m,d,i+1,t,ho,hi=>by
  simp only [List.getElem?_cons_succ] at hi
  rw [zFw,Bool.and_eq_true] at ho;exact zSo l m d i ho.2 hi
theorem zW5:∀ (s:Nat) (t:Term) (us:List Term) (d:Int) (h:zAd) (Q:AOut→zAd→Prop),t.size≤s→0≤d→d+t.size≤1000000000→us.length≤1000000000→(∀ a ∈ us,-1000000000≤a.n∧a.n≤1000000000)→zH3 t us.length d=true →
  Q (.ret (enc (zB5 t us d))) h→zAg Tryz.prog 143 [enc t,.list 4 (encs us) us.length .none,.int .i64 d] h Q:=by
 intro s
 induction s with
 |zero=>intro t us d h Q ht;obtain ⟨a,b,c,l⟩:=t;rw [Term.size] at ht;omega
 |succ s ih =>
  intro t us d h Q ht hd0 hd1 has hn hok hq
  refine zAg.of_sem (fn:=Tryz.f143) Tryz.func143 rfl (by kernel_rfl) (by rw [Tryz.ntmps143];simp) (enters_of Tryz.func143 (by kernel_rfl) (by kernel_rfl)) ?_
  repeat with_reducible refine zAb fun bq hbq=>?_
  refine zAf (by simp only [zAm,gtOf,zAk];exact rfl) ?_
  simp only [go_sem,↓reduceIte]
  intro p hp q hq'
  have hne:=zDi hq'
  refine zAe ?_;subst hbq
  repeat with_reducible refine zAb fun bq hbq=>?_
  refine zAf (by simp only [zAm,gtOf,zAk];exact rfl) ?_
  simp only [go_sem,↓reduceIte,hne.1,hne.1.symm]
  intro r hr
  have hrp:r≠p∧r≠q∧h r=Option.none:=by
   by_cases e1:r=q
   ·subst e1;rw [if_pos rfl] at hr;cases hr
   ·by_cases e2:r=p
    ·subst e2;rw [if_neg e1,if_pos rfl] at hr;cases hr
    ·rw [if_neg e1,if_neg e2] at hr;exact ⟨e2,e1,hr⟩
  refine zAe ?_;subst hbq
  refine zPr (fun τ h'=>τ 1=.list 4 (encs us) us.length .none∧τ 3=.ptr p 0∧τ 6=.ptr q 0∧τ 7=.ptr r 0∧τ 8=.int .i64 (inner t.kind d)∧zAh h' h∧h' p=some (.cells (zAj t) 27)∧(∃ c0,h' q=some (.cells c0 27)∧c0.length=4)∧∃ lst,h' r=some (.cells [.int .i64 (zCn t.kind t.n t.name us d).1,.int .i64 (zCn t.kind t.n t.name us d).2.1,.str (zCn t.kind t.n t.name us d).2.2,lst] 27)) ?_ fun bq hbq τ h' hI=>?_
  ·repeat with_reducible refine zAb fun bq hbq=>?_
   refine zA6 fun cq hcq=>?_
   subst hcq
   repeat with_reducible refine zAb fun bq hbq=>?_
   refine zAf (by simp only [zAm,gtOf,zAk];exact rfl) ?_
   simp only [go_sem,↓reduceIte,hne.1,hne.1.symm,hrp.1,hrp.1.symm,hrp.2.1,hrp.2.1.symm]
   refine zAe ?_;subst hbq
   repeat with_reducible refine zAb fun bq hbq=>?_
   refine zA0 (t:=t.kind==5) (by simp only [go_sem,↓reduceIte]) ?_ ?_
   ·intro hk5
    have hk2:(t.kind==2)=false:=by simp only [beq_iff_eq] at hk5;rw [hk5];rfl
    repeat with_reducible refine zAb fun bq hbq=>?_
    refine zAf (by simp only [zAm,gtOf,zAk];exact rfl) ?_
    simp only [go_sem,↓reduceIte,zA3 (d+1) (by omega)]
    refine zBe ?_
    refine zAl ?_
    simp only [go_sem,↓reduceIte,hne.1,hne.1.symm,hrp.1,hrp.1.symm,hrp.2.1,hrp.2.1.symm,inner,hk5,zCn,hk2]
    exact ⟨((zAh.refl h).new hp |>.new hne.2 |>.new hrp.2.2 |>.new hrp.2.2),⟨_,rfl,rfl⟩,_,rfl⟩
   ·intro hk5
    have hinn:inner t.kind d=d:=by unfold inner;rw [hk5];rfl
    repeat with_reducible refine zAb fun bq hbq=>?_
    refine zAf (by simp only [zAm,gtOf,zAk];exact rfl) ?_
    cases hk2:(t.kind==2)
    ·simp only [go_sem,↓reduceIte,hne.1,hne.1.symm,hrp.1,hrp.1.symm,hrp.2.1,hrp.2.1.symm,hk2]
     refine zAe ?_;subst hbq
     repeat with_reducible refine zAb fun bq hbq=>?_
     refine zA0 (t:=false) (by simp only [go_sem,↓reduceIte]) ?_ ?_
     ·intro hf;cases hf
     ·intro _
      refine zBk ?_
      refine zBe ?_
      refine zAl ?_
      simp only [go_sem,↓reduceIte,hne.1,hne.1.symm,hrp.1,hrp.1.symm,hrp.2.1,hrp.2.1.symm,hinn,zCn,hk2]
      exact ⟨((zAh.refl h).new hp |>.new hne.2 |>.new hrp.2.2 |>.new hrp.2.2),⟨_,rfl,rfl⟩,_,rfl⟩
    ·simp only [go_sem,↓reduceIte,hne.1,hne.1.symm,hrp.1,hrp.1.symm,hrp.2.1,hrp.2.1.symm,hk2]
     refine zAe ?_;subst hbq
     repeat with_reducible refine zAb fun bq hbq=>?_
     refine zA0 (t:=decide (t.n≥d)) (by simp only [go_sem,↓reduceIte]) ?_ ?_
     ·intro hge
      have hge':d≤t.n:=by simpa using hge
      have hlt:t.n<d+us.length:=by
       obtain ⟨k,n,nm,l⟩:=t
       rw [zH3,Bool.and_eq_true] at hok
       have:=hok.1
       simp only [bne,hk2,Bool.not_true,Bool.false_or,decide_eq_true_eq] at this
       exact this
      obtain ⟨j,hj⟩:∃ j:Nat,(us.length:Int) - 1 - (t.n - d)=j:=⟨_,(Int.toNat_of_nonneg (by omega)).symm⟩
      have hjl:j<us.length:=by omega
      obtain ⟨u,hu⟩:∃ u,us[j]?=some u:=⟨_,List.getElem?_eq_getElem hjl⟩
      obtain ⟨rr,hrr⟩:=zB7 us j hu
      have hum:=hn u (List.mem_of_getElem? hu)
      have hput:zCn t.kind t.n t.name us d=(u.kind,(if u.kind==2 then u.n+d else u.n),u.name):=by
       unfold zCn
       rw [hk2,hge,Bool.and_true,if_pos rfl,hj,Int.toNat_natCast,List.getD_eq_getElem?_getD,hu]
       rfl
      repeat with_reducible refine zAb fun bq hbq=>?_
      refine zAf (by simp only [zAm,gtOf,zAk];exact rfl) ?_
      simp only [go_sem,↓reduceIte,hne.1,hne.1.symm,hrp.1,hrp.1.symm,hrp.2.1,hrp.2.1.symm,zA3 ((us.length:Int) - 1) (by omega),zA3 (t.n - d) (by omega),hj,zA3 ((j:Int)) (by omega),hjl,hrr]
      refine zAe ?_;subst hbq
      repeat with_reducible refine zAb fun bq hbq=>?_
      refine zAf (by simp only [zAm,gtOf,zAk];exact rfl) ?_
      simp only [go_sem,↓reduceIte]
      refine zAe ?_;subst hbq
      repeat with_reducible refine zAb fun bq hbq=>?_
      refine zA0 (t:=u.kind==2) (by simp only [go_sem,↓reduceIte]) ?_ ?_
      ·intro hu2
       repeat with_reducible refine zAb fun bq hbq=>?_
       refine zAf (by simp only [zAm,gtOf,zAk];exact rfl) ?_
       simp only [go_sem,↓reduceIte,zA3 (u.n+d) (by omega)]
       refine zBe ?_
       refine zAl ?_
       simp only [go_sem,↓reduceIte,hne.1,hne.1.symm,hrp.1,hrp.1.symm,hrp.2.1,hrp.2.1.symm,hinn,hput,hu2]
       exact ⟨((zAh.refl h).new hp |>.new hne.2 |>.new hrp.2.2 |>.new hrp.2.2 |>.new hrp.2.2 |>.new hrp.2.2),⟨_,rfl,rfl⟩,_,rfl⟩
      ·intro hu2
       refine zBk ?_
       refine zBe ?_
       refine zAl ?_
       simp only [go_sem,↓reduceIte,hne.1,hne.1.symm,hrp.1,hrp.1.symm,hrp.2.1,hrp.2.1.symm,hinn,hput,hu2]
       exact ⟨((zAh.refl h).new hp |>.new hne.2 |>.new hrp.2.2 |>.new hrp.2.2 |>.new hrp.2.2),⟨_,rfl,rfl⟩,_,rfl⟩
     ·intro hge
      refine zBk ?_
      refine zBe ?_
      refine zAl ?_
      simp only [go_sem,↓reduceIte,hne.1,hne.1.symm,hrp.1,hrp.1.symm,hrp.2.1,hrp.2.1.symm,hinn,zCn,hk2,hge]
      exact ⟨((zAh.refl h).new hp |>.new hne.2 |>.new hrp.2.2 |>.new hrp.2.2),⟨_,rfl,rfl⟩,_,rfl⟩
  ·obtain ⟨e1,e3,e6,e7,e8,hl,lp,⟨c0,lq,hc0⟩,lst,lr⟩:=hI
   subst hbq
   repeat with_reducible refine zAb fun bq hbq=>?_
   refine zAf (by simp only [zAm,gtOf,zAk];exact rfl) ?_
   simp only [go_sem,↓reduceIte,e7,lr]
   refine zAe ?_;subst hbq
   repeat with_reducible refine zAb fun bq hbq=>?_
   refine zAf (by simp only [zAm,gtOf,zAk];exact rfl) ?_
   simp only [go_sem,↓reduceIte,e3,hrp.1.symm,lp]
   refine zAe ?_;subst hbq
   have hsz:=t.size
   generalize hK:(zCn t.kind t.n t.name us d).1=K at lr ⊢
   generalize hN:(zCn t.kind t.n t.name us d).2.1=N at lr ⊢
   generalize hS:(zCn t.kind t.n t.name us d).2.2=S at lr ⊢
   generalize hD:inner t.kind d=D at e8 ⊢
   have hDb:0≤D∧D≤d+1:=by rw [← hD];unfold inner;split <;> omega
   have hfill:zB5 t us d=⟨K,N,S,zBs t.args us D⟩:=by
    rw [← hK,← hN,← hS,← hD];obtain ⟨k,n,nm,l⟩:=t;rw [zB5]
   have hok2:zFw t.args us.length D=true:=by
    rw [← hD];obtain ⟨k,n,nm,l⟩:=t
    rw [zH3,Bool.and_eq_true] at hok;exact hok.2
   have hlen:t.args.length≤t.size:=by
    obtain ⟨k,n,nm,l⟩:=t
    rw [Term.size]
    have:∀ l:List Term,l.length≤sizes l:=by
     intro l
     induction l with
     |nil=>exact Nat.zero_le _
     |cons x l ih=>obtain ⟨a,b,c,m⟩:=x;rw [sizes,Term.size,List.length_cons];omega
    exact Nat.le_succ_of_le (this l)
   repeat with_reducible refine zAb fun bq hbq=>?_
   refine zA6 fun cq hcq=>?_
   subst hcq
   refine zAz (fun k τ h2=>∃ (i sz:Nat) (tok:Tok),k+i=t.args.length∧τ 1=.list 4 (encs us) us.length .none∧τ 6=.ptr q 0∧τ 7=.ptr r 0∧τ 8=.int .i64 D∧τ 50=.list 4 (encs t.args) t.args.length .none∧τ 51=.int .i64 t.args.length∧τ 52=.int .i64 i∧zAh h2 h∧h2 q=some (.cells c0 27)∧h2 r=some (.cells [.int .i64 K,.int .i64 N,.str S,.list sz (encs ((zBs t.args us D).take i)) i tok] 27)∧Grow 27 h h2 tok∧(i=0∨sz=4)) t.args.length ?_ ?_
   ·refine ⟨0,0,.nil,rfl,?_⟩
    simp only [go_sem,↓reduceIte,e1,e3,e6,e7,e8,hrp.2.1.symm,lq,List.take_zero,zBa]
    exact ⟨rfl,hl.new hrp.2.2,.inl (.inr rfl),by simp⟩
   ·intro c hc k τ h2 hI
    obtain ⟨i,sz,tok,hk,f1,f6,f7,f8,f50,f51,f52,hl2,mq,mr,hg,hsz0⟩:=hI
    subst hc
    repeat with_reducible refine zAb fun bq hbq=>?_
    refine zAf (by simp only [zAm,gtOf,zAk];exact rfl) ?_
    by_cases hi:i<t.args.length
    ·have hd:decide (i<t.args.length)=true:=by simpa using hi
     obtain ⟨u,hu⟩:∃ u,t.args[i]?=some u:=⟨_,List.getElem?_eq_getElem hi⟩
     obtain ⟨rr,hrr⟩:=zB7 t.args i hu
     have hus:=zDl t i hu
     simp only [go_sem,↓reduceIte,f51,f52,hd]
     refine zAe ?_;subst hbq
     repeat with_reducible refine zAb fun bq hbq=>?_
     refine zA0 (t:=true) (by simp only [go_sem,↓reduceIte]) ?_ ?_
     ·intro _
      refine zBk ?_
      refine zAe ?_;subst hbq
      repeat with_reducible refine zAb fun bq hbq=>?_
      refine zA6 fun cq hcq=>?_
      subst hcq
      repeat with_reducible refine zAb fun bq hbq=>?_
      refine zAf (by simp only [zAm,gtOf,zAk];exact rfl) ?_
      simp only [go_sem,↓reduceIte,f50,f52,hi,hrr]
      intro w hw
      have hwq:=zAc hw mq
      have hwr:=zAc hw mr
      generalize hh3:upd (upd h2 w _) w _=h3
      have w3:h3 w=some (.cells (zAj u) 27):=by rw [← hh3,upd_same]
      have r3:=(congrFun hh3.symm r).trans ((zAa _ _ hwr).trans ((zAa _ _ hwr).trans mr))
      have q3:=(congrFun hh3.symm q).trans ((zAa _ _ hwq).trans ((zAa _ _ hwq).trans mq))
      have hl3:zAh h3 h:=by rw [← hh3];exact (hl2.new (hl2.none hw)).new (hl2.none hw)
      have hg3:Grow 27 h h3 tok:=by
       rw [← hh3]
       rcases hg with e|⟨f,ef,hf,hf0⟩
       ·exact .inl e
       ·exact .inr ⟨f,ef,by rw [zAa _ _ (zAc hw hf),zAa _ _ (zAc hw hf)];exact hf,hf0⟩
      clear hh3
      refine zAe ?_;subst hbq
      repeat with_reducible refine zAb fun bq hbq=>?_
      refine zA9 (.take 0 (.take 1 (.take 2 (.take 3 (.take 4 (.one 5 [1] (.take 6 (.one 7 [] (.take 8 (.one 9 [] (.done))))))))))) (by kernel_rfl) (by simp only [zAm,gtOf,zAk];exact rfl) ?_
      simp only [go_sem,↓reduceIte,f1,f7,f8,w3,r3]
      refine ih u us D _ _ (by omega) (by omega) (by omega) has hn (zSo _ _ _ i hok2 hu) ?_
      simp only [go_sem,↓reduceIte,zD4,r3]
      refine zAw ?_
      simp only [go_sem,↓reduceIte,zD4,r3]
      intro a ha
      obtain ⟨h4,ea,hg4,hl4,keep⟩:=zDz zCo zCo zEz zGn zEd ⟨rfl,by decide⟩ hl3 ha (c1:=encs ((zBs t.args us D).take i)) (c2:=zAj (zB5 u us D)) (n2:=1) (t2:=.full) hg3 hsz0 (sz2:=4) rfl (by decide) (by omega)
      have r4:=keep _ _ _ r3
      have q4:=keep _ _ _ q3
      simp only [go_sem,↓reduceIte,ea,r4,f7]
      refine zBe ?_
      refine zAe ?_;subst hbq
      repeat with_reducible refine zAb fun bq hbq=>?_
      refine zAf (by simp only [zAm,gtOf,zAk];exact rfl) ?_
      simp only [go_sem,↓reduceIte,f52,zA3 ((i:Int)+1) (by omega)]
      refine zAp (m:=k - 1) (by omega) ⟨i+1,4,.id a,by omega,?_⟩
      simp only [go_sem,↓reduceIte,f1,f6,f7,f8,f50,f51,hrp.2.1.symm,q4]
      rw [z9v _ i (x:=zB5 u us D) (by rw [zSn,hu];rfl)]
      refine ⟨rfl,hl4.new hrp.2.2,rfl,?_,by simp⟩
      rcases hg4 with e|⟨f,ef,hf,hf0⟩
      ·rcases e with e|e <;> cases e
      ·injection ef with ef;subst ef
       exact .inr ⟨a,rfl,by rw [zAa _ _ (by intro e;rw [e,r4] at hf;cases hf)];exact hf,hf0⟩
     ·intro hf;cases hf
    ·have hd:decide (i<t.args.length)=false:=by simpa using hi
     simp only [go_sem,↓reduceIte,f51,f52,hd]
     refine zAe ?_;subst hbq
     repeat with_reducible refine zAb fun bq hbq=>?_
     refine zA0 (t:=false) (by simp only [go_sem,↓reduceIte]) ?_ ?_
     ·intro hf;cases hf
     ·intro _
      refine zC6 ?_
      repeat first|(with_reducible refine zCk ?_;clear hbq bq)|with_reducible refine zCl ?_|with_reducible refine zBu ?_|with_reducible refine zBq ?_|(with_reducible refine zCs ?_ ?_;focus rfl)
      refine zAe ?_;subst hbq
      repeat with_reducible refine zAb fun bq hbq=>?_
      refine zAf (by simp only [zAm,gtOf,zAk];exact rfl) ?_
      simp only [go_sem,↓reduceIte,f6,f7,mr,mq,hc0]
      refine zAe ?_;subst hbq
      have hil:i=t.args.length:=by omega
      refine zC3 (h':=h) (v:=enc (zB5 t us d)) (by rw [Tryz.results143]) (hl2.new hne.2) ?_ hq
      rw [hfill]
      simp only [go_sem,↓reduceIte,f6,zAo,Option.some.injEq,exists_eq_left']
      rw [List.take_of_length_le (by rw [zC1];omega)]
      refine LeAV.agg (.cons (LeAV.refl _) (.cons (LeAV.refl _) (.cons (LeAV.refl _) (.cons ?_ .nil))))
      rw [zC1,← hil]
      rcases hsz0 with h0|h4
      ·have hnil:zBs t.args us D=[]:=List.eq_nil_of_length_eq_zero (by rw [zC1];omega)
       rw [hnil,h0,zBa]
       exact LeAV.nil _ _ _
      ·rw [h4];exact LeAV.list _ _ _ _
def zKv (t:Term):Bool:=t.kind != 5||(t.n != 0||(!(t.name.toList==(⟨#[]⟩:ByteArray).toList)||(t.args.length:Int) != 1))
def zCw:Nat→Term→Term × Bool
 |0,t=>(t,t.kind != 5)
 |k+1,t=>if zKv t then (t,false) else zCw k (t.args.headD zBo)
theorem zHz {t:Term} (h:zKv t=false):∃ u,t.args=[u]:=by
 simp only [zKv,Bool.or_eq_false_iff] at h
 have h3:=h.2.2.2
 have:t.args.length=1:=by simp at h3;omega
 match hl:t.args,this with
 |[u],_=>exact ⟨u,rfl⟩
theorem zUq (t:Term) (n:Int) (h:zAd) (Q:AOut→zAd→Prop) (hn:n≤1000000000) (hq:Q (.ret (.tuple [enc (zCw n.toNat t).1,.bool (zCw n.toNat t).2])) h):zAg Tryz.prog 118 [enc t,.int .i64 n] h Q:=by
 refine zAg.of_sem (fn:=Tryz.f118) Tryz.func118 rfl (by kernel_rfl) (by rw [Tryz.ntmps118];simp) (enters_of Tryz.func118 (by kernel_rfl) (by kernel_rfl)) ?_
 repeat refine zAb fun bq hbq=>?_
 refine zAf (by simp only [zAm,gtOf,zAk];exact rfl) ?_
 simp only [go_sem,↓reduceIte]
 intro p hp q hq'
 obtain ⟨hne,hq0⟩:=zDi hq'
 refine zAe ?_;subst hbq
 repeat refine zAb fun bq hbq=>?_
 refine zAf (by simp only [zAm,gtOf,zAk];exact rfl) ?_
 simp only [go_sem,↓reduceIte]
 refine zAe ?_;subst hbq
 repeat refine zAb fun bq hbq=>?_
 refine zA6 fun cq hcq=>?_
 subst hcq
 refine zAz (fun k τ h'=>∃ (i:Nat) (u:Term),k=n.toNat - i∧((i:Int)≤n∨i=0)∧zCw (n.toNat - i) u=zCw n.toNat t∧τ 2=.ptr p 0∧τ 4=.ptr q 0∧τ 6=.int .i64 n∧τ 7=.int .i64 i∧zAh h' h∧h' p=some (.cells (zAj u) 27)∧∃ c0,h' q=some (.cells c0 27)∧c0.length=4) n.toNat ?_ ?_
 ·exact ⟨0,t,rfl,.inr rfl,rfl,rfl,rfl,rfl,rfl,((zAh.refl h).new hp).new hq0,by rw [zAa _ _ hne.symm,upd_same],_,upd_same _ _ _,rfl⟩
 ·intro c hc k τ h2 hI
  obtain ⟨i,u,rfl,hin,hu,e2,e4,e6,e7,hl,lp,c0,lq,hc0⟩:=hI
  subst hc
  have hdr:List.drop 4 c0=[]:=List.drop_eq_nil_of_le (by omega)
  repeat refine zAb fun bq hbq=>?_
  refine zAf (by simp only [zAm,gtOf,zAk];exact rfl) ?_
  simp only [go_sem,↓reduceIte,e6,e7]
  refine zAe ?_;subst hbq
  repeat refine zAb fun bq hbq=>?_
  refine zA0 (t:=decide ((i:Int)<n)) (by simp only [go_sem,↓reduceIte]) ?_ ?_
  ·intro hlt
   have hlt':(i:Int)<n:=by simpa using hlt
   obtain ⟨k,hk⟩:∃ k,n.toNat - i=k+1:=⟨n.toNat - i - 1,by omega⟩
   rw [hk,zCw] at hu
   refine zBk ?_
   refine zAe ?_;subst hbq
   repeat refine zAb fun bq hbq=>?_
   refine zA6 fun cq hcq=>?_
   subst hcq
   refine zAb fun bq hbq=>?_
   refine zPr (fun τ' h'=>h'=h2∧τ' 2=.ptr p 0∧τ' 4=.ptr q 0∧τ' 6=.int .i64 n∧τ' 7=.int .i64 i∧τ' 27=.bool (zKv u)) ?_ fun bq hbq τ h' hI=>?_
   ·repeat refine zAb fun bq hbq=>?_
    refine zAf (by simp only [zAm,gtOf,zAk];exact rfl) ?_
    cases h1:(u.kind != 5) <;> cases h2:(u.n != 0) <;> cases h3:(u.name.toList==(⟨#[]⟩:ByteArray).toList) <;> cases h4:((u.args.length:Int) != 1)
    all_goals
     simp only [go_sem,↓reduceIte,e2,lp,h1,h2,h3,h4]
     refine zAl ?_
     simp only [go_sem,↓reduceIte,e2,e4,e6,e7,zKv,h1,h2,h3,h4,Bool.or_self]
   ·obtain ⟨rfl,g2,g4,g6,g7,g27⟩:=hI
    subst hbq
    refine zA0 g27 ?_ ?_
    ·intro hno
     rw [if_pos hno] at hu
     repeat refine zAb fun bq hbq=>?_
     refine zAf (by simp only [zAm,gtOf,zAk];exact rfl) ?_
     simp only [go_sem,↓reduceIte,g2,g4,lp,lq,hc0,hdr]
     refine zAe ?_;subst hbq
     refine zB9 ?_
     repeat first|(refine zDd ?_;clear hbq bq)|refine zDj ?_|refine zCr ?_|refine zCb ?_
     rw [← hu] at hq
     refine zBx (h':=h) (by rw [Tryz.results118]) (hl.new hq0) ?_ hq
     simp only [go_sem,↓reduceIte,g4,zAo,Option.some.injEq,exists_eq_left']
     exact LeAV.refl _
    ·intro hno
     rw [if_neg (by rw [hno];decide)] at hu
     obtain ⟨x,hx⟩:=zHz hno
     have lp':h' p=some (.cells [.int .i64 u.kind,.int .i64 u.n,.str u.name,.list 4 (encs [x]) 1 .none] 27):=by rw [lp];show _=some (AObj.cells [_,_,_,AV.list 4 (encs [x]) [x].length .none] 27);rw [← hx]
     refine zBk ?_
     refine zAe ?_;subst hbq
     repeat refine zAb fun bq hbq=>?_
     refine zAf (by simp only [zAm,gtOf,zAk];exact rfl) ?_
     simp only [go_sem,↓reduceIte,g2,lp',show (0:Int)≤0 from by decide,show (0:Int)<((1:Nat):Int) from by decide,show (0:Int).toNat=0 from rfl,Nat.zero_mul,zG7]
     refine zBe ?_
     refine zAe ?_;subst hbq
     repeat refine zAb fun bq hbq=>?_
     refine zAf (by simp only [zAm,gtOf,zAk];exact rfl) ?_
     simp only [go_sem,↓reduceIte,g7,zA3 ((i:Int)+1) (by omega)]
     refine zAp (m:=n.toNat - (i+1)) (by omega) ⟨i+1,x,rfl,.inl (by omega),?_,?_⟩
     ·rw [hx] at hu
      rw [← hu,show n.toNat - (i+1)=k by omega]
      rfl
     ·simp only [go_sem,↓reduceIte,g2,g4,g6,hne,lq]
      exact ⟨rfl,hl.new hp,c0,rfl,hc0⟩
  ·intro hlt
   have hlt':¬ (i:Int)<n:=by simpa using hlt
   rw [show n.toNat - i=0 by omega,zCw] at hu
   refine zC6 ?_
   repeat first|(refine zCk ?_;clear hbq bq)|refine zCl ?_|refine zBu ?_|refine zBq ?_|refine zCs rfl ?_
   refine zAe ?_;subst hbq
   repeat refine zAb fun bq hbq=>?_
   refine zA9 (.take 0 (.take 1 (.take 2 (.take 3 (.one 4 [2] (.take 5 (.done))))))) (by kernel_rfl) (by simp only [zAm,gtOf,zAk];exact rfl) ?_
   simp only [go_sem,↓reduceIte,e2,e4,lp,lq,hc0,hdr,hne,hne.symm]
   refine zAe ?_;subst hbq
   rw [← hu] at hq
   refine zC3 (h':=h) (by rw [Tryz.results118]) (hl.new hq0) ?_ hq
   simp only [go_sem,↓reduceIte,e4,zAo,Option.some.injEq,exists_eq_left']
   exact LeAV.refl _
abbrev encS (l:List ByteArray):List AV:=l.map AV.str
def zFl (n:ByteArray):Bool:=n.toList==(⟨#[45,62]⟩:ByteArray).toList
def zFm (t:Ty) (out:List ByteArray):Option (List ByteArray):=if zBn t then some out else none
def zFc:Ty→List ByteArray→Option (List ByteArray)
 |⟨n,[a,b]⟩,out=>if zFl n then (if !zBn a||(out.length:Int)==8 then none else zFc b (out++[a.name])) else zFm ⟨n,[a,b]⟩ out
 |⟨n,l⟩,out=>zFm ⟨n,l⟩ out
def zD2 (t:Ty):Option (List ByteArray):=zFc t []
def yAu (r:Option (List ByteArray)):AV:=match r with
 |some l=>.tuple [.list 1 (encS l) l.length .none,.bool true]
 |Option.none=>.tuple [.list 1 [] 0 .none,.bool false]
theorem zH9 {t:Ty} (out:List ByteArray) (h1:zFl t.name=true) (h:((t.args.length:Int)==2)=true):∃ a b,t.args=[a,b]∧zFc t out=(if !zBn a||(out.length:Int)==8 then none else zFc b (out++[a.name]))∧b.size<t.size:=by
 obtain ⟨n,l⟩:=t
 match l,h with
 |[a,b],_=>exact ⟨a,b,rfl,by rw [zFc,if_pos h1],zLp ⟨n,[a,b]⟩ 1 rfl⟩
 |[],h=>simp at h
 |[a],h=>simp at h
 |a::b::c::l,h=>simp at h;omega
theorem zEs {t:Ty} (out:List ByteArray) (h:(zFl t.name&&(t.args.length:Int)==2)=false):zFc t out=zFm t out:=by
 obtain ⟨n,l⟩:=t
 match l,h with
 |[a,b],h =>
  have:zFl n=false:=by simpa using h
  rw [zFc,if_neg (by rw [this];decide)]
 |[],_=>rw [zFc];intro a b e;cases e
 |[a],_=>rw [zFc];intro a b e;cases e
 |a::b::c::l,_=>rw [zFc];intro a b e;cases e
theorem zHb (s:ByteArray):zA8 Tryz.prog 70 1 [(0,.str s)]=some (.list 1 [.str s] 1 .full):=zKn zKe sz_9 ze_9 rfl rfl rfl (by decide)
theorem zLh (t:Ty) (h:zAd) (Q:AOut→zAd→Prop) (hq:Q (.ret (yAu (zD2 t))) h):zAg Tryz.prog 33 [zKd t] h Q:=by
 refine zAg.of_sem (fn:=Tryz.f33) Tryz.func33 rfl (by kernel_rfl) (by rw [Tryz.ntmps33];simp) (enters_of Tryz.func33 (by kernel_rfl) (by kernel_rfl)) ?_
 repeat refine zAb fun bq hbq=>?_
 refine zAf (by simp only [zAm,gtOf,zAk];exact rfl) ?_
 simp only [go_sem,↓reduceIte]
 intro p hp
 refine zAe ?_;subst hbq
 repeat refine zAb fun bq hbq=>?_
 refine zAf (by simp only [zAm,gtOf,zAk];exact rfl) ?_
 simp only [go_sem,↓reduceIte]
 refine zAe ?_;subst hbq
 repeat refine zAb fun bq hbq=>?_
 repeat refine zAb fun bq hbq=>?_
 refine zA6 fun cq hcq=>?_
 subst hcq
 refine zAz (fun k τ h'=>∃ (u:Ty) (out:List ByteArray) (sz:Nat) (tok:Tok),k=u.size∧zFc u out=zD2 t∧τ 1=.ptr p 0∧τ 4=.list sz (encS out) out.length tok∧(out=[]∨sz=1)∧out.length≤8∧zAh h' h∧h' p=some (.cells (zBz u) 60)∧Grow 9 h h' tok) t.size ?_ ?_
 ·exact ⟨t,[],0,.nil,rfl,rfl,rfl,rfl,.inl rfl,by decide,(zAh.refl h).new hp,upd_same _ _ _,.inl (.inr rfl)⟩
 ·intro c hc k τ h' hI
  obtain ⟨u,out,sz,tok,rfl,hu,e1,e4,hsz,hout,hl,lp,hg⟩:=hI
  subst hc
  repeat refine zAb fun bq hbq=>?_
  refine zAf (by simp only [zAm,gtOf,zAk];exact rfl) ?_
  have arrow:∀ b,zFl u.name=b→(u.name.toList==(⟨#[45,62]⟩:ByteArray).toList)=b:=fun b hb=>hb
  cases h1:zFl u.name <;> cases h2:((u.args.length:Int)==2)
  case true.true =>
   have h1':=arrow _ h1
   simp only [go_sem,↓reduceIte,e1,lp,h1',h2]
   refine zAe ?_;subst hbq
   repeat refine zAb fun bq hbq=>?_
   refine zA0 (t:=true) (by simp only [go_sem,↓reduceIte]) ?_ ?_
   ·intro _
    obtain ⟨a,b,hab,hgo,hsb⟩:=zH9 out h1 h2
    rw [hgo] at hu
    have lp':h' p=some (.cells [.str u.name,.list 2 (zCg [a,b]) 2 .none] 60):=by rw [lp];show _=some (AObj.cells [_,AV.list 2 (zCg [a,b]) [a,b].length .none] 60);rw [← hab]
    have z0:=show (0:Int)≤0 from by decide
    have z1:=show (0:Int)<((2:Nat):Int) from by decide
    have z2:=show (0:Int).toNat=0 from rfl
    refine zBk ?_
    refine zAe ?_;subst hbq
    repeat refine zAb fun bq hbq=>?_
    refine zA6 fun cq hcq=>?_
    subst hcq
    repeat refine zAb fun bq hbq=>?_
    refine zAf (by simp only [zAm,gtOf,zAk];exact rfl) ?_
    simp only [go_sem,↓reduceIte,e1,lp',z0,z1,z2,Nat.zero_mul,zFa]
    refine zWu a _ _ ?_
    cases hb:zBn a
    ·rw [hb] at hu
     simp only [go_sem,↓reduceIte,e4]
     refine zAe ?_;subst hbq
     repeat refine zAb fun bq hbq=>?_
     refine zA0 (t:=true) (by simp only [go_sem,↓reduceIte]) ?_ ?_
     ·intro _
      repeat refine zAb fun bq hbq=>?_
      refine zAf (by simp only [zAm,gtOf,zAk];exact rfl) ?_
      simp only [go_sem,↓reduceIte]
      refine zAe ?_;subst hbq
      refine zB9 ?_
      repeat first|(refine zDd ?_;clear hbq bq)|refine zDj ?_|refine zCr ?_|refine zCb ?_
      have hu':zD2 t=Option.none:=by rw [← hu];rfl
      rw [hu'] at hq
      refine zBx (h':=h) (by rw [Tryz.results33]) (hl.trans (zAh.refl h)) ?_ hq
      simp only [go_sem,↓reduceIte,zAo,Option.some.injEq,exists_eq_left']
      exact LeAV.tuple (.cons (LeAV.nil _ _ _) (.cons (LeAV.refl _) .nil))
     ·intro hf;cases hf
    ·rw [hb] at hu
     cases h8:((out.length:Int)==8)
     ·rw [h8] at hu
      simp only [go_sem,↓reduceIte,e4,List.length_map,h8]
      refine zAe ?_;subst hbq
      repeat refine zAb fun bq hbq=>?_
      refine zA0 (t:=false) (by simp only [go_sem,↓reduceIte]) ?_ ?_
      ·intro hf;cases hf
      ·intro _
       refine zBk ?_
       refine zAe ?_;subst hbq
       repeat refine zAb fun bq hbq=>?_
       refine zAf (by simp only [zAm,gtOf,zAk];exact rfl) ?_
       simp only [go_sem,↓reduceIte,e1,e4,lp',z0,z1,z2,Nat.zero_mul,zFa,zHb]
       refine zAw ?_
       simp only [go_sem,↓reduceIte,zHb,e4]
       intro w hw
       have h8':¬ out.length=8:=by simp at h8;omega
       obtain ⟨h4,ea,hg4,hl4,keep⟩:=zDz zKe zKe sz_9 by_9 ze_9 ⟨rfl,by decide⟩ hl hw (sz1:=sz) (n1:=out.length) (c1:=encS out) (c2:=[.str a.name]) (n2:=1) (t2:=.full) hg (by rcases hsz with e|e <;> simp [e]) (sz2:=1) rfl (by decide) (by omega)
       have p4:=keep _ _ _ lp'
       simp only [go_sem,↓reduceIte,ea]
       refine zAe ?_;subst hbq
       repeat refine zAb fun bq hbq=>?_
       refine zAf (by simp only [zAm,gtOf,zAk];exact rfl) ?_
       obtain ⟨rb,hrb⟩:=zO0 [a,b] 1 (t:=b) rfl
       simp only [Nat.reduceMul] at hrb
       simp only [go_sem,↓reduceIte,e1,p4,show (0:Int)≤1 from by decide,show (1:Int)<((2:Nat):Int) from by decide,show (1:Int).toNat=1 from rfl,Nat.reduceMul,hrb]
       refine zBe ?_
       have hgo2:zFc b (out++[a.name])=zD2 t:=by rw [← hu];rfl
       refine zAp hsb ⟨b,out++[a.name],1,.id w,rfl,hgo2,?_⟩
       simp only [go_sem,↓reduceIte,e1]
       refine ⟨by simp [encS],by simp,by simp;omega,hl4.new hp,?_⟩
       rcases hg4 with e|⟨f,ef,hf,hf0⟩
       ·rcases e with e|e <;> cases e
       ·injection ef with ef;subst ef
        exact .inr ⟨w,rfl,by rw [zAa _ _ (by intro e;rw [e,p4] at hf;cases hf)];exact hf,hf0⟩
     ·rw [h8] at hu
      simp only [go_sem,↓reduceIte,e4,h8]
      refine zAe ?_;subst hbq
      repeat refine zAb fun bq hbq=>?_
      refine zA0 (t:=true) (by simp only [go_sem,↓reduceIte]) ?_ ?_
      ·intro _
       repeat refine zAb fun bq hbq=>?_
       refine zAf (by simp only [zAm,gtOf,zAk];exact rfl) ?_
       simp only [go_sem,↓reduceIte]
       refine zAe ?_;subst hbq
       refine zB9 ?_
       repeat first|(refine zDd ?_;clear hbq bq)|refine zDj ?_|refine zCr ?_|refine zCb ?_
       have hu':zD2 t=Option.none:=by rw [← hu];rfl
       rw [hu'] at hq
       refine zBx (h':=h) (by rw [Tryz.results33]) (hl.trans (zAh.refl h)) ?_ hq
       simp only [go_sem,↓reduceIte,zAo,Option.some.injEq,exists_eq_left']
       exact LeAV.tuple (.cons (LeAV.nil _ _ _) (.cons (LeAV.refl _) .nil))
      ·intro hf;cases hf
   ·intro hf;cases hf
  all_goals
   have h1':=arrow _ h1
   have hend:zFc u out=zFm u out:=zEs out (by rw [h1,h2];rfl)
   rw [hend] at hu
   simp only [go_sem,↓reduceIte,e1,lp,h1',h2]
   refine zAe ?_;subst hbq
   repeat refine zAb fun bq hbq=>?_
   refine zA0 (t:=false) (by simp only [go_sem,↓reduceIte]) ?_ ?_
   ·intro hf;cases hf
   ·intro _
    refine zC6 ?_
    repeat first|(refine zCk ?_;clear hbq bq)|refine zCl ?_|refine zBu ?_|refine zBq ?_|refine zCs rfl ?_
    refine zAe ?_;subst hbq
    repeat refine zAb fun bq hbq=>?_
    refine zAf (by simp only [zAm,gtOf,zAk];exact rfl) ?_
    simp only [go_sem,↓reduceIte,e1,lp]
    refine zWu u _ _ ?_
    cases hb:zBn u
    ·simp only [go_sem,↓reduceIte]
     refine zAe ?_;subst hbq
     repeat refine zAb fun bq hbq=>?_
     refine zA0 (t:=true) (by simp only [go_sem,↓reduceIte]) ?_ ?_
     ·intro _
      repeat refine zAb fun bq hbq=>?_
      refine zAf (by simp only [zAm,gtOf,zAk];exact rfl) ?_
      simp only [go_sem,↓reduceIte]
      refine zAe ?_;subst hbq
      refine zB9 ?_
      repeat first|(refine zDd ?_;clear hbq bq)|refine zDj ?_|refine zCr ?_|refine zCb ?_
      have hu':zD2 t=Option.none:=by rw [← hu,zFm,hb];rfl
      rw [hu'] at hq
      refine zBx (h':=h) (by rw [Tryz.results33]) (hl.trans (zAh.refl h)) ?_ hq
      simp only [go_sem,↓reduceIte,zAo,Option.some.injEq,exists_eq_left']
      exact LeAV.tuple (.cons (LeAV.nil _ _ _) (.cons (LeAV.refl _) .nil))
     ·intro hf;cases hf
    ·simp only [go_sem,↓reduceIte]
     refine zAe ?_;subst hbq
     repeat refine zAb fun bq hbq=>?_
     refine zA0 (t:=false) (by simp only [go_sem,↓reduceIte]) ?_ ?_
     ·intro hf;cases hf
     ·intro _
      refine zBk ?_
      refine zAe ?_;subst hbq
      repeat refine zAb fun bq hbq=>?_
      refine zAf (by simp only [zAm,gtOf,zAk];exact rfl) ?_
      simp only [go_sem,↓reduceIte,e4]
      refine zAe ?_;subst hbq
      have hu':zD2 t=some out:=by rw [← hu,zFm,hb];rfl
      rw [hu'] at hq
      refine zC3 (h':=h) (by rw [Tryz.results33]) hl ?_ hq
      simp only [go_sem,↓reduceIte,zAo,Option.some.injEq,exists_eq_left']
      refine LeAV.tuple (.cons ?_ (.cons (LeAV.refl _) .nil))
      rcases hsz with e|e
      ·rw [e];exact LeAV.nil _ _ _
      ·rw [e];exact LeAV.list _ _ _ _
theorem zUe (l:List Va) (g:FuncId) (first cap:List AV) (f:Va→Bool) (h:zAd) (Q:AOut→zAd→Prop) (hl:l.length≤1000000000) (hf:Asks Tryz.prog encV g first cap l f h) (hq:Q (.ret (.int .i64 (zH0 f l 0))) h) :
  zAg Tryz.prog 116 [.list 8 (zAn l) l.length .none,.func (.func g) first cap] h Q:=by
 refine zAg.of_sem (fn:=Tryz.f116) Tryz.func116 rfl (by kernel_rfl) (by rw [Tryz.ntmps116];simp) (enters_of Tryz.func116 (by kernel_rfl) (by kernel_rfl)) ?_
 repeat with_reducible refine zAb fun bq hbq=>?_
 refine zAf (by simp only [zAm,gtOf,zAk];exact rfl) ?_
 simp only [go_sem,↓reduceIte]
 refine zAe ?_;subst hbq
 repeat with_reducible refine zAb fun bq hbq=>?_
 refine zAf (by simp only [zAm,gtOf,zAk];exact rfl) ?_
 simp only [go_sem,↓reduceIte]
 refine zAe ?_;subst hbq
 repeat with_reducible refine zAb fun bq hbq=>?_
 repeat with_reducible refine zAb fun bq hbq=>?_
 refine zA6 fun cq hcq=>?_
 subst hcq
 refine zAz (fun k τ h'=>∃ i:Nat,k+i=l.length∧τ 0=.list 8 (zAn l) l.length .none∧τ 1=.func (.func g) first cap∧τ 7=.int .i64 l.length∧τ 8=.int .i64 i∧zAh h' h∧(∀ (j:Nat) (v:Va),j<i→l[j]?=some v→f v=false)∧zH0 f (l.drop i) i=zH0 f l 0) l.length ?_ ?_
 ·exact ⟨0,rfl,rfl,rfl,rfl,rfl,zAh.refl h,fun j v hj=>absurd hj (Nat.not_lt_zero _),rfl⟩
 ·intro c hc k τ h' hI
  obtain ⟨i,hk,e0,e1,e7,e8,hless,hno,hix⟩:=hI
  subst hc
  repeat with_reducible refine zAb fun bq hbq=>?_
  refine zAf (by simp only [zAm,gtOf,zAk];exact rfl) ?_
  by_cases hi:i<l.length
  ·have hd:decide (i<l.length)=true:=by simpa using hi
   obtain ⟨u,hu⟩:∃ u,l[i]?=some u:=⟨_,List.getElem?_eq_getElem hi⟩
   obtain ⟨r,hr⟩:=zEr l i hu
   have hdrop:l.drop i=u::l.drop (i+1):=by
    rw [List.drop_eq_getElem_cons hi]
    rw [List.getElem?_eq_getElem hi] at hu;injection hu with hu;rw [hu]
   rw [hdrop,zH0] at hix
   simp only [go_sem,↓reduceIte,e7,e8,hd]
   refine zAe ?_;subst hbq
   repeat with_reducible refine zAb fun bq hbq=>?_
   refine zA0 (t:=true) (by simp only [go_sem,↓reduceIte]) ?_ ?_
   ·intro _
    refine zBk ?_
    refine zAe ?_;subst hbq
    repeat with_reducible refine zAb fun bq hbq=>?_
    refine zA6 fun cq hcq=>?_
    subst hcq
    repeat with_reducible refine zAb fun bq hbq=>?_
    refine zAf (by simp only [zAm,gtOf,zAk];exact rfl) ?_
    simp only [go_sem,↓reduceIte,e8]
    refine zAe ?_;subst hbq
    repeat with_reducible refine zAb fun bq hbq=>?_
    refine zAf (by simp only [zAm,gtOf,zAk];exact rfl) ?_
    simp only [go_sem,↓reduceIte,e0,e1,hi,hr,List.cons_append,List.nil_append]
    refine hf i u hu hno _ _ hless ?_
    simp only [go_sem,↓reduceIte]
    refine zAe ?_;subst hbq
    repeat with_reducible refine zAb fun bq hbq=>?_
    refine zA0 (t:=f u) (by simp only [go_sem,↓reduceIte]) ?_ ?_
    ·intro hfu
     rw [if_pos hfu] at hix
     repeat with_reducible refine zAb fun bq hbq=>?_
     refine zAf (by simp only [zAm,gtOf,zAk];exact rfl) ?_
     simp only [go_sem,↓reduceIte]
     refine zAe ?_;subst hbq
     refine zB9 ?_
     repeat first|(with_reducible refine zDd ?_;clear hbq bq)|with_reducible refine zDj ?_|with_reducible refine zCr ?_|with_reducible refine zCb ?_
     rw [← hix] at hq
     refine zBx (h':=h) (by rw [Tryz.results116]) hless ?_ hq
     simp only [go_sem,↓reduceIte,zAo,Option.some.injEq,exists_eq_left']
     exact LeAV.refl _
    ·intro hfu
     rw [if_neg (by rw [hfu];decide)] at hix
     refine zBk ?_
     refine zBe ?_
     refine zAe ?_;subst hbq
     repeat with_reducible refine zAb fun bq hbq=>?_
     refine zAf (by simp only [zAm,gtOf,zAk];exact rfl) ?_
     simp only [go_sem,↓reduceIte,e8,zA3 ((i:Int)+1) (by omega)]
     refine zAp (m:=k - 1) (by omega) ⟨i+1,by omega,?_⟩
     simp only [go_sem,↓reduceIte,e0,e1,e7]
     refine ⟨rfl,hless,fun j v hj hv=>?_,hix⟩
     by_cases e:j=i
     ·subst e;rw [hu] at hv;injection hv with hv;subst hv;exact hfu
     ·exact hno j v (by omega) hv
   ·intro hf;cases hf
  ·have hd:decide (i<l.length)=false:=by simpa using hi
   rw [List.drop_eq_nil_of_le (by omega),zH0] at hix
   simp only [go_sem,↓reduceIte,e7,e8,hd]
   refine zAe ?_;subst hbq
   repeat with_reducible refine zAb fun bq hbq=>?_
   refine zA0 (t:=false) (by simp only [go_sem,↓reduceIte]) ?_ ?_
   ·intro hf;cases hf
   ·intro _
    refine zC6 ?_
    repeat first|(with_reducible refine zCk ?_;clear hbq bq)|with_reducible refine zCl ?_|with_reducible refine zBu ?_|with_reducible refine zBq ?_|(with_reducible refine zCs ?_ ?_;focus rfl)
    refine zAe ?_;subst hbq
    repeat with_reducible refine zAb fun bq hbq=>?_
    refine zAf (by simp only [zAm,gtOf,zAk];exact rfl) ?_
    simp only [go_sem,↓reduceIte]
    refine zAe ?_;subst hbq
    rw [← hix] at hq
    refine zC3 (h':=h) (by rw [Tryz.results116]) hless ?_ hq
    simp only [go_sem,↓reduceIte,zAo,Option.some.injEq,exists_eq_left']
    exact LeAV.refl _
theorem zOi (l:List Va) (g:FuncId) (first cap:List AV) (f:Va→Bool) (h:zAd) (Q:AOut→zAd→Prop) (hl:l.length≤1000000000) (hf:Asks Tryz.prog encV g first cap l f h) (hq:Q (.ret (.bool (l.any f))) h) :
  zAg Tryz.prog 71 [.list 8 (zAn l) l.length .none,.func (.func g) first cap] h Q:=by
 refine zAg.of_sem (fn:=Tryz.f71) Tryz.func71 rfl (by kernel_rfl) (by rw [Tryz.ntmps71];simp) (enters_of Tryz.func71 (by kernel_rfl) (by kernel_rfl)) ?_
 repeat with_reducible refine zAb fun bq hbq=>?_
 refine zAf (by simp only [zAm,gtOf,zAk];exact rfl) ?_
 simp only [go_sem,↓reduceIte]
 refine zAe ?_;subst hbq
 repeat with_reducible refine zAb fun bq hbq=>?_
 refine zAf (by simp only [zAm,gtOf,zAk];exact rfl) ?_
 simp only [go_sem,↓reduceIte]
 refine zUe l g first cap f h _ hl hf ?_
 simp only [go_sem,↓reduceIte]
 refine zAe ?_;subst hbq
 refine zDw (by rw [Tryz.results71]) (zAh.refl h) ?_
 simp only [go_sem,↓reduceIte,zAo,Option.some.injEq,exists_eq_left']
 exact zBj (by rw [← zNi f l 0 (by decide)]) hq
end Go.Proofs.YthkjmiejaoomcaaGreat.Am
