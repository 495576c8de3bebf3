/- Part of the proof of a law of layer 5: own texts, joined. -/
import Derived.Test.YthkjmiejaoomcaaGreatVg
import Derived.Test.YthkjmiejaoomcaaGreatVh
set_option linter.unusedVariables false
set_option linter.unusedSimpArgs false
set_option linter.unnecessarySimpa false
namespace Go.Proofs.YthkjmiejaoomcaaGreat.Am
open Go Go.RowKit Go.Proofs
set_option linter.unusedVariables false
set_option linter.unusedSimpArgs false
set_option maxRecDepth 100000
set_option maxHeartbeats 1000000
theorem rA {α:Type} {c:α→List AV} {z:Nat} (hz:∀ x,(c x).length=z):∀ (l:List α) (k:Nat) {x:α},l[k]?=some x→dV (l.flatMap c) (k * z) (c x)=l.flatMap c
 |[],k,x,hk=>by simp at hk
 |y::l,0,x,hk=>by
  simp only [List.getElem?_cons_zero,Option.some.injEq] at hk;subst hk
  simp [dV]
 |y::l,k+1,x,hk=>by
  simp only [List.getElem?_cons_succ] at hk
  have ih:=rA hz l k hk
  have hl:=hz x
  have hy:=hz y
  simp only [dV,List.flatMap_cons] at ih ⊢
  rw [List.take_append,List.drop_append,hy,List.take_of_length_le (by rw [hy,Nat.add_mul];omega),List.drop_eq_nil_of_le (by rw [hy,Nat.add_mul];omega)]
  have e1:(k+1) * z - z=k * z:=by rw [Nat.add_mul];omega
  have e2:(k+1) * z+(c x).length - z=k * z+(c x).length:=by rw [Nat.add_mul];omega
  rw [e1,e2,List.nil_append,List.append_assoc,ih]
theorem GM (l:List Term) (k:Nat) {x:Term} (hk:l[k]?=some x):dV (encs l) (k * 4) (ay x)=encs l:=by
 rw [dh]
 exact rA (z:=4) (fun _=>rfl) l k hk
theorem NY:∀ (s:Nat) (t:Term) (h:ai) (Q:AOut→ai→Prop),t.size≤s→t.size≤1000000000→Q (.ret (enc t)) h→az Tryz.prog 105 [enc t] h Q:=by
 intro s
 induction s with
 |zero=>intro t h Q ht;obtain ⟨a,b,c,l⟩:=t;rw [Term.size] at ht;omega
 |succ s ih =>
  intro t h Q ht hb hq
  have hlen:t.args.length≤1000000000:=by
   obtain ⟨k,n,nm,l⟩:=t
   rw [Term.size] at hb
   have:∀ l:List Term,l.length≤sizes l:=by
    intro l
    induction l with
    |nil=>exact Nat.zero_le _
    |cons x l ih=>obtain ⟨a,b,c,m⟩:=x;rw [sizes,Term.size,List.length_cons];omega
   have:=this l
   simp only
   omega
  refine eN Tryz.func105 ?_
  repeat with_reducible refine ah fun bq hbq=>?_
  refine au (by simp only [aF,gtOf,aA];exact rfl) ?_
  simp only [go_sem,↓reduceIte]
  intro p hp q hq'
  obtain ⟨hne,hq0⟩:=fq hq'
  apply rN;subst hbq
  let I:Nat→Env→ai→Prop:=fun _ τ h'=>τ 1=.ptr p 0∧τ 2=.ptr q 0∧ax h' h∧(∃ c0,h' q=some (.cells c0 27)∧c0.length=4)∧∃ X,h' p=some (.cells [.int .i64 t.kind,.int .i64 t.n,.str t.name,X] 27)∧((X=.list 4 [] 0 .full∧t.args=[])∨∃ r,X=.sl r 0 t.args.length∧h' r=some (.cells (encs t.args) 27)∧h r=Option.none∧r≠p∧r≠q)
  refine xQ (I 0) ?_ fun bq hbq τ h' hI=>?_
  ·repeat with_reducible refine ah fun bq hbq=>?_
   refine au (by simp only [aF,gtOf,aA];exact rfl) ?_
   simp only [go_sem,↓reduceIte,hne,hne.symm]
   refine Kz t.args _ _ hlen ?_ ?_
   ·intro hnil
    simp only [go_sem,↓reduceIte,hne,hne.symm]
    refine aD ?_
    refine ⟨rfl,rfl,(((ax.refl h).new hp).new hq0).new hp,⟨_,by rw [ae _ _ hne,upd_same],rfl⟩,_,upd_same _ _ _,.inl ⟨rfl,hnil⟩⟩
   ·intro hne' r hr
    have hrp:r≠p∧r≠q∧h r=Option.none:=by
     obtain ⟨e1,h1⟩:=fq (show upd (upd h p _) q (some _) r=Option.none from hr)
     obtain ⟨e2,h2⟩:=fq h1
     exact ⟨e2,e1,h2⟩
    simp only [go_sem,↓reduceIte,hne,hne.symm,hrp.1,hrp.1.symm,hrp.2.1,hrp.2.1.symm]
    refine aD ?_
    refine ⟨rfl,rfl,((((ax.refl h).new hp).new hq0).new hrp.2.2).new hp,⟨_,by rw [ae _ _ hne,ae _ _ hrp.2.1.symm,upd_same],rfl⟩,_,upd_same _ _ _,.inr ⟨r,rfl,?_,hrp.2.2,hrp.1,hrp.2.1⟩⟩
    rw [ae _ _ hrp.1,upd_same]
  obtain ⟨e1,e2,hl,⟨c0,lq,hc0⟩,X,lp,hX⟩:=hI
  subst hbq
  have hXl:aLen Tryz.prog 25 X=some (.int .i64 t.args.length):=by
   rcases hX with ⟨rfl,e⟩|⟨r,rfl,_⟩
   ·rw [e]
    simp only [go_sem,↓reduceIte]
   ·simp only [go_sem,↓reduceIte]
  repeat with_reducible refine ah fun bq hbq=>?_
  refine au (by simp only [aF,gtOf,aA];exact rfl) ?_
  simp only [aLen,Vb] at hXl
  simp only [go_sem,↓reduceIte,e1,lp,hXl]
  apply rN;subst hbq
  repeat with_reducible refine ah fun bq hbq=>?_
  refine bu fun cq hcq=>?_
  subst hcq
  refine aT (fun k τ h2=>∃ i:Nat,k+i=t.args.length∧τ 1=.ptr p 0∧τ 2=.ptr q 0∧τ 10=X∧τ 11=.int .i64 t.args.length∧τ 12=.int .i64 i∧ax h2 h∧h2 q=some (.cells c0 27)∧h2 p=some (.cells [.int .i64 t.kind,.int .i64 t.n,.str t.name,X] 27)∧((X=.list 4 [] 0 .full∧t.args=[])∨∃ r,X=.sl r 0 t.args.length∧h2 r=some (.cells (encs t.args) 27)∧h r=Option.none∧r≠p∧r≠q)) t.args.length ?_ ?_
  ·refine ⟨0,rfl,?_⟩
   simp only [go_sem,↓reduceIte,e1,e2]
   exact ⟨rfl,hl,lq,lp,hX⟩
  ·intro c hc k τ h2 hI
   obtain ⟨i,hk,f1,f2,f10,f11,f12,hl2,mq,mp,hX2⟩:=hI
   subst hc
   repeat with_reducible refine ah fun bq hbq=>?_
   refine au (by simp only [aF,gtOf,aA];exact rfl) ?_
   by_cases hi:i<t.args.length
   ·have hd:decide (i<t.args.length)=true:=by simpa using hi
    obtain ⟨u,hu⟩:∃ u,t.args[i]?=some u:=⟨_,List.getElem?_eq_getElem hi⟩
    obtain ⟨rr,hrr⟩:=dD t.args i hu
    have hus:=fF t i hu
    rcases hX2 with ⟨_,e⟩|⟨r,rfl,mr,nr,nrp,nrq⟩
    ·rw [e] at hi;exact absurd hi (Nat.not_lt_zero _)
    simp only [go_sem,↓reduceIte,f11,f12,hd]
    apply rN;subst hbq
    repeat with_reducible refine ah fun bq hbq=>?_
    refine aW (t:=true) (by simp only [go_sem,↓reduceIte]) ?_ ?_
    ·intro _
     refine bM ?_
     apply rN;subst hbq
     repeat with_reducible refine ah fun bq hbq=>?_
     refine bu fun cq hcq=>?_
     subst hcq
     repeat with_reducible refine ah fun bq hbq=>?_
     refine au (by simp only [aF,gtOf,aA];exact rfl) ?_
     simp only [go_sem,↓reduceIte,f10,f12,hi,mr,hrr]
     intro w hw
     have w1:=aj hw mp
     have w2:=aj hw mq
     have w3:=aj hw mr
     generalize hh3:upd (upd h2 w _) w _=h3
     have x3:=(congrFun hh3.symm w).trans (upd_same _ _ _)
     have p3:=(congrFun hh3.symm p).trans ((ae _ _ w1).trans ((ae _ _ w1).trans mp))
     have q3:=(congrFun hh3.symm q).trans ((ae _ _ w2).trans ((ae _ _ w2).trans mq))
     have r3:=(congrFun hh3.symm r).trans ((ae _ _ w3).trans ((ae _ _ w3).trans mr))
     have hl3:ax h3 h:=by rw [← hh3];exact (hl2.new (hl2.none hw)).new (hl2.none hw)
     clear hh3
     apply rN;subst hbq
     repeat with_reducible refine ah fun bq hbq=>?_
     refine bA (.take 0 (.take 1 (.take 2 (.take 3 (.one 4 [1] (.take 5 (.one 6 [] (.done)))))))) (by kernel_rfl) (by simp only [aF,gtOf,aA];exact rfl) ?_
     simp only [go_sem,↓reduceIte,f1,p3,x3]
     refine ih u _ _ (by omega) (by omega) ?_
     have hle:i * 4+4≤(encs t.args).length:=by rw [gM];omega
     have hsp:=GM t.args i hu
     simp only [dV,List.length_cons,List.length_nil,List.cons_append,List.nil_append,Nat.reduceAdd] at hsp
     simp only [go_sem,↓reduceIte,hi,r3,p3,x3,hle,hsp]
     refine bD ?_
     apply rN;subst hbq
     repeat with_reducible refine ah fun bq hbq=>?_
     refine au (by simp only [aF,gtOf,aA];exact rfl) ?_
     simp only [go_sem,↓reduceIte,f12,bz ((i:Int)+1) (by omega)]
     refine aL (m:=k - 1) (by omega) ⟨i+1,by omega,?_⟩
     simp only [go_sem,↓reduceIte,f1,f2,f10,f11,nrq.symm,nrp.symm,p3,q3]
     exact ⟨rfl,hl3.new nr,.inr ⟨r,rfl,by simp,nr,nrp,nrq⟩⟩
    ·intro hf;cases hf
   ·have hd:decide (i<t.args.length)=false:=by simpa using hi
    have hdr:List.drop 4 c0=[]:=List.drop_eq_nil_of_le (by omega)
    simp only [go_sem,↓reduceIte,f11,f12,hd]
    apply rN;subst hbq
    repeat with_reducible refine ah fun bq hbq=>?_
    refine aW (t:=false) (by simp only [go_sem,↓reduceIte]) ?_ ?_
    ·intro hf;cases hf
    ·intro _
     refine eT ?_
     repeat first|(with_reducible refine dM ?_;clear hbq bq)|with_reducible refine dO ?_|with_reducible refine bZ ?_|with_reducible refine bS ?_|(with_reducible refine dU ?_ ?_;focus rfl)
     apply rN;subst hbq
     repeat with_reducible refine ah fun bq hbq=>?_
     refine au (by simp only [aF,gtOf,aA];exact rfl) ?_
     rcases hX2 with ⟨rfl,e⟩|⟨r,rfl,mr,nr,nrp,nrq⟩
     ·simp only [go_sem,↓reduceIte,f1,f2,mp,mq,hc0,hdr]
      apply rN;subst hbq
      refine eF (v:=enc t) (by rw [Tryz.results105]) (hl2.new hq0) ?_ hq
      simp only [go_sem,↓reduceIte,f2,aJ,Option.some.injEq,exists_eq_left']
      show LeAV _ (AV.agg [_,_,_,AV.list 4 (encs t.args) t.args.length .none])
      rw [e,bB]
      exact LeAV.agg (.cons (LeAV.refl _) (.cons (LeAV.refl _) (.cons (LeAV.refl _) (.cons (LeAV.list _ _ _ _) .nil))))
     ·simp only [go_sem,↓reduceIte,f1,f2,mp,mq,hc0,hdr]
      apply rN;subst hbq
      refine qH (h':=h) (p:=r) (z:=4) (n:=t.args.length) (cs:=encs t.args) (T:=27) (by rw [Tryz.results105]) ?_ (gM _) (tV _) (hl2.new hq0) nr ?_ hq
      ·rw [ae _ _ nrq];exact mr
      ·simp only [go_sem,↓reduceIte,f2,aJ,Option.some.injEq,exists_eq_left']
       exact LeF.agg (.cons (LeF.refl _) (.cons (LeF.refl _) (.cons (LeF.refl _) (.cons LeF.here .nil))))
structure Ty where
 name:ByteArray
 args:List Ty
def dE:List Ty→List AV
 |[]=>[]
 |⟨s,l⟩::ts=>.str s::.list 2 (dE l) l.length .none::dE ts
abbrev cB (t:Ty):List AV:=[.str t.name,.list 2 (dE t.args) t.args.length .none]
abbrev qA (t:Ty):AV:=.agg (cB t)
theorem iU (t:Ty) (ts:List Ty):dE (t::ts)=.str t.name::.list 2 (dE t.args) t.args.length .none::dE ts:=by cases t;rw [dE]
theorem lZ:∀ ts:List Ty,dE ts=ts.flatMap cB
 |[]=>by rw [dE];rfl
 |t::ts=>by rw [iU,lZ ts];rfl
theorem xw (ts:List Ty) (k:Nat) {t:Ty} (hk:ts[k]?=some t):∃ r,(dE ts).drop (k * 2)=.str t.name::.list 2 (dE t.args) t.args.length .none::r:=by
 rw [lZ]
 exact sW (z:=2) (fun _=>rfl) ts k hk
theorem pg:dE []=[]:=by rw [dE]
mutual
def Ty.size:Ty→Nat
 |⟨_,l⟩=>oF l+1
def oF:List Ty→Nat
 |[]=>0
 |t::ts=>t.size+oF ts
end
theorem Hw:∀ (l:List Ty) (k:Nat) {t:Ty},l[k]?=some t→t.size≤oF l
 |[],k,t,hk=>by simp at hk
 |y::l,0,t,hk=>by simp only [List.getElem?_cons_zero,Option.some.injEq] at hk;subst hk;rw [oF];omega
 |y::l,k+1,t,hk=>by
  simp only [List.getElem?_cons_succ] at hk
  have:=Hw l k hk
  rw [oF];omega
theorem r9 (u:Ty) (k:Nat) {t:Ty} (hk:u.args[k]?=some t):t.size<u.size:=by
 have:=Hw u.args k hk
 obtain ⟨c,l⟩:=u
 rw [Ty.size]
 exact Nat.lt_succ_of_le this
theorem um:bn Tryz.prog 40 0 []=some (.list 2 [] 0 .full):=by
 simp only [bn,wE,Du,zI,ik];rfl
theorem GV (ts:List Ty) (h:ai) (Q:AOut→ai→Prop) (hn:ts.length≤1000000000) (h0:ts=[]→Q (.ret (.list 2 [] 0 .full)) h) (h1:ts≠[]→∀ p,h p=Option.none→Q (.ret (.sl p 0 ts.length)) (upd h p (some (.cells (dE ts) 60)))) :
  az Tryz.prog 129 [.list 2 (dE ts) ts.length .none] h Q:=by
 refine eN Tryz.func129 ?_
 repeat refine ah fun bq hbq=>?_
 refine au (by simp only [aF,gtOf,aA];exact rfl) ?_
 simp only [go_sem,↓reduceIte]
 apply rN;subst hbq
 repeat refine ah fun bq hbq=>?_
 refine au (by simp only [aF,gtOf,aA];exact rfl) ?_
 by_cases hts:ts=[]
 ·subst hts
  simp only [go_sem,↓reduceIte]
  apply rN;subst hbq
  repeat refine ah fun bq hbq=>?_
  refine oJ (by simp only [go_sem,↓reduceIte]) ?_ ?_
  ·repeat refine ah fun bq hbq=>?_
   refine au (by simp only [aF,gtOf,aA];exact rfl) ?_
   simp only [go_sem,↓reduceIte]
   apply rN;subst hbq
   refine dw ?_
   repeat first|(refine eZ ?_;clear hbq bq)|refine fu ?_|refine dR ?_|refine dA ?_
   refine df (v:=.list 2 [] 0 .full) (by rw [Tryz.results129]) (ax.refl h) ?_ (h0 rfl)
   simp only [go_sem,↓reduceIte,aJ,Option.some.injEq,exists_eq_left']
   exact LeAV.nil_full _ _
  ·refine bM ?_
   apply rN;subst hbq
   repeat refine ah fun bq hbq=>?_
   refine au (by simp only [aF,gtOf,aA];exact rfl) ?_
   simp only [go_sem,↓reduceIte,um]
   refine aZ ?_
   simp only [go_sem,↓reduceIte,um]
   intro p hp
   rw [rQ wE wE Du Oc zI ⟨rfl,by decide⟩ (.inl rfl) (.inl rfl) (by decide)]
   apply rN;subst hbq
   refine eF (v:=.list 2 [] 0 .full) (by rw [Tryz.results129]) (ax.refl h) ?_ (h0 rfl)
   simp only [go_sem,↓reduceIte,aJ,Option.some.injEq,exists_eq_left']
   exact LeAV.refl _
 ·have hl:ts.length≠0:=by simpa using hts
  simp only [go_sem,↓reduceIte,hl]
  apply rN;subst hbq
  repeat refine ah fun bq hbq=>?_
  refine aW (t:=false) (by simp only [go_sem,↓reduceIte]) ?_ ?_
  ·intro hf;cases hf
  ·intro _
   refine bM ?_
   apply rN;subst hbq
   repeat refine ah fun bq hbq=>?_
   refine au (by simp only [aF,gtOf,aA];exact rfl) ?_
   simp only [go_sem,↓reduceIte,um]
   refine dP ?_
   simp only [go_sem,↓reduceIte,fG,um]
   intro p hp
   rw [oP wE wE Du Oc zI ⟨rfl,by decide⟩ (.inl rfl) (.inl rfl) rfl hl (by omega)]
   apply rN;subst hbq
   refine fO (by rw [Tryz.results129]) (ax.refl _) ?_
   simp only [go_sem,↓reduceIte,aJ,Option.some.injEq,exists_eq_left']
   exact h1 hts p hp
theorem iR (l:List Ty):(dE l).length=l.length * 2:=by
 rw [lZ,List.length_flatMap]
 induction l with
 |nil=>rfl
 |cons t l ih=>simp only [List.map_cons,List.sum_cons,List.length_cons,List.length_nil] at ih ⊢;omega
theorem vH:∀ l:List Ty,(dE l).all AV.flat=true
 |[]=>by rw [dE];rfl
 |t::l=>by rw [iU];simp only [List.all_cons,AV.flat,vH l,Bool.and_self]
theorem ES (l:List Ty) (k:Nat) {x:Ty} (hk:l[k]?=some x):dV (dE l) (k * 2) (cB x)=dE l:=by
 rw [lZ]
 exact rA (z:=2) (fun _=>rfl) l k hk
theorem GU:∀ (s:Nat) (t:Ty) (h:ai) (Q:AOut→ai→Prop),t.size≤s→t.size≤1000000000→Q (.ret (qA t)) h→az Tryz.prog 85 [qA t] h Q:=by
 intro s
 induction s with
 |zero=>intro t h Q ht;obtain ⟨c,l⟩:=t;rw [Ty.size] at ht;omega
 |succ s ih =>
  intro t h Q ht hb hq
  have hlen:t.args.length≤1000000000:=by
   obtain ⟨nm,l⟩:=t
   rw [Ty.size] at hb
   have:∀ l:List Ty,l.length≤oF l:=by
    intro l
    induction l with
    |nil=>exact Nat.zero_le _
    |cons x l ih=>obtain ⟨c,m⟩:=x;rw [oF,Ty.size,List.length_cons];omega
   have:=this l
   simp only
   omega
  refine eN Tryz.func85 ?_
  repeat refine ah fun bq hbq=>?_
  refine au (by simp only [aF,gtOf,aA];exact rfl) ?_
  simp only [go_sem,↓reduceIte]
  intro p hp q hq'
  obtain ⟨hne,hq0⟩:=fq hq'
  apply rN;subst hbq
  let I:Nat→Env→ai→Prop:=fun _ τ h'=>τ 1=.ptr p 0∧τ 2=.ptr q 0∧ax h' h∧(∃ c0,h' q=some (.cells c0 60)∧c0.length=2)∧∃ X,h' p=some (.cells [.str t.name,X] 60)∧((X=.list 2 [] 0 .full∧t.args=[])∨∃ r,X=.sl r 0 t.args.length∧h' r=some (.cells (dE t.args) 60)∧h r=Option.none∧r≠p∧r≠q)
  refine xQ (I 0) ?_ fun bq hbq τ h' hI=>?_
  ·repeat refine ah fun bq hbq=>?_
   refine au (by simp only [aF,gtOf,aA];exact rfl) ?_
   simp only [go_sem,↓reduceIte,hne,hne.symm]
   refine GV t.args _ _ hlen ?_ ?_
   ·intro hnil
    simp only [go_sem,↓reduceIte,hne,hne.symm]
    refine aD ?_
    refine ⟨rfl,rfl,(((ax.refl h).new hp).new hq0).new hp,⟨_,by rw [ae _ _ hne,upd_same],rfl⟩,_,upd_same _ _ _,.inl ⟨rfl,hnil⟩⟩
   ·intro hne' r hr
    have hrp:r≠p∧r≠q∧h r=Option.none:=by
     obtain ⟨e1,h1⟩:=fq (show upd (upd h p _) q (some _) r=Option.none from hr)
     obtain ⟨e2,h2⟩:=fq h1
     exact ⟨e2,e1,h2⟩
    simp only [go_sem,↓reduceIte,hne,hne.symm,hrp.1,hrp.1.symm,hrp.2.1,hrp.2.1.symm]
    refine aD ?_
    refine ⟨rfl,rfl,((((ax.refl h).new hp).new hq0).new hrp.2.2).new hp,⟨_,by rw [ae _ _ hne,ae _ _ hrp.2.1.symm,upd_same],rfl⟩,_,upd_same _ _ _,.inr ⟨r,rfl,?_,hrp.2.2,hrp.1,hrp.2.1⟩⟩
    rw [ae _ _ hrp.1,upd_same]
  obtain ⟨e1,e2,hl,⟨c0,lq,hc0⟩,X,lp,hX⟩:=hI
  subst hbq
  have hXl:aLen Tryz.prog 40 X=some (.int .i64 t.args.length):=by
   rcases hX with ⟨rfl,e⟩|⟨r,rfl,_⟩
   ·rw [e]
    simp only [go_sem,↓reduceIte]
   ·simp only [go_sem,↓reduceIte]
  repeat refine ah fun bq hbq=>?_
  refine au (by simp only [aF,gtOf,aA];exact rfl) ?_
  simp only [aLen,U9] at hXl
  simp only [go_sem,↓reduceIte,e1,lp,hXl]
  apply rN;subst hbq
  repeat refine ah fun bq hbq=>?_
  refine bu fun cq hcq=>?_
  subst hcq
  refine aT (fun k τ h2=>∃ i:Nat,k+i=t.args.length∧τ 1=.ptr p 0∧τ 2=.ptr q 0∧τ 10=X∧τ 11=.int .i64 t.args.length∧τ 12=.int .i64 i∧ax h2 h∧h2 q=some (.cells c0 60)∧h2 p=some (.cells [.str t.name,X] 60)∧((X=.list 2 [] 0 .full∧t.args=[])∨∃ r,X=.sl r 0 t.args.length∧h2 r=some (.cells (dE t.args) 60)∧h r=Option.none∧r≠p∧r≠q)) t.args.length ?_ ?_
  ·refine ⟨0,rfl,?_⟩
   simp only [go_sem,↓reduceIte,e1,e2]
   exact ⟨rfl,hl,lq,lp,hX⟩
  ·intro c hc k τ h2 hI
   obtain ⟨i,hk,f1,f2,f10,f11,f12,hl2,mq,mp,hX2⟩:=hI
   subst hc
   repeat refine ah fun bq hbq=>?_
   refine au (by simp only [aF,gtOf,aA];exact rfl) ?_
   by_cases hi:i<t.args.length
   ·have hd:decide (i<t.args.length)=true:=by simpa using hi
    obtain ⟨u,hu⟩:∃ u,t.args[i]?=some u:=⟨_,List.getElem?_eq_getElem hi⟩
    obtain ⟨rr,hrr⟩:=xw t.args i hu
    have hus:=r9 t i hu
    rcases hX2 with ⟨_,e⟩|⟨r,rfl,mr,nr,nrp,nrq⟩
    ·rw [e] at hi;exact absurd hi (Nat.not_lt_zero _)
    simp only [go_sem,↓reduceIte,f11,f12,hd]
    apply rN;subst hbq
    repeat refine ah fun bq hbq=>?_
    refine aW (t:=true) (by simp only [go_sem,↓reduceIte]) ?_ ?_
    ·intro _
     refine bM ?_
     apply rN;subst hbq
     repeat refine ah fun bq hbq=>?_
     refine bu fun cq hcq=>?_
     subst hcq
     repeat refine ah fun bq hbq=>?_
     refine au (by simp only [aF,gtOf,aA];exact rfl) ?_
     simp only [go_sem,↓reduceIte,f10,f12,hi,mr,hrr]
     intro w hw
     have w1:=aj hw mp
     have w2:=aj hw mq
     have w3:=aj hw mr
     generalize hh3:upd (upd h2 w _) w _=h3
     have x3:=(congrFun hh3.symm w).trans (upd_same _ _ _)
     have p3:=(congrFun hh3.symm p).trans ((ae _ _ w1).trans ((ae _ _ w1).trans mp))
     have q3:=(congrFun hh3.symm q).trans ((ae _ _ w2).trans ((ae _ _ w2).trans mq))
     have r3:=(congrFun hh3.symm r).trans ((ae _ _ w3).trans ((ae _ _ w3).trans mr))
     have hl3:ax h3 h:=by rw [← hh3];exact (hl2.new (hl2.none hw)).new (hl2.none hw)
     clear hh3
     apply rN;subst hbq
     repeat refine ah fun bq hbq=>?_
     refine bA (.take 0 (.take 1 (.take 2 (.take 3 (.one 4 [1] (.take 5 (.one 6 [] (.done)))))))) (by kernel_rfl) (by simp only [aF,gtOf,aA];exact rfl) ?_
     simp only [go_sem,↓reduceIte,f1,p3,x3]
     refine ih u _ _ (by omega) (by omega) ?_
     have hle:i * 2+2≤(dE t.args).length:=by rw [iR];omega
     have hsp:=ES t.args i hu
     simp only [dV,List.length_cons,List.length_nil,List.cons_append,List.nil_append,Nat.reduceAdd] at hsp
     simp only [go_sem,↓reduceIte,hi,r3,p3,x3,hle,hsp]
     refine bD ?_
     apply rN;subst hbq
     repeat refine ah fun bq hbq=>?_
     refine au (by simp only [aF,gtOf,aA];exact rfl) ?_
     simp only [go_sem,↓reduceIte,f12,bz ((i:Int)+1) (by omega)]
     refine aL (m:=k - 1) (by omega) ⟨i+1,by omega,?_⟩
     simp only [go_sem,↓reduceIte,f1,f2,f10,f11,nrq.symm,nrp.symm,p3,q3]
     exact ⟨rfl,hl3.new nr,.inr ⟨r,rfl,by simp,nr,nrp,nrq⟩⟩
    ·intro hf;cases hf
   ·have hd:decide (i<t.args.length)=false:=by simpa using hi
    have hdr:List.drop 2 c0=[]:=List.drop_eq_nil_of_le (by omega)
    simp only [go_sem,↓reduceIte,f11,f12,hd]
    apply rN;subst hbq
    repeat refine ah fun bq hbq=>?_
    refine aW (t:=false) (by simp only [go_sem,↓reduceIte]) ?_ ?_
    ·intro hf;cases hf
    ·intro _
     refine eT ?_
     repeat first|(refine dM ?_;clear hbq bq)|refine dO ?_|refine bZ ?_|refine bS ?_|refine dU rfl ?_
     apply rN;subst hbq
     repeat refine ah fun bq hbq=>?_
     refine au (by simp only [aF,gtOf,aA];exact rfl) ?_
     rcases hX2 with ⟨rfl,e⟩|⟨r,rfl,mr,nr,nrp,nrq⟩
     ·simp only [go_sem,↓reduceIte,f1,f2,mp,mq,hc0,hdr]
      apply rN;subst hbq
      refine eF (v:=qA t) (by rw [Tryz.results85]) (hl2.new hq0) ?_ hq
      simp only [go_sem,↓reduceIte,f2,aJ,Option.some.injEq,exists_eq_left']
      show LeAV _ (AV.agg [_,AV.list 2 (dE t.args) t.args.length .none])
      rw [e,pg]
      exact LeAV.agg (.cons (LeAV.refl _) (.cons (LeAV.list _ _ _ _) .nil))
     ·simp only [go_sem,↓reduceIte,f1,f2,mp,mq,hc0,hdr]
      apply rN;subst hbq
      refine qH (h':=h) (p:=r) (z:=2) (n:=t.args.length) (cs:=dE t.args) (T:=60) (by rw [Tryz.results85]) ?_ (iR _) (vH _) (hl2.new hq0) nr ?_ hq
      ·rw [ae _ _ nrq];exact mr
      ·simp only [go_sem,↓reduceIte,f2,aJ,Option.some.injEq,exists_eq_left']
       exact LeF.agg (.cons (LeF.refl _) (.cons LeF.here .nil))
structure Va where
 level:Int
 type:Ty
 is:Bool
 t:Term
abbrev bO (v:Va):List AV:=[.int .i64 v.level,.str v.type.name,.list 2 (dE v.type.args) v.type.args.length .none,.bool v.is,.int .i64 v.t.kind,.int .i64 v.t.n,.str v.t.name,.list 4 (encs v.t.args) v.t.args.length .none]
abbrev encV (v:Va):AV:=.agg (bO v)
def aM (l:List Va):List AV:=l.flatMap bO
theorem iD (ts:List Va) (k:Nat) {v:Va} (hk:ts[k]?=some v):∃ r,(aM ts).drop (k * 8)=bO v++r:=sW (z:=8) (fun _=>rfl) ts k hk
theorem gN (l:List Va):(aM l).length=l.length * 8:=by
 rw [aM,List.length_flatMap]
 induction l with
 |nil=>rfl
 |cons t l ih=>simp only [List.map_cons,List.sum_cons,List.length_cons,List.length_nil] at ih ⊢;omega
theorem qf:∀ l:List Va,(aM l).all AV.flat=true
 |[]=>rfl
 |t::l=>by
  have:=qf l
  unfold aM at this ⊢
  rw [List.flatMap_cons,List.all_append,this];rfl
theorem xK {l m:List AV} {off:Nat} (h:(l.drop off).take m.length=m):dV l off m=l:=by
 unfold dV
 have h1:m++l.drop (off+m.length)=l.drop off:=by
  rw [← List.drop_drop]
  conv=>lhs;lhs;rw [← h]
  exact List.take_append_drop _ _
 rw [h1]
 exact List.take_append_drop _ _
theorem ut:bn Tryz.prog 22 0 []=some (.list 8 [] 0 .full):=by
 simp only [bn,yR,FN,zH,ik];rfl
theorem GX (ts:List Va) (h:ai) (Q:AOut→ai→Prop) (hn:ts.length≤1000000000) (h0:ts=[]→Q (.ret (.list 8 [] 0 .full)) h) (h1:ts≠[]→∀ p,h p=Option.none→Q (.ret (.sl p 0 ts.length)) (upd h p (some (.cells (aM ts) 62)))) :
  az Tryz.prog 104 [.list 8 (aM ts) ts.length .none] h Q:=by
 refine eN Tryz.func104 ?_
 repeat refine ah fun bq hbq=>?_
 refine au (by simp only [aF,gtOf,aA];exact rfl) ?_
 simp only [go_sem,↓reduceIte]
 apply rN;subst hbq
 repeat refine ah fun bq hbq=>?_
 refine au (by simp only [aF,gtOf,aA];exact rfl) ?_
 by_cases hts:ts=[]
 ·subst hts
  simp only [go_sem,↓reduceIte]
  apply rN;subst hbq
  repeat refine ah fun bq hbq=>?_
  refine oJ (by simp only [go_sem,↓reduceIte]) ?_ ?_
  ·repeat refine ah fun bq hbq=>?_
   refine au (by simp only [aF,gtOf,aA];exact rfl) ?_
   simp only [go_sem,↓reduceIte]
   apply rN;subst hbq
   refine dw ?_
   repeat first|(refine eZ ?_;clear hbq bq)|refine fu ?_|refine dR ?_|refine dA ?_
   refine df (v:=.list 8 [] 0 .full) (by rw [Tryz.results104]) (ax.refl h) ?_ (h0 rfl)
   simp only [go_sem,↓reduceIte,aJ,Option.some.injEq,exists_eq_left']
   exact LeAV.nil_full _ _
  ·refine bM ?_
   apply rN;subst hbq
   repeat refine ah fun bq hbq=>?_
   refine au (by simp only [aF,gtOf,aA];exact rfl) ?_
   simp only [go_sem,↓reduceIte,ut]
   refine aZ ?_
   simp only [go_sem,↓reduceIte,ut]
   intro p hp
   rw [rQ yR yR FN Ob zH ⟨rfl,by decide⟩ (.inl rfl) (.inl rfl) (by decide)]
   apply rN;subst hbq
   refine eF (v:=.list 8 [] 0 .full) (by rw [Tryz.results104]) (ax.refl h) ?_ (h0 rfl)
   simp only [go_sem,↓reduceIte,aJ,Option.some.injEq,exists_eq_left']
   exact LeAV.refl _
 ·have hl:ts.length≠0:=by simpa using hts
  simp only [go_sem,↓reduceIte,hl]
  apply rN;subst hbq
  repeat refine ah fun bq hbq=>?_
  refine aW (t:=false) (by simp only [go_sem,↓reduceIte]) ?_ ?_
  ·intro hf;cases hf
  ·intro _
   refine bM ?_
   apply rN;subst hbq
   repeat refine ah fun bq hbq=>?_
   refine au (by simp only [aF,gtOf,aA];exact rfl) ?_
   simp only [go_sem,↓reduceIte,ut]
   refine dP ?_
   simp only [go_sem,↓reduceIte,fG,ut]
   intro p hp
   rw [oP yR yR FN Ob zH ⟨rfl,by decide⟩ (.inl rfl) (.inl rfl) rfl hl (by omega)]
   apply rN;subst hbq
   refine fO (by rw [Tryz.results104]) (ax.refl _) ?_
   simp only [go_sem,↓reduceIte,aJ,Option.some.injEq,exists_eq_left']
   exact h1 hts p hp
theorem AZ (vs:List Va) (i:Nat) {v:Va} (hv:vs[i]?=some v) (o n:Nat) (hn:o+n≤8):(List.drop (i * 8+o) (aM vs)).take n=((bO v).drop o).take n:=by
 obtain ⟨r,hr⟩:=iD vs i hv
 rw [← List.drop_drop,hr,List.drop_append,List.take_append]
 have:(bO v).length=8:=rfl
 rw [show n - ((bO v).drop o).length=0 by rw [List.length_drop,this];omega]
 simp
theorem E9 (sz:Nat) (c:List AV) (n:Nat) (t:Tok):dL Tryz.prog 24 [(0,.list sz c n t)]=some (.agg [.list sz c n t]):=by
 simp only [dL,OO,Px,ik]
 rfl
theorem KE (r n:Nat):dL Tryz.prog 24 [(0,.sl r 0 n)]=some (.agg [.sl r 0 n]):=by
 simp only [dL,OO,Px,ik]
 rfl
theorem jW (vs:List Va) (h:ai) (Q:AOut→ai→Prop) (hn:vs.length≤1000000000) (hs:∀ v ∈ vs,v.type.size≤1000000000∧v.t.size≤1000000000) (h0:vs=[]→Q (.ret (.agg [.list 8 [] 0 .full])) h)
  (h1:vs≠[]→∀ p,h p=Option.none→Q (.ret (.agg [.sl p 0 vs.length])) (upd h p (some (.cells (aM vs) 62)))):az Tryz.prog 58 [.agg [.list 8 (aM vs) vs.length .none]] h Q:=by
 refine eN Tryz.func58 ?_
 repeat refine ah fun bq hbq=>?_
 refine au (by simp only [aF,gtOf,aA];exact rfl) ?_
 simp only [go_sem,↓reduceIte]
 intro p hp q hq'
 obtain ⟨hne,hq0⟩:=fq hq'
 apply rN;subst hbq
 let I:Env→ai→Prop:=fun τ h'=>τ 2=.ptr q 0∧ax h' h∧(∃ c0,h' q=some (.cells c0 24)∧c0.length=1)∧((τ 3=.list 8 [] 0 .full∧vs=[])∨∃ r,τ 3=.sl r 0 vs.length∧h' r=some (.cells (aM vs) 62)∧h r=Option.none∧r≠q∧vs≠[])
 refine xQ (I) ?_ fun bq hbq τ h' hI=>?_
 ·repeat refine ah fun bq hbq=>?_
  refine au (by simp only [aF,gtOf,aA];exact rfl) ?_
  simp only [go_sem,↓reduceIte,hne,hne.symm]
  refine GX vs _ _ hn ?_ ?_
  ·intro hnil
   simp only [go_sem,↓reduceIte,hne,hne.symm]
   refine aD ?_
   exact ⟨rfl,((ax.refl h).new hp).new hq0,⟨_,by rw [upd_same],rfl⟩,.inl ⟨rfl,hnil⟩⟩
  ·intro hne' r hr
   have hrp:r≠p∧r≠q∧h r=Option.none:=by
    obtain ⟨e1,h1⟩:=fq (show upd (upd h p _) q (some _) r=Option.none from hr)
    obtain ⟨e2,h2⟩:=fq h1
    exact ⟨e2,e1,h2⟩
   simp only [go_sem,↓reduceIte,hne,hne.symm,hrp.1,hrp.1.symm,hrp.2.1,hrp.2.1.symm]
   refine aD ?_
   exact ⟨rfl,(((ax.refl h).new hp).new hq0).new hrp.2.2,⟨_,by rw [ae _ _ hrp.2.1.symm,upd_same],rfl⟩,.inr ⟨r,rfl,upd_same _ _ _,hrp.2.2,hrp.2.1,hne'⟩⟩
 obtain ⟨e2,hl,⟨c0,lq,hc0⟩,hX⟩:=hI
 subst hbq
 have hdr:List.drop 1 c0=[]:=List.drop_eq_nil_of_le (by omega)
 repeat refine ah fun bq hbq=>?_
 refine au (by simp only [aF,gtOf,aA];exact rfl) ?_
 rcases hX with ⟨e3,hnil⟩|⟨r,e3,lr,nr,nrq,hne'⟩
 ·simp only [go_sem,↓reduceIte,e3]
  apply rN;subst hbq
  repeat refine ah fun bq hbq=>?_
  refine bu fun cq hcq=>?_
  subst hcq
  refine aT (fun k τ h2=>τ 2=.ptr q 0∧τ 3=.list 8 [] 0 .full∧τ 10=.int .i64 0∧τ 11=.int .i64 0∧h2=h') 0 ?_ ?_
  ·simp only [go_sem,↓reduceIte,e2,e3]
   exact rfl
  ·intro c hc k τ h2 hI
   obtain ⟨f2,f3,f10,f11,rfl⟩:=hI
   subst hc
   repeat refine ah fun bq hbq=>?_
   refine au (by simp only [aF,gtOf,aA];exact rfl) ?_
   simp only [go_sem,↓reduceIte,f10,f11,Int.lt_irrefl,Nat.lt_irrefl,decide_false]
   apply rN;subst hbq
   repeat refine ah fun bq hbq=>?_
   refine aW (t:=false) (by simp only [go_sem,↓reduceIte]) ?_ ?_
   ·intro hf;cases hf
   ·intro _
    refine eT ?_
    repeat first|(refine dM ?_;clear hbq bq)|refine dO ?_|refine bZ ?_|refine bS ?_|refine dU rfl ?_
    apply rN;subst hbq
    repeat refine ah fun bq hbq=>?_
    refine au (by simp only [aF,gtOf,aA];exact rfl) ?_
    simp only [go_sem,↓reduceIte,f2,f3,lq,hc0,hdr,E9]
    apply rN;subst hbq
    refine eF (v:=.agg [.list 8 [] 0 .full]) (by rw [Tryz.results58]) (hl.new hq0) ?_ (h0 hnil)
    simp only [go_sem,↓reduceIte,f2,f10,f11,aJ,Option.some.injEq,exists_eq_left']
    exact LeAV.refl _
 ·simp only [go_sem,↓reduceIte,e3]
  apply rN;subst hbq
  repeat refine ah fun bq hbq=>?_
  refine bu fun cq hcq=>?_
  subst hcq
  refine aT (fun k τ h2=>∃ i:Nat,k+i=vs.length∧τ 2=.ptr q 0∧τ 3=.sl r 0 vs.length∧τ 9=.sl r 0 vs.length∧τ 10=.int .i64 vs.length∧τ 11=.int .i64 i∧ax h2 h∧h2 q=some (.cells c0 24)∧h2 r=some (.cells (aM vs) 62)) vs.length ?_ ?_
  ·refine ⟨0,rfl,?_⟩
   simp only [go_sem,↓reduceIte,e2,e3]
   exact ⟨rfl,hl,lq,lr⟩
  ·intro c hc k τ h2 hI
   obtain ⟨i,hk,f2,f3,f9,f10,f11,hl2,mq,mr⟩:=hI
   subst hc
   repeat refine ah fun bq hbq=>?_
   refine au (by simp only [aF,gtOf,aA];exact rfl) ?_
   by_cases hi:i<vs.length
   ·have hd:decide (i<vs.length)=true:=by simpa using hi
    obtain ⟨u,hu⟩:∃ u,vs[i]?=some u:=⟨_,List.getElem?_eq_getElem hi⟩
    obtain ⟨rr,hrr⟩:=iD vs i hu
    have hsz:=hs u (List.mem_of_getElem? hu)
    simp only [go_sem,↓reduceIte,f10,f11,hd]
    apply rN;subst hbq
    repeat refine ah fun bq hbq=>?_
    refine aW (t:=true) (by simp only [go_sem,↓reduceIte]) ?_ ?_
    ·intro _
     refine bM ?_
     apply rN;subst hbq
     repeat refine ah fun bq hbq=>?_
     refine bu fun cq hcq=>?_
     subst hcq
     repeat refine ah fun bq hbq=>?_
     refine au (by simp only [aF,gtOf,aA];exact rfl) ?_
     simp only [go_sem,↓reduceIte,f9,f11,hi,mr,hrr]
     intro w hw
     have w2:=aj hw mq
     have w3:=aj hw mr
     generalize hh3:upd (upd h2 w _) w _=h3
     have x3:=(congrFun hh3.symm w).trans (upd_same _ _ _)
     have q3:=(congrFun hh3.symm q).trans ((ae _ _ w2).trans ((ae _ _ w2).trans mq))
     have r3:=(congrFun hh3.symm r).trans ((ae _ _ w3).trans ((ae _ _ w3).trans mr))
     have hl3:ax h3 h:=by rw [← hh3];exact (hl2.new (hl2.none hw)).new (hl2.none hw)
     clear hh3
     apply rN;subst hbq
     repeat refine ah fun bq hbq=>?_
     refine bA (.take 0 (.take 1 (.take 2 (.take 3 (.take 4 (.take 5 (.take 7 (.take 8 (.one 6 [8] (.one 9 [] (.take 10 (.take 11 (.one 12 [] (.take 13 (.take 14 (.one 15 [] (.done))))))))))))))))) (by kernel_rfl) (by simp only [aF,gtOf,aA];exact rfl) ?_
     simp only [go_sem,↓reduceIte,f3,x3]
     refine GU u.type.size u.type _ _ (Nat.le_refl _) hsz.1 ?_
     simp only [go_sem,↓reduceIte,x3]
     refine NY u.t.size u.t _ _ (Nat.le_refl _) hsz.2 ?_
     have p1:=AZ vs i hu 1 2 (by omega)
     have p2:=AZ vs i hu 4 4 (by omega)
     have s1:dV (aM vs) (i * 8+1) (cB u.type)=aM vs:=xK p1
     have s2:dV (aM vs) (i * 8+4) (ay u.t)=aM vs:=xK p2
     simp only [dV,List.length_cons,List.length_nil,List.cons_append,List.nil_append,Nat.reduceAdd] at s1 s2
     have hle1:i * 8+1+2≤(aM vs).length:=by rw [gN];omega
     have hle2:i * 8+4+4≤(aM vs).length:=by rw [gN];omega
     simp only [go_sem,↓reduceIte,f3,hi,r3,x3,hle1,hle2,s1,s2]
     refine bD ?_
     apply rN;subst hbq
     repeat refine ah fun bq hbq=>?_
     refine au (by simp only [aF,gtOf,aA];exact rfl) ?_
     simp only [go_sem,↓reduceIte,f11,bz ((i:Int)+1) (by omega)]
     refine aL (m:=k - 1) (by omega) ⟨i+1,by omega,?_⟩
     simp only [go_sem,↓reduceIte,f2,f3,f9,f10,nrq.symm,q3]
     exact ⟨rfl,(hl3.new nr).new nr⟩
    ·intro hf;cases hf
   ·have hd:decide (i<vs.length)=false:=by simpa using hi
    simp only [go_sem,↓reduceIte,f10,f11,hd]
    apply rN;subst hbq
    repeat refine ah fun bq hbq=>?_
    refine aW (t:=false) (by simp only [go_sem,↓reduceIte]) ?_ ?_
    ·intro hf;cases hf
    ·intro _
     refine eT ?_
     repeat first|(refine dM ?_;clear hbq bq)|refine dO ?_|refine bZ ?_|refine bS ?_|refine dU rfl ?_
     apply rN;subst hbq
     repeat refine ah fun bq hbq=>?_
     refine au (by simp only [aF,gtOf,aA];exact rfl) ?_
     simp only [go_sem,↓reduceIte,f2,f3,mq,hc0,hdr,KE]
     apply rN;subst hbq
     refine eF (v:=.agg [.sl r 0 vs.length]) (by rw [Tryz.results58]) ((hl2.with mr).new (by rw [ae _ _ nrq.symm];exact hq0)) ?_ (h1 hne' r nr)
     simp only [go_sem,↓reduceIte,f2,aJ,Option.some.injEq,exists_eq_left']
     exact LeAV.refl _
def bP (t:Ty):Bool:=(t.args.length:Int)==0&&!(t.name.toList==(⟨#[45,62]⟩:ByteArray).toList)&&decide ((t.name.size:Int)>0)&&decide ((t.name.size:Int)≤40)
theorem Ex (t:Ty) (h:ai) (Q:AOut→ai→Prop) (hq:Q (.ret (.bool (bP t))) h):az Tryz.prog 83 [qA t] h Q:=by
 refine eN Tryz.func83 ?_
 repeat refine ah fun bq hbq=>?_
 refine au (by simp only [aF,gtOf,aA];exact rfl) ?_
 simp only [go_sem,↓reduceIte]
 intro p hp
 apply rN;subst hbq
 repeat refine ah fun bq hbq=>?_
 refine au (by simp only [aF,gtOf,aA];exact rfl) ?_
 have fin:ax (upd h p (some (AObj.cells (cB t) 60))) h:=ax.one hp
 cases h1:((t.args.length:Int)==0) <;> cases h2:(t.name.toList==(⟨#[45,62]⟩:ByteArray).toList) <;> cases h3:decide ((t.name.size:Int)>0)
 all_goals
  simp only [go_sem,↓reduceIte,h1,h2,h3]
  apply rN;subst hbq
  refine fO (by rw [Tryz.results83]) fin ?_
  simp only [go_sem,↓reduceIte,aJ,Option.some.injEq,exists_eq_left']
  exact bJ (by simp only [bP,h1,h2,h3,Bool.and_false,Bool.false_and,Bool.true_and,Bool.not_true,Bool.not_false]) hq
def vD (t:Term):Bool:=t.kind==0&&t.n==0&&t.name.toList==(⟨#[]⟩:ByteArray).toList&&(t.args.length:Int)==0
theorem Nj (t:Term) (h:ai) (Q:AOut→ai→Prop) (hq:Q (.ret (.bool (vD t))) h):az Tryz.prog 117 [enc t] h Q:=by
 refine eN Tryz.func117 ?_
 repeat refine ah fun bq hbq=>?_
 refine au (by simp only [aF,gtOf,aA];exact rfl) ?_
 simp only [go_sem,↓reduceIte]
 intro p hp
 apply rN;subst hbq
 repeat refine ah fun bq hbq=>?_
 refine au (by simp only [aF,gtOf,aA];exact rfl) ?_
 have fin:ax (upd h p (some (AObj.cells (ay t) 27))) h:=ax.one hp
 cases h1:(t.kind==0) <;> cases h2:(t.n==0) <;> cases h3:(t.name.toList==(⟨#[]⟩:ByteArray).toList)
 all_goals
  simp only [go_sem,↓reduceIte,h1,h2,h3]
  apply rN;subst hbq
  refine fO (by rw [Tryz.results117]) fin ?_
  simp only [go_sem,↓reduceIte,aJ,Option.some.injEq,exists_eq_left']
  exact bJ (by simp only [vD,h1,h2,h3,Bool.and_false,Bool.false_and,Bool.true_and]) hq
def bU:Ty→Ty
 |⟨n,[a,b]⟩=>bU b
 |⟨n,l⟩=>⟨n,l⟩
theorem xI {t:Ty} (h:((t.args.length:Int)==2)=true):∃ a b,t.args=[a,b]∧bU t=bU b∧b.size<t.size:=by
 obtain ⟨n,l⟩:=t
 match l,h with
 |[a,b],_=>exact ⟨a,b,rfl,by rw [bU],r9 ⟨n,[a,b]⟩ 1 rfl⟩
 |[],h=>simp at h
 |[a],h=>simp at h
 |a::b::c::l,h=>simp at h;omega
theorem xJ {t:Ty} (h:((t.args.length:Int)==2)=false):bU t=t:=by
 obtain ⟨n,l⟩:=t
 match l,h with
 |[a,b],h=>simp at h
 |[],_=>rw [bU];intro a b e;cases e
 |[a],_=>rw [bU];intro a b e;cases e
 |a::b::c::l,_=>rw [bU];intro a b e;cases e
theorem si (t:Ty) (h:ai) (Q:AOut→ai→Prop) (hq:Q (.ret (qA (bU t))) h):az Tryz.prog 159 [qA t] h Q:=by
 refine eN Tryz.func159 ?_
 repeat with_reducible refine ah fun bq hbq=>?_
 refine au (by simp only [aF,gtOf,aA];exact rfl) ?_
 simp only [go_sem,↓reduceIte]
 intro p hp q hq'
 obtain ⟨hne,hq0⟩:=fq hq'
 apply rN;subst hbq
 repeat with_reducible refine ah fun bq hbq=>?_
 refine bu fun cq hcq=>?_
 subst hcq
 refine aT (fun k τ h'=>∃ u:Ty,k=u.size∧bU u=bU t∧τ 1=.ptr p 0∧τ 2=.ptr q 0∧ax h' h∧h' p=some (.cells (cB u) 60)∧∃ c0,h' q=some (.cells c0 60)∧c0.length=2) t.size ?_ ?_
 ·refine ⟨t,rfl,rfl,rfl,rfl,((ax.refl h).new hp).new hq0,by rw [ae _ _ hne.symm,upd_same],_,upd_same _ _ _,rfl⟩
 ·intro c hc k τ h2 hI
  obtain ⟨u,rfl,hu,e1,e2,hl,lp,c0,lq,hc0⟩:=hI
  subst hc
  have hdr:List.drop 2 c0=[]:=List.drop_eq_nil_of_le (by omega)
  repeat with_reducible refine ah fun bq hbq=>?_
  refine au (by simp only [aF,gtOf,aA];exact rfl) ?_
  cases hk:((u.args.length:Int)==2)
  ·simp only [go_sem,↓reduceIte,e1,lp,hk]
   apply rN;subst hbq
   repeat with_reducible refine ah fun bq hbq=>?_
   refine aW (t:=false) (by simp only [go_sem,↓reduceIte]) ?_ ?_
   ·intro hf;cases hf
   ·intro _
    refine eT ?_
    repeat first|(with_reducible refine dM ?_;clear hbq bq)|with_reducible refine dO ?_|with_reducible refine bZ ?_|with_reducible refine bS ?_|(with_reducible refine dU ?_ ?_;focus rfl)
    apply rN;subst hbq
    repeat with_reducible refine ah fun bq hbq=>?_
    refine au (by simp only [aF,gtOf,aA];exact rfl) ?_
    simp only [go_sem,↓reduceIte,e1,e2,lp,lq,hc0,hdr]
    apply rN;subst hbq
    rw [← hu,xJ hk] at hq
    refine eF (h':=h) (v:=qA u) (by rw [Tryz.results159]) (hl.new hq0) ?_ hq
    simp only [go_sem,↓reduceIte,e2,aJ,Option.some.injEq,exists_eq_left']
    exact LeAV.refl _
  ·simp only [go_sem,↓reduceIte,e1,lp,hk]
   apply rN;subst hbq
   repeat with_reducible refine ah fun bq hbq=>?_
   refine aW (t:=true) (by simp only [go_sem,↓reduceIte]) ?_ ?_
   ·intro _
    refine bM ?_
    apply rN;subst hbq
    obtain ⟨a,b,hab,ht,hsz⟩:=xI hk
    repeat with_reducible refine ah fun bq hbq=>?_
    refine bu fun cq hcq=>?_
    subst hcq
    repeat with_reducible refine ah fun bq hbq=>?_
    refine au (by simp only [aF,gtOf,aA];exact rfl) ?_
    obtain ⟨r,hr⟩:=xw [a,b] 1 (t:=b) rfl
    have lp':h2 p=some (.cells [.str u.name,.list 2 (dE [a,b]) 2 .none] 60):=by rw [lp];show _=some (AObj.cells [_,AV.list 2 (dE [a,b]) [a,b].length .none] 60);rw [← hab]
    simp only [Nat.reduceMul] at hr
    simp only [go_sem,↓reduceIte,e1,lp',show (0:Int)≤1 from by decide,show (1:Int)<((2:Nat):Int) from by decide,show (1:Int).toNat=1 from rfl,Nat.reduceMul,hr]
    refine bD ?_
    refine aL hsz ⟨b,rfl,by rw [← ht,hu],?_⟩
    simp only [go_sem,↓reduceIte,e1,e2,hne,lq]
    exact ⟨hl.new hp,c0,rfl,hc0⟩
   ·intro hf;cases hf
def aG:Term:=⟨0,0,⟨#[]⟩,[]⟩
def aI (k n:Int) (s:ByteArray) (args:List Term) (d:Int):Int × Int × ByteArray :=
 if k==2&&decide (n≥d) then
  let a:=args.getD ((args.length:Int) - 1 - (n - d)).toNat aG
  (a.kind,if a.kind==2 then a.n+d else a.n,a.name)
 else (k,n,s)
mutual
def aH:Term→List Term→Int→Term
 |⟨k,n,s,l⟩,us,d=>⟨(aI k n s us d).1,(aI k n s us d).2.1,(aI k n s us d).2.2,aC l us (inner k d)⟩
def aC:List Term→List Term→Int→List Term
 |[],_,_=>[]
 |t::ts,us,d=>aH t us d::aC ts us d
end
mutual
def tF:Term→Nat→Int→Bool
 |⟨k,n,_,l⟩,m,d=>(k != 2||decide (n<d+m))&&nR l m (inner k d)
def nR:List Term→Nat→Int→Bool
 |[],_,_=>true
 |t::ts,m,d=>tF t m d&&nR ts m d
end
theorem qa:∀ (l us:List Term) (d:Int) (i:Nat),(aC l us d)[i]?=(l[i]?).map fun t=>aH t us d
 |[],us,d,i=>by simp [aC]
 |t::l,us,d,0=>by simp [aC]
 |t::l,us,d,i+1=>by simp [aC,qa l us d i]
theorem bW:∀ (l us:List Term) (d:Int),(aC l us d).length=l.length
 |[],us,d=>by simp [aC]
 |t::l,us,d=>by simp [aC,bW l us d]
theorem AO:∀ (l:List Term) (m:Nat) (d:Int) (i:Nat) {t:Term},nR l m d=true→l[i]?=some t→tF t m d=true
 |[],m,d,i,t,_,hi=>by simp at hi
 |u::l,m,d,0,t,ho,hi=>by
  simp only [List.getElem?_cons_zero,Option.some.injEq] at hi;subst hi
  rw [nR,Bool.and_eq_true] at ho;exact ho.1
 |u::l,m,d,i+1,t,ho,hi=>by
  simp only [List.getElem?_cons_succ] at hi
  rw [nR,Bool.and_eq_true] at ho;exact AO l m d i ho.2 hi
theorem EK:∀ (s:Nat) (t:Term) (us:List Term) (d:Int) (h:ai) (Q:AOut→ai→Prop),t.size≤s→0≤d→d+t.size≤1000000000→us.length≤1000000000→(∀ a ∈ us,-1000000000≤a.n∧a.n≤1000000000)→tF t us.length d=true →
  Q (.ret (enc (aH t us d))) h→az Tryz.prog 143 [enc t,.list 4 (encs us) us.length .none,.int .i64 d] h Q:=by
 intro s
 induction s with
 |zero=>intro t us d h Q ht;obtain ⟨a,b,c,l⟩:=t;rw [Term.size] at ht;omega
 |succ s ih =>
  intro t us d h Q ht hd0 hd1 has hn hok hq
  refine eN Tryz.func143 ?_
  repeat with_reducible refine ah fun bq hbq=>?_
  refine au (by simp only [aF,gtOf,aA];exact rfl) ?_
  simp only [go_sem,↓reduceIte]
  intro p hp q hq'
  have hne:=fq hq'
  apply rN;subst hbq
  repeat with_reducible refine ah fun bq hbq=>?_
  refine au (by simp only [aF,gtOf,aA];exact rfl) ?_
  simp only [go_sem,↓reduceIte,hne.1,hne.1.symm]
  intro r hr
  have hrp:r≠p∧r≠q∧h r=Option.none:=by
   by_cases e1:r=q
   ·subst e1;rw [if_pos rfl] at hr;cases hr
   ·by_cases e2:r=p
    ·subst e2;rw [if_neg e1,if_pos rfl] at hr;cases hr
    ·rw [if_neg e1,if_neg e2] at hr;exact ⟨e2,e1,hr⟩
  apply rN;subst hbq
  refine xQ (fun τ h'=>τ 1=.list 4 (encs us) us.length .none∧τ 3=.ptr p 0∧τ 6=.ptr q 0∧τ 7=.ptr r 0∧τ 8=.int .i64 (inner t.kind d)∧ax h' h∧h' p=some (.cells (ay t) 27)∧(∃ c0,h' q=some (.cells c0 27)∧c0.length=4)∧∃ lst,h' r=some (.cells [.int .i64 (aI t.kind t.n t.name us d).1,.int .i64 (aI t.kind t.n t.name us d).2.1,.str (aI t.kind t.n t.name us d).2.2,lst] 27)) ?_ fun bq hbq τ h' hI=>?_
  ·repeat with_reducible refine ah fun bq hbq=>?_
   refine bu fun cq hcq=>?_
   subst hcq
   repeat with_reducible refine ah fun bq hbq=>?_
   refine au (by simp only [aF,gtOf,aA];exact rfl) ?_
   simp only [go_sem,↓reduceIte,hne.1,hne.1.symm,hrp.1,hrp.1.symm,hrp.2.1,hrp.2.1.symm]
   apply rN;subst hbq
   repeat with_reducible refine ah fun bq hbq=>?_
   refine aW (t:=t.kind==5) (by simp only [go_sem,↓reduceIte]) ?_ ?_
   ·intro hk5
    have hk2:(t.kind==2)=false:=by simp only [beq_iff_eq] at hk5;rw [hk5];rfl
    repeat with_reducible refine ah fun bq hbq=>?_
    refine au (by simp only [aF,gtOf,aA];exact rfl) ?_
    simp only [go_sem,↓reduceIte,bz (d+1) (by omega)]
    refine bD ?_
    refine aD ?_
    simp only [go_sem,↓reduceIte,hne.1,hne.1.symm,hrp.1,hrp.1.symm,hrp.2.1,hrp.2.1.symm,inner,hk5,aI,hk2]
    exact ⟨((ax.refl h).new hp |>.new hne.2 |>.new hrp.2.2 |>.new hrp.2.2),⟨_,rfl,rfl⟩,_,rfl⟩
   ·intro hk5
    have hinn:inner t.kind d=d:=by unfold inner;rw [hk5];rfl
    repeat with_reducible refine ah fun bq hbq=>?_
    refine au (by simp only [aF,gtOf,aA];exact rfl) ?_
    cases hk2:(t.kind==2)
    ·simp only [go_sem,↓reduceIte,hne.1,hne.1.symm,hrp.1,hrp.1.symm,hrp.2.1,hrp.2.1.symm,hk2]
     apply rN;subst hbq
     repeat with_reducible refine ah fun bq hbq=>?_
     refine aW (t:=false) (by simp only [go_sem,↓reduceIte]) ?_ ?_
     ·intro hf;cases hf
     ·intro _
      refine bM ?_
      refine bD ?_
      refine aD ?_
      simp only [go_sem,↓reduceIte,hne.1,hne.1.symm,hrp.1,hrp.1.symm,hrp.2.1,hrp.2.1.symm,hinn,aI,hk2]
      exact ⟨((ax.refl h).new hp |>.new hne.2 |>.new hrp.2.2 |>.new hrp.2.2),⟨_,rfl,rfl⟩,_,rfl⟩
    ·simp only [go_sem,↓reduceIte,hne.1,hne.1.symm,hrp.1,hrp.1.symm,hrp.2.1,hrp.2.1.symm,hk2]
     apply rN;subst hbq
     repeat with_reducible refine ah fun bq hbq=>?_
     refine aW (t:=decide (t.n≥d)) (by simp only [go_sem,↓reduceIte]) ?_ ?_
     ·intro hge
      have hge':d≤t.n:=by simpa using hge
      have hlt:t.n<d+us.length:=by
       obtain ⟨k,n,nm,l⟩:=t
       rw [tF,Bool.and_eq_true] at hok
       have:=hok.1
       simp only [bne,hk2,Bool.not_true,Bool.false_or,decide_eq_true_eq] at this
       exact this
      obtain ⟨j,hj⟩:∃ j:Nat,(us.length:Int) - 1 - (t.n - d)=j:=⟨_,(Int.toNat_of_nonneg (by omega)).symm⟩
      have hjl:j<us.length:=by omega
      obtain ⟨u,hu⟩:∃ u,us[j]?=some u:=⟨_,List.getElem?_eq_getElem hjl⟩
      obtain ⟨rr,hrr⟩:=dD us j hu
      have hum:=hn u (List.mem_of_getElem? hu)
      have hput:aI t.kind t.n t.name us d=(u.kind,(if u.kind==2 then u.n+d else u.n),u.name):=by
       unfold aI
       rw [hk2,hge,Bool.and_true,if_pos rfl,hj,Int.toNat_natCast,List.getD_eq_getElem?_getD,hu]
       rfl
      repeat with_reducible refine ah fun bq hbq=>?_
      refine au (by simp only [aF,gtOf,aA];exact rfl) ?_
      simp only [go_sem,↓reduceIte,hne.1,hne.1.symm,hrp.1,hrp.1.symm,hrp.2.1,hrp.2.1.symm,bz ((us.length:Int) - 1) (by omega),bz (t.n - d) (by omega),hj,bz ((j:Int)) (by omega),hjl,hrr]
      apply rN;subst hbq
      repeat with_reducible refine ah fun bq hbq=>?_
      refine au (by simp only [aF,gtOf,aA];exact rfl) ?_
      simp only [go_sem,↓reduceIte]
      apply rN;subst hbq
      repeat with_reducible refine ah fun bq hbq=>?_
      refine aW (t:=u.kind==2) (by simp only [go_sem,↓reduceIte]) ?_ ?_
      ·intro hu2
       repeat with_reducible refine ah fun bq hbq=>?_
       refine au (by simp only [aF,gtOf,aA];exact rfl) ?_
       simp only [go_sem,↓reduceIte,bz (u.n+d) (by omega)]
       refine bD ?_
       refine aD ?_
       simp only [go_sem,↓reduceIte,hne.1,hne.1.symm,hrp.1,hrp.1.symm,hrp.2.1,hrp.2.1.symm,hinn,hput,hu2]
       exact ⟨((ax.refl h).new hp |>.new hne.2 |>.new hrp.2.2 |>.new hrp.2.2 |>.new hrp.2.2 |>.new hrp.2.2),⟨_,rfl,rfl⟩,_,rfl⟩
      ·intro hu2
       refine bM ?_
       refine bD ?_
       refine aD ?_
       simp only [go_sem,↓reduceIte,hne.1,hne.1.symm,hrp.1,hrp.1.symm,hrp.2.1,hrp.2.1.symm,hinn,hput,hu2]
       exact ⟨((ax.refl h).new hp |>.new hne.2 |>.new hrp.2.2 |>.new hrp.2.2 |>.new hrp.2.2),⟨_,rfl,rfl⟩,_,rfl⟩
     ·intro hge
      refine bM ?_
      refine bD ?_
      refine aD ?_
      simp only [go_sem,↓reduceIte,hne.1,hne.1.symm,hrp.1,hrp.1.symm,hrp.2.1,hrp.2.1.symm,hinn,aI,hk2,hge]
      exact ⟨((ax.refl h).new hp |>.new hne.2 |>.new hrp.2.2 |>.new hrp.2.2),⟨_,rfl,rfl⟩,_,rfl⟩
  ·obtain ⟨e1,e3,e6,e7,e8,hl,lp,⟨c0,lq,hc0⟩,lst,lr⟩:=hI
   subst hbq
   repeat with_reducible refine ah fun bq hbq=>?_
   refine au (by simp only [aF,gtOf,aA];exact rfl) ?_
   simp only [go_sem,↓reduceIte,e7,lr]
   apply rN;subst hbq
   repeat with_reducible refine ah fun bq hbq=>?_
   refine au (by simp only [aF,gtOf,aA];exact rfl) ?_
   simp only [go_sem,↓reduceIte,e3,hrp.1.symm,lp]
   apply rN;subst hbq
   have hsz:=t.size
   generalize hK:(aI t.kind t.n t.name us d).1=K at lr ⊢
   generalize hN:(aI t.kind t.n t.name us d).2.1=N at lr ⊢
   generalize hS:(aI t.kind t.n t.name us d).2.2=S at lr ⊢
   generalize hD:inner t.kind d=D at e8 ⊢
   have hDb:0≤D∧D≤d+1:=by rw [← hD];unfold inner;split <;> omega
   have hfill:aH t us d=⟨K,N,S,aC t.args us D⟩:=by
    rw [← hK,← hN,← hS,← hD];obtain ⟨k,n,nm,l⟩:=t;rw [aH]
   have hok2:nR t.args us.length D=true:=by
    rw [← hD];obtain ⟨k,n,nm,l⟩:=t
    rw [tF,Bool.and_eq_true] at hok;exact hok.2
   have hlen:t.args.length≤t.size:=by
    obtain ⟨k,n,nm,l⟩:=t
    rw [Term.size]
    have:∀ l:List Term,l.length≤sizes l:=by
     intro l
     induction l with
     |nil=>exact Nat.zero_le _
     |cons x l ih=>obtain ⟨a,b,c,m⟩:=x;rw [sizes,Term.size,List.length_cons];omega
    exact Nat.le_succ_of_le (this l)
   repeat with_reducible refine ah fun bq hbq=>?_
   refine bu fun cq hcq=>?_
   subst hcq
   refine aT (fun k τ h2=>∃ (i sz:Nat) (tok:Tok),k+i=t.args.length∧τ 1=.list 4 (encs us) us.length .none∧τ 6=.ptr q 0∧τ 7=.ptr r 0∧τ 8=.int .i64 D∧τ 50=.list 4 (encs t.args) t.args.length .none∧τ 51=.int .i64 t.args.length∧τ 52=.int .i64 i∧ax h2 h∧h2 q=some (.cells c0 27)∧h2 r=some (.cells [.int .i64 K,.int .i64 N,.str S,.list sz (encs ((aC t.args us D).take i)) i tok] 27)∧Grow 27 h h2 tok∧(i=0∨sz=4)) t.args.length ?_ ?_
   ·refine ⟨0,0,.nil,rfl,?_⟩
    simp only [go_sem,↓reduceIte,e1,e3,e6,e7,e8,hrp.2.1.symm,lq,List.take_zero,bB]
    exact ⟨rfl,hl.new hrp.2.2,.inl (.inr rfl),by simp⟩
   ·intro c hc k τ h2 hI
    obtain ⟨i,sz,tok,hk,f1,f6,f7,f8,f50,f51,f52,hl2,mq,mr,hg,hsz0⟩:=hI
    subst hc
    repeat with_reducible refine ah fun bq hbq=>?_
    refine au (by simp only [aF,gtOf,aA];exact rfl) ?_
    by_cases hi:i<t.args.length
    ·have hd:decide (i<t.args.length)=true:=by simpa using hi
     obtain ⟨u,hu⟩:∃ u,t.args[i]?=some u:=⟨_,List.getElem?_eq_getElem hi⟩
     obtain ⟨rr,hrr⟩:=dD t.args i hu
     have hus:=fF t i hu
     simp only [go_sem,↓reduceIte,f51,f52,hd]
     apply rN;subst hbq
     repeat with_reducible refine ah fun bq hbq=>?_
     refine aW (t:=true) (by simp only [go_sem,↓reduceIte]) ?_ ?_
     ·intro _
      refine bM ?_
      apply rN;subst hbq
      repeat with_reducible refine ah fun bq hbq=>?_
      refine bu fun cq hcq=>?_
      subst hcq
      repeat with_reducible refine ah fun bq hbq=>?_
      refine au (by simp only [aF,gtOf,aA];exact rfl) ?_
      simp only [go_sem,↓reduceIte,f50,f52,hi,hrr]
      intro w hw
      have hwq:=aj hw mq
      have hwr:=aj hw mr
      generalize hh3:upd (upd h2 w _) w _=h3
      have w3:h3 w=some (.cells (ay u) 27):=by rw [← hh3,upd_same]
      have r3:=(congrFun hh3.symm r).trans ((ae _ _ hwr).trans ((ae _ _ hwr).trans mr))
      have q3:=(congrFun hh3.symm q).trans ((ae _ _ hwq).trans ((ae _ _ hwq).trans mq))
      have hl3:ax h3 h:=by rw [← hh3];exact (hl2.new (hl2.none hw)).new (hl2.none hw)
      have hg3:Grow 27 h h3 tok:=by
       rw [← hh3]
       rcases hg with e|⟨f,ef,hf,hf0⟩
       ·exact .inl e
       ·exact .inr ⟨f,ef,by rw [ae _ _ (aj hw hf),ae _ _ (aj hw hf)];exact hf,hf0⟩
      clear hh3
      apply rN;subst hbq
      repeat with_reducible refine ah fun bq hbq=>?_
      refine bA (.take 0 (.take 1 (.take 2 (.take 3 (.take 4 (.one 5 [1] (.take 6 (.one 7 [] (.take 8 (.one 9 [] (.done))))))))))) (by kernel_rfl) (by simp only [aF,gtOf,aA];exact rfl) ?_
      simp only [go_sem,↓reduceIte,f1,f7,f8,w3,r3]
      refine ih u us D _ _ (by omega) (by omega) (by omega) has hn (AO _ _ _ i hok2 hu) ?_
      simp only [go_sem,↓reduceIte,ic,r3]
      refine aZ ?_
      simp only [go_sem,↓reduceIte,ic,r3]
      intro a ha
      obtain ⟨h4,ea,hg4,hl4,keep⟩:=iK ed ed je mD iy ⟨rfl,by decide⟩ hl3 ha (c1:=encs ((aC t.args us D).take i)) (c2:=ay (aH u us D)) (n2:=1) (t2:=.full) hg3 hsz0 (sz2:=4) rfl (by decide) (by omega)
      have r4:=keep _ _ _ r3
      have q4:=keep _ _ _ q3
      simp only [go_sem,↓reduceIte,ea,r4,f7]
      refine bD ?_
      apply rN;subst hbq
      repeat with_reducible refine ah fun bq hbq=>?_
      refine au (by simp only [aF,gtOf,aA];exact rfl) ?_
      simp only [go_sem,↓reduceIte,f52,bz ((i:Int)+1) (by omega)]
      refine aL (m:=k - 1) (by omega) ⟨i+1,4,.id a,by omega,?_⟩
      simp only [go_sem,↓reduceIte,f1,f6,f7,f8,f50,f51,hrp.2.1.symm,q4]
      rw [NL _ i (x:=aH u us D) (by rw [qa,hu];rfl)]
      refine ⟨rfl,hl4.new hrp.2.2,rfl,?_,by simp⟩
      rcases hg4 with e|⟨f,ef,hf,hf0⟩
      ·rcases e with e|e <;> cases e
      ·injection ef with ef;subst ef
       exact .inr ⟨a,rfl,by rw [ae _ _ (by intro e;rw [e,r4] at hf;cases hf)];exact hf,hf0⟩
     ·intro hf;cases hf
    ·have hd:decide (i<t.args.length)=false:=by simpa using hi
     simp only [go_sem,↓reduceIte,f51,f52,hd]
     apply rN;subst hbq
     repeat with_reducible refine ah fun bq hbq=>?_
     refine aW (t:=false) (by simp only [go_sem,↓reduceIte]) ?_ ?_
     ·intro hf;cases hf
     ·intro _
      refine eT ?_
      repeat first|(with_reducible refine dM ?_;clear hbq bq)|with_reducible refine dO ?_|with_reducible refine bZ ?_|with_reducible refine bS ?_|(with_reducible refine dU ?_ ?_;focus rfl)
      apply rN;subst hbq
      repeat with_reducible refine ah fun bq hbq=>?_
      refine au (by simp only [aF,gtOf,aA];exact rfl) ?_
      simp only [go_sem,↓reduceIte,f6,f7,mr,mq,hc0]
      apply rN;subst hbq
      have hil:i=t.args.length:=by omega
      refine eF (h':=h) (v:=enc (aH t us d)) (by rw [Tryz.results143]) (hl2.new hne.2) ?_ hq
      rw [hfill]
      simp only [go_sem,↓reduceIte,f6,aJ,Option.some.injEq,exists_eq_left']
      rw [List.take_of_length_le (by rw [bW];omega)]
      refine LeAV.agg (.cons (LeAV.refl _) (.cons (LeAV.refl _) (.cons (LeAV.refl _) (.cons ?_ .nil))))
      rw [bW,← hil]
      rcases hsz0 with h0|h4
      ·have hnil:aC t.args us D=[]:=List.eq_nil_of_length_eq_zero (by rw [bW];omega)
       rw [hnil,h0,bB]
       exact LeAV.nil _ _ _
      ·rw [h4];exact LeAV.list _ _ _ _
def wC (t:Term):Bool:=t.kind != 5||(t.n != 0||(!(t.name.toList==(⟨#[]⟩:ByteArray).toList)||(t.args.length:Int) != 1))
def eD:Nat→Term→Term × Bool
 |0,t=>(t,t.kind != 5)
 |k+1,t=>if wC t then (t,false) else eD k (t.args.headD aG)
theorem mJ {t:Term} (h:wC t=false):∃ u,t.args=[u]:=by
 simp only [wC,Bool.or_eq_false_iff] at h
 have h3:=h.2.2.2
 have:t.args.length=1:=by simp at h3;omega
 match hl:t.args,this with
 |[u],_=>exact ⟨u,rfl⟩
theorem CP (t:Term) (n:Int) (h:ai) (Q:AOut→ai→Prop) (hn:n≤1000000000) (hq:Q (.ret (.tuple [enc (eD n.toNat t).1,.bool (eD n.toNat t).2])) h):az Tryz.prog 118 [enc t,.int .i64 n] h Q:=by
 refine eN Tryz.func118 ?_
 repeat refine ah fun bq hbq=>?_
 refine au (by simp only [aF,gtOf,aA];exact rfl) ?_
 simp only [go_sem,↓reduceIte]
 intro p hp q hq'
 obtain ⟨hne,hq0⟩:=fq hq'
 apply rN;subst hbq
 repeat refine ah fun bq hbq=>?_
 refine au (by simp only [aF,gtOf,aA];exact rfl) ?_
 simp only [go_sem,↓reduceIte]
 apply rN;subst hbq
 repeat refine ah fun bq hbq=>?_
 refine bu fun cq hcq=>?_
 subst hcq
 refine aT (fun k τ h'=>∃ (i:Nat) (u:Term),k=n.toNat - i∧((i:Int)≤n∨i=0)∧eD (n.toNat - i) u=eD n.toNat t∧τ 2=.ptr p 0∧τ 4=.ptr q 0∧τ 6=.int .i64 n∧τ 7=.int .i64 i∧ax h' h∧h' p=some (.cells (ay u) 27)∧∃ c0,h' q=some (.cells c0 27)∧c0.length=4) n.toNat ?_ ?_
 ·exact ⟨0,t,rfl,.inr rfl,rfl,rfl,rfl,rfl,rfl,((ax.refl h).new hp).new hq0,by rw [ae _ _ hne.symm,upd_same],_,upd_same _ _ _,rfl⟩
 ·intro c hc k τ h2 hI
  obtain ⟨i,u,rfl,hin,hu,e2,e4,e6,e7,hl,lp,c0,lq,hc0⟩:=hI
  subst hc
  have hdr:List.drop 4 c0=[]:=List.drop_eq_nil_of_le (by omega)
  repeat refine ah fun bq hbq=>?_
  refine au (by simp only [aF,gtOf,aA];exact rfl) ?_
  simp only [go_sem,↓reduceIte,e6,e7]
  apply rN;subst hbq
  repeat refine ah fun bq hbq=>?_
  refine aW (t:=decide ((i:Int)<n)) (by simp only [go_sem,↓reduceIte]) ?_ ?_
  ·intro hlt
   have hlt':(i:Int)<n:=by simpa using hlt
   obtain ⟨k,hk⟩:∃ k,n.toNat - i=k+1:=⟨n.toNat - i - 1,by omega⟩
   rw [hk,eD] at hu
   refine bM ?_
   apply rN;subst hbq
   repeat refine ah fun bq hbq=>?_
   refine bu fun cq hcq=>?_
   subst hcq
   refine ah fun bq hbq=>?_
   refine xQ (fun τ' h'=>h'=h2∧τ' 2=.ptr p 0∧τ' 4=.ptr q 0∧τ' 6=.int .i64 n∧τ' 7=.int .i64 i∧τ' 27=.bool (wC u)) ?_ fun bq hbq τ h' hI=>?_
   ·repeat refine ah fun bq hbq=>?_
    refine au (by simp only [aF,gtOf,aA];exact rfl) ?_
    cases h1:(u.kind != 5) <;> cases h2:(u.n != 0) <;> cases h3:(u.name.toList==(⟨#[]⟩:ByteArray).toList) <;> cases h4:((u.args.length:Int) != 1)
    all_goals
     simp only [go_sem,↓reduceIte,e2,lp,h1,h2,h3,h4]
     refine aD ?_
     simp only [go_sem,↓reduceIte,e2,e4,e6,e7,wC,h1,h2,h3,h4,Bool.or_self]
   ·obtain ⟨rfl,g2,g4,g6,g7,g27⟩:=hI
    subst hbq
    refine aW g27 ?_ ?_
    ·intro hno
     rw [if_pos hno] at hu
     repeat refine ah fun bq hbq=>?_
     refine au (by simp only [aF,gtOf,aA];exact rfl) ?_
     simp only [go_sem,↓reduceIte,g2,g4,lp,lq,hc0,hdr]
     apply rN;subst hbq
     refine dw ?_
     repeat first|(refine eZ ?_;clear hbq bq)|refine fu ?_|refine dR ?_|refine dA ?_
     rw [← hu] at hq
     refine df (h':=h) (by rw [Tryz.results118]) (hl.new hq0) ?_ hq
     simp only [go_sem,↓reduceIte,g4,aJ,Option.some.injEq,exists_eq_left']
     exact LeAV.refl _
    ·intro hno
     rw [if_neg (by rw [hno];decide)] at hu
     obtain ⟨x,hx⟩:=mJ hno
     have lp':h' p=some (.cells [.int .i64 u.kind,.int .i64 u.n,.str u.name,.list 4 (encs [x]) 1 .none] 27):=by rw [lp];show _=some (AObj.cells [_,_,_,AV.list 4 (encs [x]) [x].length .none] 27);rw [← hx]
     refine bM ?_
     apply rN;subst hbq
     repeat refine ah fun bq hbq=>?_
     refine au (by simp only [aF,gtOf,aA];exact rfl) ?_
     simp only [go_sem,↓reduceIte,g2,lp',show (0:Int)≤0 from by decide,show (0:Int)<((1:Nat):Int) from by decide,show (0:Int).toNat=0 from rfl,Nat.zero_mul,ll]
     refine bD ?_
     apply rN;subst hbq
     repeat refine ah fun bq hbq=>?_
     refine au (by simp only [aF,gtOf,aA];exact rfl) ?_
     simp only [go_sem,↓reduceIte,g7,bz ((i:Int)+1) (by omega)]
     refine aL (m:=n.toNat - (i+1)) (by omega) ⟨i+1,x,rfl,.inl (by omega),?_,?_⟩
     ·rw [hx] at hu
      rw [← hu,show n.toNat - (i+1)=k by omega]
      rfl
     ·simp only [go_sem,↓reduceIte,g2,g4,g6,hne,lq]
      exact ⟨rfl,hl.new hp,c0,rfl,hc0⟩
  ·intro hlt
   have hlt':¬ (i:Int)<n:=by simpa using hlt
   rw [show n.toNat - i=0 by omega,eD] at hu
   refine eT ?_
   repeat first|(refine dM ?_;clear hbq bq)|refine dO ?_|refine bZ ?_|refine bS ?_|refine dU rfl ?_
   apply rN;subst hbq
   repeat refine ah fun bq hbq=>?_
   refine bA (.take 0 (.take 1 (.take 2 (.take 3 (.one 4 [2] (.take 5 (.done))))))) (by kernel_rfl) (by simp only [aF,gtOf,aA];exact rfl) ?_
   simp only [go_sem,↓reduceIte,e2,e4,lp,lq,hc0,hdr,hne,hne.symm]
   apply rN;subst hbq
   rw [← hu] at hq
   refine eF (h':=h) (by rw [Tryz.results118]) (hl.new hq0) ?_ hq
   simp only [go_sem,↓reduceIte,e4,aJ,Option.some.injEq,exists_eq_left']
   exact LeAV.refl _
abbrev encS (l:List ByteArray):List AV:=l.map AV.str
def jm (n:ByteArray):Bool:=n.toList==(⟨#[45,62]⟩:ByteArray).toList
def jr (t:Ty) (out:List ByteArray):Option (List ByteArray):=if bP t then some out else none
def iW:Ty→List ByteArray→Option (List ByteArray)
 |⟨n,[a,b]⟩,out=>if jm n then (if !bP a||(out.length:Int)==8 then none else iW b (out++[a.name])) else jr ⟨n,[a,b]⟩ out
 |⟨n,l⟩,out=>jr ⟨n,l⟩ out
def fU (t:Ty):Option (List ByteArray):=iW t []
def Ox (r:Option (List ByteArray)):AV:=match r with
 |some l=>.tuple [.list 1 (encS l) l.length .none,.bool true]
 |Option.none=>.tuple [.list 1 [] 0 .none,.bool false]
theorem mV {t:Ty} (out:List ByteArray) (h1:jm t.name=true) (h:((t.args.length:Int)==2)=true):∃ a b,t.args=[a,b]∧iW t out=(if !bP a||(out.length:Int)==8 then none else iW b (out++[a.name]))∧b.size<t.size:=by
 obtain ⟨n,l⟩:=t
 match l,h with
 |[a,b],_=>exact ⟨a,b,rfl,by rw [iW,if_pos h1],r9 ⟨n,[a,b]⟩ 1 rfl⟩
 |[],h=>simp at h
 |[a],h=>simp at h
 |a::b::c::l,h=>simp at h;omega
theorem ig {t:Ty} (out:List ByteArray) (h:(jm t.name&&(t.args.length:Int)==2)=false):iW t out=jr t out:=by
 obtain ⟨n,l⟩:=t
 match l,h with
 |[a,b],h =>
  have:jm n=false:=by simpa using h
  rw [iW,if_neg (by rw [this];decide)]
 |[],_=>rw [iW];intro a b e;cases e
 |[a],_=>rw [iW];intro a b e;cases e
 |a::b::c::l,_=>rw [iW];intro a b e;cases e
theorem lC (s:ByteArray):bn Tryz.prog 70 1 [(0,.str s)]=some (.list 1 [.str s] 1 .full):=uj qB sz_9 ze_9 rfl rfl rfl (by decide)
theorem rP (t:Ty) (h:ai) (Q:AOut→ai→Prop) (hq:Q (.ret (Ox (fU t))) h):az Tryz.prog 33 [qA t] h Q:=by
 refine eN Tryz.func33 ?_
 repeat refine ah fun bq hbq=>?_
 refine au (by simp only [aF,gtOf,aA];exact rfl) ?_
 simp only [go_sem,↓reduceIte]
 intro p hp
 apply rN;subst hbq
 repeat refine ah fun bq hbq=>?_
 refine au (by simp only [aF,gtOf,aA];exact rfl) ?_
 simp only [go_sem,↓reduceIte]
 apply rN;subst hbq
 repeat refine ah fun bq hbq=>?_
 repeat refine ah fun bq hbq=>?_
 refine bu fun cq hcq=>?_
 subst hcq
 refine aT (fun k τ h'=>∃ (u:Ty) (out:List ByteArray) (sz:Nat) (tok:Tok),k=u.size∧iW u out=fU t∧τ 1=.ptr p 0∧τ 4=.list sz (encS out) out.length tok∧(out=[]∨sz=1)∧out.length≤8∧ax h' h∧h' p=some (.cells (cB u) 60)∧Grow 9 h h' tok) t.size ?_ ?_
 ·exact ⟨t,[],0,.nil,rfl,rfl,rfl,rfl,.inl rfl,by decide,(ax.refl h).new hp,upd_same _ _ _,.inl (.inr rfl)⟩
 ·intro c hc k τ h' hI
  obtain ⟨u,out,sz,tok,rfl,hu,e1,e4,hsz,hout,hl,lp,hg⟩:=hI
  subst hc
  repeat refine ah fun bq hbq=>?_
  refine au (by simp only [aF,gtOf,aA];exact rfl) ?_
  have arrow:∀ b,jm u.name=b→(u.name.toList==(⟨#[45,62]⟩:ByteArray).toList)=b:=fun b hb=>hb
  cases h1:jm u.name <;> cases h2:((u.args.length:Int)==2)
  case true.true =>
   have h1':=arrow _ h1
   simp only [go_sem,↓reduceIte,e1,lp,h1',h2]
   apply rN;subst hbq
   repeat refine ah fun bq hbq=>?_
   refine aW (t:=true) (by simp only [go_sem,↓reduceIte]) ?_ ?_
   ·intro _
    obtain ⟨a,b,hab,hgo,hsb⟩:=mV out h1 h2
    rw [hgo] at hu
    have lp':h' p=some (.cells [.str u.name,.list 2 (dE [a,b]) 2 .none] 60):=by rw [lp];show _=some (AObj.cells [_,AV.list 2 (dE [a,b]) [a,b].length .none] 60);rw [← hab]
    have z0:=show (0:Int)≤0 from by decide
    have z1:=show (0:Int)<((2:Nat):Int) from by decide
    have z2:=show (0:Int).toNat=0 from rfl
    refine bM ?_
    apply rN;subst hbq
    repeat refine ah fun bq hbq=>?_
    refine bu fun cq hcq=>?_
    subst hcq
    repeat refine ah fun bq hbq=>?_
    refine au (by simp only [aF,gtOf,aA];exact rfl) ?_
    simp only [go_sem,↓reduceIte,e1,lp',z0,z1,z2,Nat.zero_mul,iU]
    refine Ex a _ _ ?_
    cases hb:bP a
    ·rw [hb] at hu
     simp only [go_sem,↓reduceIte,e4]
     apply rN;subst hbq
     repeat refine ah fun bq hbq=>?_
     refine aW (t:=true) (by simp only [go_sem,↓reduceIte]) ?_ ?_
     ·intro _
      repeat refine ah fun bq hbq=>?_
      refine au (by simp only [aF,gtOf,aA];exact rfl) ?_
      simp only [go_sem,↓reduceIte]
      apply rN;subst hbq
      refine dw ?_
      repeat first|(refine eZ ?_;clear hbq bq)|refine fu ?_|refine dR ?_|refine dA ?_
      have hu':fU t=Option.none:=by rw [← hu];rfl
      rw [hu'] at hq
      refine df (h':=h) (by rw [Tryz.results33]) (hl.trans (ax.refl h)) ?_ hq
      simp only [go_sem,↓reduceIte,aJ,Option.some.injEq,exists_eq_left']
      exact LeAV.tuple (.cons (LeAV.nil _ _ _) (.cons (LeAV.refl _) .nil))
     ·intro hf;cases hf
    ·rw [hb] at hu
     cases h8:((out.length:Int)==8)
     ·rw [h8] at hu
      simp only [go_sem,↓reduceIte,e4,List.length_map,h8]
      apply rN;subst hbq
      repeat refine ah fun bq hbq=>?_
      refine aW (t:=false) (by simp only [go_sem,↓reduceIte]) ?_ ?_
      ·intro hf;cases hf
      ·intro _
       refine bM ?_
       apply rN;subst hbq
       repeat refine ah fun bq hbq=>?_
       refine au (by simp only [aF,gtOf,aA];exact rfl) ?_
       simp only [go_sem,↓reduceIte,e1,e4,lp',z0,z1,z2,Nat.zero_mul,iU,lC]
       refine aZ ?_
       simp only [go_sem,↓reduceIte,lC,e4]
       intro w hw
       have h8':¬ out.length=8:=by simp at h8;omega
       obtain ⟨h4,ea,hg4,hl4,keep⟩:=iK qB qB sz_9 by_9 ze_9 ⟨rfl,by decide⟩ hl hw (sz1:=sz) (n1:=out.length) (c1:=encS out) (c2:=[.str a.name]) (n2:=1) (t2:=.full) hg (by rcases hsz with e|e <;> simp [e]) (sz2:=1) rfl (by decide) (by omega)
       have p4:=keep _ _ _ lp'
       simp only [go_sem,↓reduceIte,ea]
       apply rN;subst hbq
       repeat refine ah fun bq hbq=>?_
       refine au (by simp only [aF,gtOf,aA];exact rfl) ?_
       obtain ⟨rb,hrb⟩:=xw [a,b] 1 (t:=b) rfl
       simp only [Nat.reduceMul] at hrb
       simp only [go_sem,↓reduceIte,e1,p4,show (0:Int)≤1 from by decide,show (1:Int)<((2:Nat):Int) from by decide,show (1:Int).toNat=1 from rfl,Nat.reduceMul,hrb]
       refine bD ?_
       have hgo2:iW b (out++[a.name])=fU t:=by rw [← hu];rfl
       refine aL hsb ⟨b,out++[a.name],1,.id w,rfl,hgo2,?_⟩
       simp only [go_sem,↓reduceIte,e1]
       refine ⟨by simp [encS],by simp,by simp;omega,hl4.new hp,?_⟩
       rcases hg4 with e|⟨f,ef,hf,hf0⟩
       ·rcases e with e|e <;> cases e
       ·injection ef with ef;subst ef
        exact .inr ⟨w,rfl,by rw [ae _ _ (by intro e;rw [e,p4] at hf;cases hf)];exact hf,hf0⟩
     ·rw [h8] at hu
      simp only [go_sem,↓reduceIte,e4,h8]
      apply rN;subst hbq
      repeat refine ah fun bq hbq=>?_
      refine aW (t:=true) (by simp only [go_sem,↓reduceIte]) ?_ ?_
      ·intro _
       repeat refine ah fun bq hbq=>?_
       refine au (by simp only [aF,gtOf,aA];exact rfl) ?_
       simp only [go_sem,↓reduceIte]
       apply rN;subst hbq
       refine dw ?_
       repeat first|(refine eZ ?_;clear hbq bq)|refine fu ?_|refine dR ?_|refine dA ?_
       have hu':fU t=Option.none:=by rw [← hu];rfl
       rw [hu'] at hq
       refine df (h':=h) (by rw [Tryz.results33]) (hl.trans (ax.refl h)) ?_ hq
       simp only [go_sem,↓reduceIte,aJ,Option.some.injEq,exists_eq_left']
       exact LeAV.tuple (.cons (LeAV.nil _ _ _) (.cons (LeAV.refl _) .nil))
      ·intro hf;cases hf
   ·intro hf;cases hf
  all_goals
   have h1':=arrow _ h1
   have hend:iW u out=jr u out:=ig out (by rw [h1,h2];rfl)
   rw [hend] at hu
   simp only [go_sem,↓reduceIte,e1,lp,h1',h2]
   apply rN;subst hbq
   repeat refine ah fun bq hbq=>?_
   refine aW (t:=false) (by simp only [go_sem,↓reduceIte]) ?_ ?_
   ·intro hf;cases hf
   ·intro _
    refine eT ?_
    repeat first|(refine dM ?_;clear hbq bq)|refine dO ?_|refine bZ ?_|refine bS ?_|refine dU rfl ?_
    apply rN;subst hbq
    repeat refine ah fun bq hbq=>?_
    refine au (by simp only [aF,gtOf,aA];exact rfl) ?_
    simp only [go_sem,↓reduceIte,e1,lp]
    refine Ex u _ _ ?_
    cases hb:bP u
    ·simp only [go_sem,↓reduceIte]
     apply rN;subst hbq
     repeat refine ah fun bq hbq=>?_
     refine aW (t:=true) (by simp only [go_sem,↓reduceIte]) ?_ ?_
     ·intro _
      repeat refine ah fun bq hbq=>?_
      refine au (by simp only [aF,gtOf,aA];exact rfl) ?_
      simp only [go_sem,↓reduceIte]
      apply rN;subst hbq
      refine dw ?_
      repeat first|(refine eZ ?_;clear hbq bq)|refine fu ?_|refine dR ?_|refine dA ?_
      have hu':fU t=Option.none:=by rw [← hu,jr,hb];rfl
      rw [hu'] at hq
      refine df (h':=h) (by rw [Tryz.results33]) (hl.trans (ax.refl h)) ?_ hq
      simp only [go_sem,↓reduceIte,aJ,Option.some.injEq,exists_eq_left']
      exact LeAV.tuple (.cons (LeAV.nil _ _ _) (.cons (LeAV.refl _) .nil))
     ·intro hf;cases hf
    ·simp only [go_sem,↓reduceIte]
     apply rN;subst hbq
     repeat refine ah fun bq hbq=>?_
     refine aW (t:=false) (by simp only [go_sem,↓reduceIte]) ?_ ?_
     ·intro hf;cases hf
     ·intro _
      refine bM ?_
      apply rN;subst hbq
      repeat refine ah fun bq hbq=>?_
      refine au (by simp only [aF,gtOf,aA];exact rfl) ?_
      simp only [go_sem,↓reduceIte,e4]
      apply rN;subst hbq
      have hu':fU t=some out:=by rw [← hu,jr,hb];rfl
      rw [hu'] at hq
      refine eF (h':=h) (by rw [Tryz.results33]) hl ?_ hq
      simp only [go_sem,↓reduceIte,aJ,Option.some.injEq,exists_eq_left']
      refine LeAV.tuple (.cons ?_ (.cons (LeAV.refl _) .nil))
      rcases hsz with e|e
      ·rw [e];exact LeAV.nil _ _ _
      ·rw [e];exact LeAV.list _ _ _ _
theorem Cq (l:List Va) (g:FuncId) (first cap:List AV) (f:Va→Bool) (h:ai) (Q:AOut→ai→Prop) (hl:l.length≤1000000000) (hf:Asks Tryz.prog encV g first cap l f h) (hq:Q (.ret (.int .i64 (mM f l 0))) h) :
  az Tryz.prog 116 [.list 8 (aM l) l.length .none,.func (.func g) first cap] h Q:=by
 refine eN Tryz.func116 ?_
 repeat with_reducible refine ah fun bq hbq=>?_
 refine au (by simp only [aF,gtOf,aA];exact rfl) ?_
 simp only [go_sem,↓reduceIte]
 apply rN;subst hbq
 repeat with_reducible refine ah fun bq hbq=>?_
 refine au (by simp only [aF,gtOf,aA];exact rfl) ?_
 simp only [go_sem,↓reduceIte]
 apply rN;subst hbq
 repeat with_reducible refine ah fun bq hbq=>?_
 repeat with_reducible refine ah fun bq hbq=>?_
 refine bu fun cq hcq=>?_
 subst hcq
 refine aT (fun k τ h'=>∃ i:Nat,k+i=l.length∧τ 0=.list 8 (aM l) l.length .none∧τ 1=.func (.func g) first cap∧τ 7=.int .i64 l.length∧τ 8=.int .i64 i∧ax h' h∧(∀ (j:Nat) (v:Va),j<i→l[j]?=some v→f v=false)∧mM f (l.drop i) i=mM f l 0) l.length ?_ ?_
 ·exact ⟨0,rfl,rfl,rfl,rfl,rfl,ax.refl h,fun j v hj=>absurd hj (Nat.not_lt_zero _),rfl⟩
 ·intro c hc k τ h' hI
  obtain ⟨i,hk,e0,e1,e7,e8,hless,hno,hix⟩:=hI
  subst hc
  repeat with_reducible refine ah fun bq hbq=>?_
  refine au (by simp only [aF,gtOf,aA];exact rfl) ?_
  by_cases hi:i<l.length
  ·have hd:decide (i<l.length)=true:=by simpa using hi
   obtain ⟨u,hu⟩:∃ u,l[i]?=some u:=⟨_,List.getElem?_eq_getElem hi⟩
   obtain ⟨r,hr⟩:=iD l i hu
   have hdrop:l.drop i=u::l.drop (i+1):=by
    rw [List.drop_eq_getElem_cons hi]
    rw [List.getElem?_eq_getElem hi] at hu;injection hu with hu;rw [hu]
   rw [hdrop,mM] at hix
   simp only [go_sem,↓reduceIte,e7,e8,hd]
   apply rN;subst hbq
   repeat with_reducible refine ah fun bq hbq=>?_
   refine aW (t:=true) (by simp only [go_sem,↓reduceIte]) ?_ ?_
   ·intro _
    refine bM ?_
    apply rN;subst hbq
    repeat with_reducible refine ah fun bq hbq=>?_
    refine bu fun cq hcq=>?_
    subst hcq
    repeat with_reducible refine ah fun bq hbq=>?_
    refine au (by simp only [aF,gtOf,aA];exact rfl) ?_
    simp only [go_sem,↓reduceIte,e8]
    apply rN;subst hbq
    repeat with_reducible refine ah fun bq hbq=>?_
    refine au (by simp only [aF,gtOf,aA];exact rfl) ?_
    simp only [go_sem,↓reduceIte,e0,e1,hi,hr,List.cons_append,List.nil_append]
    refine hf i u hu hno _ _ hless ?_
    simp only [go_sem,↓reduceIte]
    apply rN;subst hbq
    repeat with_reducible refine ah fun bq hbq=>?_
    refine aW (t:=f u) (by simp only [go_sem,↓reduceIte]) ?_ ?_
    ·intro hfu
     rw [if_pos hfu] at hix
     repeat with_reducible refine ah fun bq hbq=>?_
     refine au (by simp only [aF,gtOf,aA];exact rfl) ?_
     simp only [go_sem,↓reduceIte]
     apply rN;subst hbq
     refine dw ?_
     repeat first|(with_reducible refine eZ ?_;clear hbq bq)|with_reducible refine fu ?_|with_reducible refine dR ?_|with_reducible refine dA ?_
     rw [← hix] at hq
     refine df (h':=h) (by rw [Tryz.results116]) hless ?_ hq
     simp only [go_sem,↓reduceIte,aJ,Option.some.injEq,exists_eq_left']
     exact LeAV.refl _
    ·intro hfu
     rw [if_neg (by rw [hfu];decide)] at hix
     refine bM ?_
     refine bD ?_
     apply rN;subst hbq
     repeat with_reducible refine ah fun bq hbq=>?_
     refine au (by simp only [aF,gtOf,aA];exact rfl) ?_
     simp only [go_sem,↓reduceIte,e8,bz ((i:Int)+1) (by omega)]
     refine aL (m:=k - 1) (by omega) ⟨i+1,by omega,?_⟩
     simp only [go_sem,↓reduceIte,e0,e1,e7]
     refine ⟨rfl,hless,fun j v hj hv=>?_,hix⟩
     by_cases e:j=i
     ·subst e;rw [hu] at hv;injection hv with hv;subst hv;exact hfu
     ·exact hno j v (by omega) hv
   ·intro hf;cases hf
  ·have hd:decide (i<l.length)=false:=by simpa using hi
   rw [List.drop_eq_nil_of_le (by omega),mM] at hix
   simp only [go_sem,↓reduceIte,e7,e8,hd]
   apply rN;subst hbq
   repeat with_reducible refine ah fun bq hbq=>?_
   refine aW (t:=false) (by simp only [go_sem,↓reduceIte]) ?_ ?_
   ·intro hf;cases hf
   ·intro _
    refine eT ?_
    repeat first|(with_reducible refine dM ?_;clear hbq bq)|with_reducible refine dO ?_|with_reducible refine bZ ?_|with_reducible refine bS ?_|(with_reducible refine dU ?_ ?_;focus rfl)
    apply rN;subst hbq
    repeat with_reducible refine ah fun bq hbq=>?_
    refine au (by simp only [aF,gtOf,aA];exact rfl) ?_
    simp only [go_sem,↓reduceIte]
    apply rN;subst hbq
    rw [← hix] at hq
    refine eF (h':=h) (by rw [Tryz.results116]) hless ?_ hq
    simp only [go_sem,↓reduceIte,aJ,Option.some.injEq,exists_eq_left']
    exact LeAV.refl _
theorem wH (l:List Va) (g:FuncId) (first cap:List AV) (f:Va→Bool) (h:ai) (Q:AOut→ai→Prop) (hl:l.length≤1000000000) (hf:Asks Tryz.prog encV g first cap l f h) (hq:Q (.ret (.bool (l.any f))) h) :
  az Tryz.prog 71 [.list 8 (aM l) l.length .none,.func (.func g) first cap] h Q:=by
 refine eN Tryz.func71 ?_
 repeat with_reducible refine ah fun bq hbq=>?_
 refine au (by simp only [aF,gtOf,aA];exact rfl) ?_
 simp only [go_sem,↓reduceIte]
 apply rN;subst hbq
 repeat with_reducible refine ah fun bq hbq=>?_
 refine au (by simp only [aF,gtOf,aA];exact rfl) ?_
 simp only [go_sem,↓reduceIte]
 refine Cq l g first cap f h _ hl hf ?_
 simp only [go_sem,↓reduceIte]
 apply rN;subst hbq
 refine fO (by rw [Tryz.results71]) (ax.refl h) ?_
 simp only [go_sem,↓reduceIte,aJ,Option.some.injEq,exists_eq_left']
 exact bJ (by rw [← vE f l 0 (by decide)]) hq
end Go.Proofs.YthkjmiejaoomcaaGreat.Am
