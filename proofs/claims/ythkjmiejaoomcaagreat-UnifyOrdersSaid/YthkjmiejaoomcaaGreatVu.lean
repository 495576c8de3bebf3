/- Part of the proof of a law of layer 5: own texts, joined. -/
import Derived.Test.YthkjmiejaoomcaaGreatVt
import Derived.Test.YthkjmiejaoomcaaGreatVp
import Derived.Test.YthkjmiejaoomcaaGreatVq
set_option linter.unusedVariables false
set_option linter.unusedSimpArgs false
set_option linter.unnecessarySimpa false
namespace Go.Proofs.YthkjmiejaoomcaaGreat.Am
open Go Go.RowKit Go.Proofs
set_option maxRecDepth 100000
set_option maxHeartbeats 1000000
theorem EG {vs:List Va}:∀ (k:Nat) (t:Term) (d:Int),aK vs t (d+k)=true→aK vs (fE k t) d=true
 |0,t,d,h=>by simpa [fE] using h
 |k+1,t,d,h=>by
  rw [fE]
  refine EG k _ d ?_
  rw [aK,dY,dY,Bool.and_true]
  have e:inner 5 (d+k)=d+((k+1:Nat):Int):=by
   have:inner 5 (d+k)=d+k+1:=rfl
   rw [this];push_cast;omega
  rw [e,h,Bool.and_true]
  unfold bg aY
  have hz:(aB.size:Int)=0:=rfl
  simp
  decide
theorem DF {vs:List Va} {lv:Int}:∀ (k:Nat) (t:Term),gG vs lv t=true→gG vs lv (fE k t)=true
 |0,t,h=>h
 |k+1,t,h=>by
  rw [fE]
  refine DF k _ ?_
  rw [gG,nA,nA,h];rfl
theorem I9:∀ (k:Nat) (t:Term),dep (fE k t)=dep t+k
 |0,t=>by rw [fE];simp
 |k+1,t=>by
  rw [fE,I9 k,dep,depL,depL]
  have:=(yU t.size).1 t (Nat.le_refl _)
  push_cast;omega
theorem Nh {vs:List Va} (hc:bi vs=0) {n:Int} (h0:0≤n) (h1:n<(vs.length:Int)):fitAll vs (nL vs n)=0∧gG vs (ak vs n).level (nL vs n)=true:=by
 have h8:=fT (ak vs n).type
 unfold nL
 generalize hm:aX (ak vs n).type=m at *
 have hr:∀ k ∈ List.range m,k<m:=fun k hk=>List.mem_range.1 hk
 have hb:=zb hr
 have hlen:(bR m (List.range m)).length=m:=by simp [bR]
 have hbk:∀ u ∈ bR m (List.range m),u.kind=2:=fun u hu=>by
  obtain ⟨k,_,rfl⟩:=List.mem_map.1 hu;rfl
 have hd:dep (sVar n (bR m (List.range m)))≤2:=by
  rw [dep]
  have:∀ l:List Term,(∀ u ∈ l,bF u=true)→depL l≤1:=by
   intro l
   induction l with
   |nil=>intro _;rw [depL];decide
   |cons u l ih =>
    intro h
    rw [depL]
    have h1:=ih fun w hw=>h w (List.mem_cons_of_mem _ hw)
    have hk:=(aS (h u List.mem_cons_self)).2
    obtain ⟨a,b,c,q⟩:=u
    simp only at hk
    subst hk
    have:dep ⟨a,b,c,[]⟩=1:=by rw [dep,depL];rfl
    omega
  have:=this _ fun u hu=>(hb u hu).1
  omega
 refine ⟨AB.2 ⟨hc,Pg ?_ ?_,EG m _ 0 ?_⟩,DF m _ (rW (Int.le_refl _) fun u hu=>⟨(hb u hu).1,fun e=>?_⟩)⟩
 ·rw [xN,rV fun u hu=>(hb u hu).1,hlen];omega
 ·rw [I9];omega
 ·rw [Int.zero_add]
  exact pG h0 h1 (by rw [hm,hlen]) hb (fun u hu e=>by rw [hbk u hu] at e;cases e) (pu List.pairwise_lt_range)
 ·rw [hbk u hu] at e;cases e
theorem iH {vs:List Va} {a b:Term} (h:(bV vs a b).2.2=0) (hi:(bV vs a b).2.1=true):bi (bV vs a b).1=0∧ExtS vs (bV vs a b).1:=by
 unfold bV at h hi ⊢
 split at h
 case isFalse hft=>rw [if_neg hft] at hi;cases hi
 rename_i hft
 obtain ⟨hc,hfa,hfb⟩:=lc hft
 rw [if_pos hft] at hi ⊢
 cases hs:eG 402 ⟨vs,0⟩ a b 0 with
 |clash=>rw [hs] at hi;cases hi
 |large e =>
  rw [hs] at hi
  exfalso
  revert hi
  dsimp only
  split <;> exact fun h=>by cases h
 |ok s =>
  rw [hs] at hi
  dsimp only at hi ⊢
  obtain ⟨S,_⟩:=nk 402 ⟨vs,0⟩ a b 0 0 s (dH hc) (show (0:Int)≤0 by decide) (by decide) hfa hfb hs
  cases hk:(bi s.ms==2||bi s.ms==50)
  ·rw [hk] at hi
   rw [if_neg (by decide)]
   refine ⟨?_,S.ext⟩
   rw [Bool.or_eq_false_iff] at hk
   have h2:bi s.ms=2∨bi s.ms=50∨bi s.ms=0:=by
    unfold bi
    repeat' split
    all_goals simp
   rcases h2 with h2|h2|h2
   ·rw [h2] at hk;exact absurd hk.1 (by decide)
   ·rw [h2] at hk;exact absurd hk.2 (by decide)
   ·exact h2
  ·rw [hk] at hi;cases hi
def OkNs (vs:List Va) (s:NS):Prop:=∀ n v,mget n s.nms=some v→v.ord.length=aX (ak vs n).type∧∀ y ∈ v.ord,y<aX (ak vs n).type
theorem PR {vs:List Va} {pars:Int} {t:Term} {D:Int} (V:iZ vs t D) {s:NS} {v:Nm} {s':NS} (ok:OkNs vs s) (h:qz vs pars t s=some (v,s')):OkNs vs s':=by
 unfold qz at h
 cases hg:mget t.n s.nms with
 |some w =>
  rw [hg] at h
  injection h with h;injection h with h1 h2
  subst h2
  exact ok
 |none =>
  rw [hg] at h
  dsimp only at h
  unfold Ei at h
  split at h
  ·cases h
  ·injection h with h;injection h with h1 h2
   subst h2
   intro n v hv
   rw [ji] at hv
   split at hv
   ·rename_i e
    have e:n=t.n:=by simpa using e
    injection hv with hv
    subst hv;subst e
    rw [V.ar];exact vY t
   ·exact ok n v hv
theorem Dx:∀ l:List Term,(∀ t ∈ l,t.size=1)→sizes l=l.length
 |[],_=>rfl
 |t::l,h=>by rw [sizes,h t (.head _),Dx l fun u hu=>h u (.tail _ hu),List.length_cons];omega
theorem Ic:∀ l:List Term,l.length≤sizes l
 |[]=>Nat.le_refl _
 |⟨a,b,c,m⟩::l=>by have:=Ic l;rw [sizes,Term.size,List.length_cons];omega
theorem JG {t:Term} (h:bF t=true):t.size=1:=by
 obtain ⟨k,n,s,l⟩:=t
 simp only [bF,Bool.and_eq_true,beq_iff_eq] at h
 have:l=[]:=List.eq_nil_of_length_eq_zero (by omega)
 subst this;rfl
theorem Ci {vs:List Va} {g:NS→Term→Option (Term × NS)} {D:Int} (hg:∀ s t r s',aK vs t D=true→OkNs vs s→g s t=some (r,s')→r.size≤t.size∧OkNs vs s'):∀ (l:List Term) (s:NS) (o:List Term) (s':NS),(∀ t ∈ l,aK vs t D=true)→OkNs vs s→mapN g s l=some (o,s')→sizes o≤sizes l∧o.length=l.length∧(∀ (i:Nat) (r t:Term),o[i]?=some r→l[i]?=some t→r.size≤t.size)∧OkNs vs s'
 |[],s,o,s',_,ok,h=>by
  rw [mapN] at h
  injection h with h;injection h with h1 h2
  subst h1;subst h2
  exact ⟨Nat.le_refl _,rfl,fun i r t hr=>by simp at hr,ok⟩
 |t::l,s,o,s',hf,ok,h=>by
  rw [mapN] at h
  cases hgt:g s t with
  |none=>rw [hgt] at h;cases h
  |some p =>
   rw [hgt] at h
   dsimp only [Option.bind] at h
   obtain ⟨r,s2⟩:=p
   obtain ⟨h1,ok2⟩:=hg s t r s2 (hf t (.head _)) ok hgt
   cases hm:mapN g s2 l with
   |none=>rw [hm] at h;cases h
   |some q =>
    rw [hm] at h
    obtain ⟨o2,s3⟩:=q
    injection h with h;injection h with e1 e2
    subst e1;subst e2
    obtain ⟨h2,h3,h4,h5⟩:=Ci hg l s2 o2 s3 (fun u hu=>hf u (.tail _ hu)) ok2 hm
    refine ⟨by rw [sizes,sizes];dsimp only;omega,by simp [h3],fun i r' t' hr ht=>?_,h5⟩
    cases i with
    |zero =>
     simp only [List.getElem?_cons_zero,Option.some.injEq] at hr ht
     subst hr;subst ht;exact h1
    |succ i =>
     simp only [List.getElem?_cons_succ] at hr ht
     exact h4 i r' t' hr ht
theorem Lv (vs:List Va) (pars:Int):∀ (f:Nat) (D:Int) (s:NS) (t r:Term) (s':NS),aK vs t D=true→OkNs vs s→fH vs pars f s t=some (r,s')→r.size≤t.size∧OkNs vs s':=by
 intro f
 induction f with
 |zero=>intro D s t r s' _ _ h;rw [fH] at h;cases h
 |succ f ih =>
  intro D s t r s' hf ok h
  rw [fH] at h
  cases k4:(t.kind==4)
  ·rw [k4] at h
   simp only [Bool.false_eq_true,if_false] at h
   cases hm:mapN (fH vs pars f) s t.args with
   |none=>rw [hm] at h;cases h
   |some q =>
    rw [hm] at h
    obtain ⟨o,s2⟩:=q
    injection h with h;injection h with e1 e2
    subst e1;subst e2
    rw [cO,Bool.and_eq_true] at hf
    obtain ⟨h1,_,_,h2⟩:=Ci (ih (inner t.kind D)) t.args s o s2 ((bT _ _ _).1 hf.2) ok hm
    refine ⟨?_,h2⟩
    obtain ⟨k,n,nm,l⟩:=t
    dsimp only at h1
    rw [Term.size,Term.size]
    dsimp only
    omega
  ·rw [k4,if_pos rfl] at h
   have V:=dG hf k4
   cases hm:qz vs pars t s with
   |none=>rw [hm] at h;cases h
   |some q =>
    rw [hm] at h
    obtain ⟨v,s2⟩:=q
    injection h with h;injection h with e1 e2
    subst e1;subst e2
    obtain ⟨h1,h2⟩:=MM V ok hm
    refine ⟨?_,PR V ok hm⟩
    have hs:sizes (v.ord.map fun i=>t.args.getD i aG)=v.ord.length:=by
     rw [Dx _ fun u hu=>?_,List.length_map]
     obtain ⟨i,hi,rfl⟩:=List.mem_map.1 hu
     exact JG (V.args _ (List.mem_of_getElem? (o8 aG (h2 i hi)))).1
    unfold named
    rw [Term.size,hs,h1]
    obtain ⟨k,n,nm,l⟩:=t
    rw [Term.size]
    have:=Ic l
    dsimp only;omega
theorem Gn (vs:List Va) (n:Int) (l:List Term):(sQ vs n l).1.length≤20000∧∀ t ∈ (sQ vs n l).1,t.size≤4000:=by
 have triv:([]:List Term).length≤20000∧∀ t ∈ ([]:List Term),t.size≤4000:=⟨by simp,by simp⟩
 unfold sQ
 split
 ·rename_i hc
  have hc0:bi vs=0:=by simpa using hc
  split
  ·exact triv
  ·rename_i hb
   split
   ·rename_i hle
    have hle:gq vs l=0:=by simpa using hle
    split
    ·rename_i hve
     have hve:gm vs l=0:=by simpa using hve
     split
     ·exact triv
     ·rename_i q hm
      obtain ⟨o,s2⟩:=q
      have hb3:l.length≤20000:=by
       simp only [Bool.or_eq_true,decide_eq_true_eq,not_or] at hb
       omega
      obtain ⟨_,h1,h2,_⟩:=Ci (Lv vs n 4000 0) (l.map (valC vs)) ⟨[],[]⟩ o s2 (fun t ht=>by
       obtain ⟨y,hy,rfl⟩:=List.mem_map.1 ht
       exact (ou (mO hc0 (Int.le_refl 0) (yo l hle y hy))).2.1) (fun n v hv=>absurd hv (by simp [mget])) hm
      rw [List.length_map] at h1
      refine ⟨by dsimp only;omega,fun t ht=>?_⟩
      obtain ⟨i,hi,e⟩:=List.getElem_of_mem ht
      have hr:o[i]?=some t:=by rw [← e];exact List.getElem?_eq_getElem hi
      dsimp only at hi
      obtain ⟨y,hy⟩:∃ y,l[i]?=some y:=⟨_,List.getElem?_eq_getElem (by omega)⟩
      have:=h2 i t (valC vs y) hr (by rw [List.getElem?_map,hy];rfl)
      have:=uO l hve y (List.mem_of_getElem? hy)
      omega
    ·exact triv
   ·exact triv
 ·exact triv
def Lg {α:Type} (r:Rz α):Prop:=∀ e,r=.large e→(e==2||e==5)=true
theorem Lg.bind {α β:Type} {r:Rz α} {f:α→Rz β} (h:Lg r) (k:∀ a,r=.ok a→Lg (f a)):Lg (r.bind f):=by
 cases r with
 |ok a=>exact k a rfl
 |clash=>intro e he;cases he
 |large e=>intro e' he;injection he with he;subst he;exact h e rfl
theorem Lg.ok {α:Type} (a:α):Lg (Rz.ok a):=fun e he=>by cases he
theorem Lg.clash {α:Type}:Lg (Rz.clash:Rz α):=fun e he=>by cases he
theorem Lg.two {α:Type}:Lg (Rz.large 2:Rz α):=fun e he=>by injection he with he;subst he;rfl
theorem Lg.five {α:Type}:Lg (Rz.large 5:Rz α):=fun e he=>by injection he with he;subst he;rfl
theorem Jb (s:Sv) (d:Int):Lg (kG s d):=by
 unfold kG
 split
 ·exact Lg.two
 ·split
  ·exact Lg.five
  ·exact Lg.ok _
theorem IU (s:Sv) (lv:Int) (ty:Ty):Lg (jq s lv ty):=by
 unfold jq
 split
 ·exact Lg.two
 ·exact Lg.ok _
theorem SF (s:Sv) (v t:Term) (d:Int):Lg (nC s v t d):=by
 unfold nC
 split
 ·exact Lg.clash
 ·dsimp only
  split
  ·exact Lg.ok _
  ·split
   ·exact Lg.two
   ·exact (IU _ _ _).bind fun _ _=>Lg.ok _
theorem Ry {g:Sv→Term→Rz (Sv × Term)} (h:∀ s t,Lg (g s t)):∀ (l:List Term) (s:Sv),Lg (mapS g s l)
 |[],s=>Lg.ok _
 |t::l,s=>by
  rw [mapS]
  exact (h s t).bind fun a _=>(Ry h l a.1).bind fun _ _=>Lg.ok _
theorem Lm:∀ (f:Nat) (s:Sv) (v t:Term) (d deep:Int),Lg (lJ f s v t d deep)
 |0,_,_,_,_,_=>Lg.five
 |f+1,s,v,t,d,deep=>by
  rw [lJ]
  refine (Jb _ _).bind fun s2 _=>?_
  dsimp only
  split
  ·exact SF _ _ _ _
  ·generalize (if bY _ then _ else _:Term × Bool)=o
   split
   ·exact (Ry (fun s t=>Lm f s v t _ _) _ _).bind fun _ _=>Lg.ok _
   ·exact Lg.clash
theorem Fg (s:Sv) (v t:Term):Lg (gQ s v t):=by
 unfold gQ
 split
 ·exact Lg.clash
 ·exact (Lm _ _ _ _ _ _).bind fun _ _=>Lg.ok _
theorem Q7 (s:Sv) (a b:Term):Lg (jA s a b):=by
 unfold jA
 split
 ·unfold jh
  exact (IU _ _ _).bind fun _ _=>Lg.ok _
 ·exact Lg.ok _
theorem NR {g:Sv→Term→Term→Rz Sv} (h:∀ s a b,Lg (g s a b)):∀ (l m:List Term) (s:Sv),Lg (lL g s l m)
 |a::l,b::m,s=>by
  rw [lL]
  exact (h s a b).bind fun s2 _=>NR h l m s2
 |[],_,s=>by cases ‹List Term› <;> exact Lg.ok _
 |_::_,[],s=>Lg.ok _
theorem Ib:∀ (f:Nat) (s:Sv) (a b:Term) (deep:Int),Lg (eG f s a b deep)
 |0,_,_,_,_=>Lg.five
 |f+1,s,a,b,deep=>by
  rw [eG]
  refine (Jb _ _).bind fun s2 _=>?_
  dsimp only
  split
  ·exact Q7 _ _ _
  ·split
   ·exact Fg _ _ _
   ·split
    ·exact Fg _ _ _
    ·split
     ·exact Lg.clash
     ·exact NR (fun s a b=>Ib f s a b _) _ _ _
structure LtOk (lt:Nat→Nat→Bool):Prop where
 asym:∀ a b,lt a b=true→lt b a=false
 tr:∀ a b c,lt b a=false→lt c b=false→lt c a=false
theorem xc (P q:List Nat) (x:Nat):(P++x::q).getD P.length 0=x:=by
 rw [List.getD_eq_getElem?_getD,List.getElem?_append_right (Nat.le_refl _),Nat.sub_self];rfl
theorem O8 (P q:List Nat) (a x:Nat):BC (P++a::x::q) P.length=P++x::a::q:=by
 have h1:(P++a::x::q).getD P.length 0=a:=xc P (x::q) a
 have h2:(P++a::x::q).getD (P.length+1) 0=x:=by
  have:=xc (P++[a]) q x
  rw [List.length_append,List.length_singleton] at this
  simpa using this
 unfold BC
 rw [h1,h2,List.set_append_right _ _ (by omega),List.set_append_right _ _ (Nat.le_refl _),Nat.sub_self,Nat.add_sub_cancel_left]
 rfl
theorem Be {lt:Nat→Nat→Bool} (L:LtOk lt):∀ (n:Nat) (P:List Nat) (x:Nat) (q:List Nat),P.length=n→P.Pairwise (fun a b=>lt b a=false)→∃ r,bubF lt n (P++x::q)=r++q∧r.Pairwise (fun a b=>lt b a=false)∧r.Perm (x::P)
 |0,P,x,q,hn,hp=>by
  have:P=[]:=List.eq_nil_of_length_eq_zero hn
  subst this
  exact ⟨[x],rfl,List.pairwise_singleton _ _,List.Perm.refl _⟩
 |n+1,P,x,q,hn,hp=>by
  rcases List.eq_nil_or_concat P with e|⟨P',a,e⟩
  ·rw [e] at hn;cases hn
  rw [List.concat_eq_append] at e
  subst e
  rw [List.length_append,List.length_singleton] at hn
  have hn:P'.length=n:=by omega
  subst hn
  rw [List.pairwise_append] at hp
  obtain ⟨p1,_,p3⟩:=hp
  have pa:∀ y ∈ P',lt a y=false:=fun y hy=>p3 y hy a List.mem_cons_self
  have e1:P'++[a]++x::q=P'++a::x::q:=by simp
  have h1:(P'++a::x::q).getD P'.length 0=a:=xc P' (x::q) a
  have h2:(P'++a::x::q).getD (P'.length+1) 0=x:=by
   have:=xc (P'++[a]) q x
   rw [List.length_append,List.length_singleton] at this
   simpa using this
  rw [e1,bubF,h1,h2,O8]
  cases hl:lt x a
  ·simp only [Bool.false_eq_true,if_false]
   refine ⟨P'++[a,x],by simp,?_,?_⟩
   ·rw [List.pairwise_append]
    refine ⟨p1,?_,fun y hy z hz=>?_⟩
    ·rw [List.pairwise_cons]
     refine ⟨fun z hz=>?_,List.pairwise_singleton _ _⟩
     rw [List.mem_singleton] at hz;subst hz;exact hl
    ·rcases List.mem_cons.1 hz with rfl|hz
     ·exact pa y hy
     ·rw [List.mem_singleton] at hz;subst hz
      exact L.tr y a z (pa y hy) hl
   ·have:P'++[a,x]=(P'++[a])++[x]:=by simp
    rw [this]
    exact List.perm_append_singleton x (P'++[a])
  ·simp only [if_true]
   obtain ⟨r,hr,hs,hpm⟩:=Be L P'.length P' x (a::q) rfl p1
   refine ⟨r++[a],by rw [hr];simp,?_,?_⟩
   ·rw [List.pairwise_append]
    refine ⟨hs,List.pairwise_singleton _ _,fun y hy z hz=>?_⟩
    rw [List.mem_singleton] at hz;subst hz
    rcases List.mem_cons.1 (hpm.mem_iff.1 hy) with rfl|hy
    ·exact L.asym _ _ hl
    ·exact pa y hy
   ·exact hpm.append_right [a]
theorem Aq {lt:Nat→Nat→Bool} (L:LtOk lt):∀ (k:Nat) (P rest:List Nat),rest.length=k→P.Pairwise (fun a b=>lt b a=false)→(insF lt k P.length (P++rest)).Pairwise (fun a b=>lt b a=false)∧(insF lt k P.length (P++rest)).Perm (P++rest)
 |0,P,rest,hk,hp=>by
  have:rest=[]:=List.eq_nil_of_length_eq_zero hk
  subst this
  rw [List.append_nil,insF]
  exact ⟨hp,List.Perm.refl _⟩
 |k+1,P,rest,hk,hp=>by
  cases rest with
  |nil=>cases hk
  |cons x q =>
   obtain ⟨r,hr,hs,hpm⟩:=Be L P.length P x q rfl hp
   have hl:P.length+1=r.length:=by rw [hpm.length_eq];rfl
   rw [insF,hr,hl]
   obtain ⟨a,b⟩:=Aq L k r q (by simpa using hk) hs
   refine ⟨a,b.trans ?_⟩
   refine (hpm.append_right q).trans ?_
   rw [List.cons_append]
   exact List.perm_middle.symm
theorem uy (a b:Term):beforeF a b<0↔a.kind<b.kind∨(a.kind=b.kind∧a.n<b.n):=by
 unfold beforeF
 cases h:(a.kind==b.kind)
 ·have:a.kind≠b.kind:=by simpa using h
  simp only [Bool.false_eq_true,if_false]
  omega
 ·have:a.kind=b.kind:=by simpa using h
  simp only [if_true]
  omega
theorem WG (t:Term):LtOk (ltA t):=by
 unfold ltA
 refine ⟨fun a b h=>?_,fun a b c h1 h2=>?_⟩
 ·rw [decide_eq_true_eq,uy] at h
  rw [decide_eq_false_iff_not,uy]
  omega
 ·rw [decide_eq_false_iff_not,uy] at h1 h2 ⊢
  omega
theorem JX (t:Term):(ordF t).Pairwise (fun a b=>ltA t b a=false)∧(ordF t).Perm (List.range t.args.length):=by
 unfold ordF
 cases hn:t.args.length with
 |zero=>exact ⟨List.Pairwise.nil,List.Perm.refl _⟩
 |succ n =>
  have:=Aq (WG t) n [0] ((List.range n).map Nat.succ) (by simp) (List.pairwise_singleton _ _)
  rw [List.range_succ_eq_map]
  exact this
def keysOf (o:List Nat) (l:List Term):List Term:=o.map fun i=>l.getD i aG
theorem Ap (l:List Term):keysOf (List.range l.length) l=l:=by
 unfold keysOf
 refine List.ext_getElem (by simp) fun i h1 h2=>?_
 rw [List.getElem_map,List.getElem_range,List.getD_eq_getElem?_getD,List.getElem?_eq_getElem h2]
 rfl
theorem yu (t:Term):(keysOf (ordF t) t.args).Pairwise (fun a b=>¬ beforeF b a<0)∧(keysOf (ordF t) t.args).Perm t.args:=by
 obtain ⟨h1,h2⟩:=JX t
 refine ⟨?_,?_⟩
 ·unfold keysOf
  rw [List.pairwise_map]
  refine h1.imp fun {a b} h=>?_
  unfold ltA at h
  simpa using h
 ·have:=h2.map (fun i=>t.args.getD i aG)
  have e:=Ap t.args
  unfold keysOf at e ⊢
  rw [e] at this
  exact this
theorem Tv {D D':Int} {t u:Term} (ht:∀ x ∈ t.args,fw D x) (hu:∀ x ∈ u.args,fw D' x) (h:t.args.Perm u.args):keysOf (ordF t) t.args=keysOf (ordF u) u.args:=by
 obtain ⟨s1,p1⟩:=yu t
 obtain ⟨s2,p2⟩:=yu u
 refine List.Perm.eq_of_pairwise (fun a b ha hb h1 h2=>?_) s1 s2 ((p1.trans h).trans p2.symm)
 have e1:=lI (ht a (p1.mem_iff.1 ha))
 have e2:=lI (hu b (p2.mem_iff.1 hb))
 rw [uy] at h1 h2
 have ek:a.kind=b.kind:=by omega
 have en:a.n=b.n:=by omega
 rw [e1,e2,ek,en]
structure TwoM (ms ms':List Va) (σ α σ' β:Int→Term):Prop where
 g1:∀ n:Int,0≤n→(ak ms n).is=false→σ n=gCon (aX (ak ms n).type) n
 g2:∀ n:Int,0≤n→(ak ms' n).is=false→σ' n=gCon (aX (ak ms' n).type) n
 ma:Mod (qP ms) ms' α
 mb:Mod (qP ms') ms β
theorem TwoM.swap {ms ms':List Va} {σ α σ' β:Int→Term} (T:TwoM ms ms' σ α σ' β):TwoM ms' ms σ' β σ α:=⟨T.g2,T.g1,T.mb,T.ma⟩
theorem nP {w us:List Term} {d:Int} {j:Nat} (hj:j<w.length):(aC w us d).getD j aG=aH (w.getD j aG) us d:=by
 rw [List.getD_eq_getElem?_getD,qa,List.getD_eq_getElem?_getD,List.getElem?_eq_getElem hj];rfl
theorem Qe {lv m:Int} {g:Term} {us ys:List Term} {s:ByteArray} (hus:∀ u ∈ us,iN u) (h:aH g us 0=⟨1,m,s,ys⟩):g.kind=1∧g.n=m∧ys=aC g.args us 0:=by
 rw [gX] at h
 injection h with h1 h2 h3 h4
 obtain ⟨p1,p2⟩:=DR (k:=g.kind) (n:=g.n) (s:=g.name) hus 0
 have k1:=p1.1 h1
 refine ⟨k1,(p2 k1).symm.trans h2,?_⟩
 rw [← h4]
 congr 1
 unfold inner;rw [k1];rfl
theorem yB {D:Int} {k:Nat} {n:Int} {us:List Term} (hus:∀ u ∈ us,fw D u) (hk:k=us.length):aH (gCon k n) us 0=⟨1,1+n,aB,us⟩:=by
 unfold gCon bnds
 rw [aH,bL rfl]
 have e:inner 1 0=0:=rfl
 rw [e,hk,lF hus fun i hi=>by simpa using hi]
 have:=Ap us
 unfold keysOf at this
 rw [this]
def Lk (α β:Int→Term) (Y Z:Int):Prop:=((α Z).kind=1∧(α Z).n=1+Y)∧(β Y).kind=1∧(β Y).n=1+Z
def OI (w:List Term) (m:Nat):Prop:=∀ j,j<w.length→∃ p,p<m∧∀ (zs:List Term) (D:Int),zs.length=m→(∀ z ∈ zs,fw D z)→aH (w.getD j aG) zs 0=zs.getD p aG
structure Yb (ms ms':List Va) (α β:Int→Term) (Y Z:Int) (ys zs:List Term):Prop where
 lk:Lk α β Y Z
 e1:ys=aC (α Z).args zs 0
 pl:OI (α Z).args zs.length
 perm:ys.Perm zs
theorem EA {ms ms':List Va} {α:Int→Term} (I:Inv ms) (I':Inv ms') (ma:Mod (qP ms) ms' α) {Y Z:Int} {ys zs:List Term} {D:Int} (hD:0≤D) (VY:iZ ms (sVar Y ys) D) (VZ:iZ ms' (sVar Z zs) D) (h:aH (α Z) zs 0=⟨1,1+Y,aB,ys⟩) :
  ((α Z).kind=1∧(α Z).n=1+Y)∧ys=aC (α Z).args zs 0∧(ak ms Y).level≤(ak ms' Z).level∧((ak ms' Z).level≤(ak ms Y).level→OI (α Z).args zs.length∧∀ y ∈ ys,y ∈ zs):=by
 have hzs:∀ z ∈ zs,iN z:=fun z hz=>gz (VZ.args z hz)
 obtain ⟨k1,n1,e⟩:=Qe (lv:=0) hzs h
 have Y0:0≤Y:=VY.n0
 have gZ:=ma.gd Z VZ.n0 VZ.n1
 have tZ:=ma.tag Z VZ.n0 VZ.n1
 have har:aX (ak ms' Z).type=zs.length:=VZ.ar
 rw [har] at gZ
 generalize α Z=g at *
 obtain ⟨gk,gn,gs,w⟩:=g
 have k1:gk=1:=k1
 have n1:gn=1+Y:=n1
 have e:ys=aC w zs 0:=e
 subst k1;subst n1
 rw [Tg] at tZ
 have hlv:(ak ms Y).level≤(ak ms' Z).level:=by
  have:=tZ.1 rfl
  unfold qP at this
  rw [if_pos (by omega),show 1+Y - 1=Y by omega] at this
  exact this
 refine ⟨⟨rfl,rfl⟩,e,hlv,fun hle=>?_⟩
 rw [Gd] at gZ
 have gw:=gZ.2
 rw [show inner 1 (zs.length:Int)=zs.length from rfl] at gw
 have gmem:∀ (l:List Term),GdL (ak ms' Z).level l (zs.length:Int)→∀ x ∈ l,Gd (ak ms' Z).level x (zs.length:Int):=by
  intro l
  induction l with
  |nil=>intro _ x hx;exact absurd hx List.not_mem_nil
  |cons a l ih =>
   intro hg x hx
   rw [GdL] at hg
   rcases List.mem_cons.1 hx with rfl|hx
   ·exact hg.1
   ·exact ih hg.2 x hx
 have one:∀ j,j<w.length→∃ p,p<zs.length∧(w.getD j aG)=⟨2,(zs.length:Int) - 1 - p,aB,[]⟩:=by
  intro j hj
  have hjy:j<ys.length:=by rw [e,bW];exact hj
  have hy:aH (w.getD j aG) zs 0=ys.getD j aG:=by rw [e,nP hj]
  have hA:=VY.args _ (bG (us:=ys) hjy)
  have hH:=VY.high _ (bG (us:=ys) hjy)
  have hg:=gmem w gw _ (bG (us:=w) hj)
  generalize ys.getD j aG=y at *
  generalize w.getD j aG=x at *
  obtain ⟨xk,xn,xs,xl⟩:=x
  rw [Gd] at hg
  obtain ⟨⟨_,g2,g3⟩,_⟩:=hg
  rw [lI hA,aH] at hy
  injection hy with q1 q2 q3 q4
  have hxl:xl=[]:=by
   cases xl with
   |nil=>rfl
   |cons a l=>rw [aC] at q4;cases q4
  subst hxl
  have y23:=gz hA
  have hxk:xk=2∨xk=3:=by
   by_cases h2:xk=2
   ·exact .inl h2
   ·have:(xk==2)=false:=by simpa using h2
    rw [bL (by rw [this];rfl)] at q1
    have q1:xk=y.kind:=q1
    rcases y23 with a|a
    ·omega
    ·exact .inr (by omega)
  rcases hxk with h2|h3
  ·subst h2
   have hlt:=(g2 rfl).1
   have hxn:0≤xn:=by
    by_cases hn:0≤xn
    ·exact hn
    ·exfalso
     rw [bL (by rw [decide_eq_false (by omega)];rfl)] at q1 q2
     have q1:(2:Int)=y.kind:=q1
     have q2:xn=y.n:=q2
     have:=(hA.2.2.1 q1.symm).1
     omega
   refine ⟨(zs.length - 1 - xn.toNat),by omega,?_⟩
   rw [(g2 rfl).2]
   congr 1
   omega
  ·exfalso
   subst h3
   rw [bL rfl] at q1 q2
   have q1:(3:Int)=y.kind:=q1
   have q2:xn=y.n:=q2
   have h5:=(g3 rfl).1
   have h6:(ak ms Y).level≤y.n:=hH q1.symm
   omega
 have two:∀ (p:Nat),∀ (us:List Term) (E:Int),p<us.length→(∀ z ∈ us,fw E z)→aH ⟨2,(us.length:Int) - 1 - p,aB,[]⟩ us 0=us.getD p aG:=by
  intro p us E hp hus
  have:=kK (us:=us) (d:=0) hp (Int.le_refl _)
  rw [Int.add_zero] at this
  show aH (sBnd ((us.length:Int) - 1 - p)) us 0=_
  rw [this]
  have hu:=lI (hus _ (bG hp))
  generalize us.getD p aG=u at *
  rw [hu]
  simp
 refine ⟨fun j hj=>?_,fun y hy=>?_⟩
 ·obtain ⟨p,hp,hw⟩:=one j hj
  refine ⟨p,hp,fun us E hl hus=>?_⟩
  show aH (w.getD j aG) us 0=_
  rw [hw,← hl]
  exact two p us E (by omega) hus
 ·obtain ⟨j,hj⟩:=List.getElem?_of_mem hy
  have hjl:=(List.getElem?_eq_some_iff.1 hj).1
  have hjw:j<w.length:=by rw [e,bW] at hjl;exact hjl
  obtain ⟨p,hp,hw⟩:=one j hjw
  have:ys.getD j aG=zs.getD p aG:=by rw [e,nP hjw,hw];exact two p zs D hp VZ.args
  rw [List.getD_eq_getElem?_getD,hj] at this
  have:y=zs.getD p aG:=this
  rw [this]
  exact bG hp
theorem Iu {us:List Term} (h:us.Pairwise (fun b u=>isF u b=false)):us.Nodup:=by
 refine h.imp fun {a b} hab e=>?_
 subst e
 unfold isF at hab
 simp at hab
theorem Mm {ms ms':List Va} {σ α σ' β:Int→Term} (I:Inv ms) (I':Inv ms') (T:TwoM ms ms' σ α σ' β) {U V:Term} {D:Int} (hD:0≤D) (hU:aK ms U D=true) (hV:aK ms' V D=true) (U4:(U.kind==4)=true) (V4:(V.kind==4)=true) (uU:(ak ms U.n).is=false) (uV:(ak ms' V.n).is=false) (e1:evS σ U=evS α V) (e2:evS σ' V=evS β U):Yb ms ms' α β U.n V.n U.args V.args:=by
 have VU:=dG hU U4
 have VV:=dG hV V4
 rw [lW U4,lW V4,T.g1 _ VU.n0 uU,yB VU.args VU.ar] at e1
 rw [lW U4,lW V4,T.g2 _ VV.n0 uV,yB VV.args VV.ar] at e2
 obtain ⟨a1,a2,a3,a4⟩:=EA I I' T.ma hD (Y:=U.n) (ys:=U.args) (Z:=V.n) (zs:=V.args) ⟨VU.n0,VU.n1,VU.args,VU.high,VU.pair,VU.ar⟩ ⟨VV.n0,VV.n1,VV.args,VV.high,VV.pair,VV.ar⟩ e1.symm
 obtain ⟨b1,b2,b3,b4⟩:=EA I' I T.mb hD (Y:=V.n) (ys:=V.args) (Z:=U.n) (zs:=U.args) ⟨VV.n0,VV.n1,VV.args,VV.high,VV.pair,VV.ar⟩ ⟨VU.n0,VU.n1,VU.args,VU.high,VU.pair,VU.ar⟩ e2.symm
 obtain ⟨a5,a6⟩:=a4 b3
 obtain ⟨_,b6⟩:=b4 a3
 exact ⟨⟨a1,b1⟩,a2,a5,(List.perm_ext_iff_of_nodup (Iu VU.pair) (Iu VV.pair)).2 fun x=>⟨a6 x,b6 x⟩⟩
theorem wL {ms ms':List Va} {σ α σ' β:Int→Term} (T:TwoM ms ms' σ α σ' β) {U V:Term} {D:Int} (hU:aK ms U D=true) (hV:aK ms' V D=true) (U4:(U.kind==4)=true) (uU:(ak ms U.n).is=false) (e1:evS σ U=evS α V):(V.kind==4)=true:=by
 have VU:=dG hU U4
 cases V4:(V.kind==4)
 ·exfalso
  rw [lW U4,T.g1 _ VU.n0 uU,yB VU.args VU.ar,kg,V4] at e1
  simp only [Bool.false_eq_true,if_false] at e1
  injection e1 with q1 q2
  rw [cO,Bool.and_eq_true] at hV
  have:=hV.1
  unfold bg aY at this
  rw [← q1] at this
  simp at this
  have h0:=VU.n0
  omega
 ·rfl
theorem j4 {ms:List Va} {U:Term} (h:kT ms U=true) (U4:(U.kind==4)=true):(ak ms U.n).is=false:=by
 rw [wT,Bool.and_eq_true,U4,Bool.true_and] at h
 simpa using h.1
theorem yn:∀ l:List Term,(∀ u ∈ l,u.args=[])→depL l=if l.length=0 then 0 else 1
 |[],_=>rfl
 |u::l,h=>by
  have hu:=h u List.mem_cons_self
  obtain ⟨a,b,c,m⟩:=u
  have hu:m=[]:=hu
  subst hu
  rw [depL,dep,yn l fun x hx=>h x (List.mem_cons_of_mem _ hx),depL,if_neg (show ¬ ((⟨a,b,c,[]⟩::l:List Term).length=0) by simp)]
  split <;> omega
mutual
theorem Ie {ms ms':List Va} {σ α σ' β:Int→Term} (I:Inv ms) (I':Inv ms') (T:TwoM ms ms' σ α σ' β):∀ (U V:Term) (D:Int),0≤D→aK ms U D=true→aK ms' V D=true→kT ms U=true→kT ms' V=true→evS σ U=evS α V→evS σ' V=evS β U→U.size=V.size∧dep U=dep V
 |⟨k,n,s,l⟩,V,D,hD,hU,hV,nU,nV,e1,e2=>by
  cases h4:(k==4)
  ·have V4:(V.kind==4)=false:=by
    cases V4:(V.kind==4)
    ·rfl
    ·have:=wL T.swap hV hU V4 (j4 nV V4) e2
     rw [show (⟨k,n,s,l⟩:Term).kind=k from rfl,h4] at this;cases this
   rw [kg,kg α,V4] at e1
   rw [kg,kg β,V4] at e2
   rw [show (⟨k,n,s,l⟩:Term).kind=k from rfl,h4] at e1 e2
   simp only [Bool.false_eq_true,if_false] at e1 e2
   injection e1 with q1 q2 q3 q4
   injection e2 with p1 p2 p3 p4
   obtain ⟨vk,vn,vs',vl⟩:=V
   have q1:k=vk:=q1
   subst q1
   rw [aK,Bool.and_eq_true] at hU hV
   rw [kT,Bool.and_eq_true] at nU nV
   obtain ⟨a,b⟩:=DC I I' T l vl (inner k D) (cz hD) hU.2 hV.2 nU.2 nV.2 q4 p4
   exact ⟨by rw [Term.size,Term.size,a],by rw [dep,dep,b]⟩
  ·have V4:=wL T hU hV h4 (j4 nU h4) e1
   have P:=Mm I I' T hD hU hV h4 V4 (j4 nU h4) (j4 nV V4) e1 e2
   have VU:=dG hU h4
   have VV:=dG hV V4
   obtain ⟨vk,vn,vs',vl⟩:=V
   have hl:l.length=vl.length:=P.perm.length_eq
   have la:∀ u ∈ l,bF u=true:=fun u hu=>(VU.args u hu).1
   have lb:∀ u ∈ vl,bF u=true:=fun u hu=>(VV.args u hu).1
   refine ⟨?_,?_⟩
   ·rw [Term.size,Term.size,ny l la,ny vl lb,hl]
   ·rw [dep,dep,yn l fun u hu=>(aS (la u hu)).2,yn vl fun u hu=>(aS (lb u hu)).2,hl]
theorem DC {ms ms':List Va} {σ α σ' β:Int→Term} (I:Inv ms) (I':Inv ms') (T:TwoM ms ms' σ α σ' β):∀ (U V:List Term) (D:Int),0≤D→dY ms U D=true→dY ms' V D=true→kS ms U=true→kS ms' V=true→U.map (evS σ)=V.map (evS α)→V.map (evS σ')=U.map (evS β)→sizes U=sizes V∧depL U=depL V
 |[],V,D,hD,hU,hV,nU,nV,e1,e2=>by
  cases V with
  |nil=>exact ⟨rfl,rfl⟩
  |cons b V=>cases e1
 |a::U,V,D,hD,hU,hV,nU,nV,e1,e2=>by
  cases V with
  |nil=>cases e1
  |cons b V =>
   rw [List.map_cons,List.map_cons] at e1 e2
   injection e1 with q1 q2
   injection e2 with p1 p2
   rw [dY,Bool.and_eq_true] at hU hV
   rw [kS,Bool.and_eq_true] at nU nV
   obtain ⟨x1,x2⟩:=Ie I I' T a b D hD hU.1 hV.1 nU.1 nV.1 q1 p1
   obtain ⟨y1,y2⟩:=DC I I' T U V D hD hU.2 hV.2 nU.2 nV.2 q2 p2
   exact ⟨by rw [sizes,sizes,x1,y1],by rw [depL,depL,x2,y2]⟩
end
structure SRel (ms':List Va) (α β:Int→Term) (s s':NS):Prop where
 len:s.tys.length=s'.tys.length
 rel:∀ Y Z:Int,Lk α β Y Z→(mget Y s.nms=none∧mget Z s'.nms=none)∨∃ m m',mget Y s.nms=some m∧mget Z s'.nms=some m'∧m.par=m'.par∧∀ (zs:List Term) (D:Int),(∀ z ∈ zs,fw D z)→zs.length=aX (ak ms' Z).type→keysOf m.ord (aC (α Z).args zs 0)=keysOf m'.ord zs
theorem Mr {w zs0:List Term} {o o':List Nat} {D0:Int} (h0:∀ z ∈ zs0,fw D0 z) (hp:zs0.Pairwise (fun b u=>isF u b=false)) (pl:OI w zs0.length) (ho:∀ x ∈ o,x<w.length) (ho':∀ x ∈ o',x<zs0.length) (hk:keysOf o (aC w zs0 0)=keysOf o' zs0) (zs:List Term) (D:Int) (hz:∀ z ∈ zs,fw D z) (hl:zs.length=zs0.length):keysOf o (aC w zs 0)=keysOf o' zs:=by
 unfold keysOf at hk ⊢
 have hlen:o.length=o'.length:=by simpa using congrArg List.length hk
 refine List.ext_getElem (by simpa using hlen) fun i h1 h2=>?_
 rw [List.getElem_map,List.getElem_map]
 rw [List.length_map] at h1 h2
 have hx:=ho _ (List.getElem_mem h1)
 have hx':=ho' _ (List.getElem_mem h2)
 have e0:(o.map fun i=>(aC w zs0 0).getD i aG)[i]'(by simpa using h1)=(o'.map fun i=>zs0.getD i aG)[i]'(by simpa using h2):=by
  simp only [hk]
 rw [List.getElem_map,List.getElem_map,nP hx] at e0
 obtain ⟨p,hpl,hf⟩:=pl _ hx
 rw [hf zs0 D0 rfl h0] at e0
 rw [nP hx,hf zs D hl hz]
 have:p=o'[i]:=by
  by_cases h:p=o'[i]
  ·exact h
  ·exfalso
   have:=wS hp hpl hx' h
   rw [e0] at this
   unfold isF at this
   simp at this
 rw [this]
theorem J5 {ms ms':List Va} {σ α σ' β:Int→Term} {pars:Int} (I:Inv ms) (I':Inv ms') (T:TwoM ms ms' σ α σ' β) {U V:Term} {D:Int} (hD:0≤D) (hU:aK ms U D=true) (hV:aK ms' V D=true) (U4:(U.kind==4)=true) (V4:(V.kind==4)=true) (uU:(ak ms U.n).is=false) (uV:(ak ms' V.n).is=false) (e1:evS σ U=evS α V) (e2:evS σ' V=evS β U) {s s':NS} (S:SRel ms' α β s s') :
  (qz ms pars U s=none∧qz ms' pars V s'=none)∨∃ m m' s1 s1',qz ms pars U s=some (m,s1)∧qz ms' pars V s'=some (m',s1')∧SRel ms' α β s1 s1'∧named m U=named m' V:=by
 have P:=Mm I I' T hD hU hV U4 V4 uU uV e1 e2
 have VU:=dG hU U4
 have VV:=dG hV V4
 have kU:U.kind=4:=by simpa using U4
 have kV:V.kind=4:=by simpa using V4
 have nU:=mP hU (by omega)
 have nV:=mP hV (by omega)
 have hk0:keysOf (ordF U) U.args=keysOf (ordF V) V.args:=Tv VU.args VV.args P.perm
 have nm:∀ m m':Nm,m.par=m'.par→keysOf m.ord U.args=keysOf m'.ord V.args→named m U=named m' V:=fun m m' h1 h2=>by
  unfold named
  unfold keysOf at h2
  rw [h1,h2,nU,nV]
 unfold qz
 rcases S.rel U.n V.n P.lk with ⟨h1,h2⟩|⟨m,m',h1,h2,h3,h4⟩
 ·rw [h1,h2]
  dsimp only
  unfold Ei
  rw [S.len]
  split
  ·exact .inl ⟨rfl,rfl⟩
  ·right
   refine ⟨_,_,_,_,rfl,rfl,⟨by simp [S.len],fun Y Z hl=>?_⟩,nm _ _ rfl hk0⟩
   dsimp only
   rw [ji,ji]
   by_cases hY:Y=U.n
   ·have hZ:Z=V.n:=by
     have a:=hl.2.2
     have b:=P.lk.2.2
     rw [hY] at a;omega
    subst hY;subst hZ
    right
    refine ⟨_,_,if_pos (beq_self_eq_true _),if_pos (beq_self_eq_true _),rfl,fun zs E hz hlz=>?_⟩
    have hor:=vY U
    have hor':=vY V
    have hwl:(α V.n).args.length=U.args.length:=by have:=congrArg List.length P.e1;rw [bW] at this;exact this.symm
    have e3:=hk0
    rw [P.e1] at e3
    exact Mr VV.args VV.pair P.pl (fun x hx=>by rw [hwl];exact hor.2 x hx) hor'.2 e3 zs E hz (by rw [hlz,VV.ar])
   ·have hZ:Z≠V.n:=fun e=>by
     have a:=hl.1.2
     have b:=P.lk.1.2
     rw [e] at a
     exact hY (by omega)
    have c1:(Y==U.n)=false:=by simpa using hY
    have c2:(Z==V.n)=false:=by simpa using hZ
    rw [c1,c2]
    exact S.rel Y Z hl
 ·rw [h1,h2]
  right
  refine ⟨m,m',s,s',rfl,rfl,S,nm _ _ h3 ?_⟩
  have:=h4 V.args D VV.args (by rw [VV.ar])
  rw [← P.e1] at this
  exact this
theorem JC {ms ms':List Va} {σ α σ' β:Int→Term} {pars:Int} (I:Inv ms) (I':Inv ms') (T:TwoM ms ms' σ α σ' β):∀ (f:Nat) (U V:Term) (D:Int) (s s':NS),0≤D→aK ms U D=true→aK ms' V D=true→kT ms U=true→kT ms' V=true→evS σ U=evS α V→evS σ' V=evS β U→SRel ms' α β s s' →
  (fH ms pars f s U=none∧fH ms' pars f s' V=none)∨∃ r s1 s1',fH ms pars f s U=some (r,s1)∧fH ms' pars f s' V=some (r,s1')∧SRel ms' α β s1 s1':=by
 intro f
 induction f with
 |zero=>intro U V D s s' _ _ _ _ _ _ _ _;exact .inl ⟨rfl,rfl⟩
 |succ f ih =>
  intro U V D s s' hD hU hV nU nV e1 e2 S
  rw [fH,fH]
  cases U4:(U.kind==4)
  ·have V4:(V.kind==4)=false:=by
    cases V4:(V.kind==4)
    ·rfl
    ·have:=wL T.swap hV hU V4 (j4 nV V4) e2
     rw [U4] at this;cases this
   rw [V4]
   simp only [Bool.false_eq_true,if_false]
   rw [kg,kg α,U4,V4] at e1
   rw [kg,kg β,U4,V4] at e2
   simp only [Bool.false_eq_true,if_false] at e1 e2
   injection e1 with q1 q2 q3 q4
   injection e2 with p1 p2 p3 p4
   rw [cO,Bool.and_eq_true] at hU hV
   rw [wT,Bool.and_eq_true] at nU nV
   rw [← q1] at hV
   have hl:∀ (l m:List Term) (s s':NS),dY ms l (inner U.kind D)=true→dY ms' m (inner U.kind D)=true→kS ms l=true→kS ms' m=true→l.map (evS σ)=m.map (evS α)→m.map (evS σ')=l.map (evS β)→SRel ms' α β s s'→(mapN (fH ms pars f) s l=none∧mapN (fH ms' pars f) s' m=none)∨∃ r s1 s1',mapN (fH ms pars f) s l=some (r,s1)∧mapN (fH ms' pars f) s' m=some (r,s1')∧SRel ms' α β s1 s1':=by
    intro l
    induction l with
    |nil =>
     intro m s s' _ _ _ _ q p S
     cases m with
     |nil=>exact .inr ⟨[],s,s',rfl,rfl,S⟩
     |cons b m=>cases q
    |cons a l ihl =>
     intro m s s' hl hm nl nm q p S
     cases m with
     |nil=>cases q
     |cons b m =>
      rw [List.map_cons,List.map_cons] at q p
      injection q with q1 q2
      injection p with p1 p2
      rw [dY,Bool.and_eq_true] at hl hm
      rw [kS,Bool.and_eq_true] at nl nm
      rw [mapN,mapN]
      rcases ih a b _ s s' (cz hD) hl.1 hm.1 nl.1 nm.1 q1 p1 S with ⟨x,y⟩|⟨r,s1,s1',x,y,S1⟩
      ·rw [x,y];exact .inl ⟨rfl,rfl⟩
      ·rw [x,y]
       dsimp only [Option.bind]
       rcases ihl m s1 s1' hl.2 hm.2 nl.2 nm.2 q2 p2 S1 with ⟨x,y⟩|⟨r2,s2,s2',x,y,S2⟩
       ·rw [x,y];exact .inl ⟨rfl,rfl⟩
       ·rw [x,y];exact .inr ⟨_,_,_,rfl,rfl,S2⟩
   rcases hl U.args V.args s s' hU.2 hV.2 nU.2 nV.2 q4 p4 S with ⟨x,y⟩|⟨r,s1,s1',x,y,S1⟩
   ·rw [x,y];exact .inl ⟨rfl,rfl⟩
   ·rw [x,y,q1,q2,q3];exact .inr ⟨_,_,_,rfl,rfl,S1⟩
  ·have V4:=wL T hU hV U4 (j4 nU U4) e1
   rw [V4]
   simp only [if_true]
   rcases J5 (pars:=pars) I I' T hD hU hV U4 V4 (j4 nU U4) (j4 nV V4) e1 e2 S with ⟨x,y⟩|⟨m,m',s1,s1',x,y,S1,en⟩
   ·rw [x,y];exact .inl ⟨rfl,rfl⟩
   ·rw [x,y]
    dsimp only [Option.map]
    rw [en]
    exact .inr ⟨_,_,_,rfl,rfl,S1⟩
theorem Ti {tg:Int→Int} {vs ms:List Va} {σ:Int→Term} (E:ExtS vs ms) (M:Mod tg ms σ):Mod tg vs σ:=by
 have hl:=E.len
 refine ⟨fun n h0 h1=>?_,fun n h0 h1=>?_,fun n h0 h1=>M.nl n h0 (by omega),fun n h0 h1 hi=>?_⟩
 ·have:=M.gd n h0 (by omega)
  rw [E.lev n h0 h1,E.typ n h0 h1] at this;exact this
 ·have:=M.tag n h0 (by omega)
  rw [E.lev n h0 h1] at this;exact this
 ·have e:=E.kept n h0 h1 hi
  have:=M.eq n h0 (by omega) (by rw [e];exact hi)
  rw [e] at this;exact this
theorem EJ {vs:List Va} {a b:Term} (h:(bV vs a b).2.2=0):(qK vs a b==0)=true:=by
 cases hz:(qK vs a b==0)
 ·unfold bV at h
  rw [hz] at h
  simp only [Bool.false_eq_true,if_false] at h
  rw [h] at hz;cases hz
 ·rfl
theorem Dq {vs F:List Va} {a b:Term} (h:(bV vs a b).2.2=0) (hi:(bV vs a b).2.1=true) (hc:bi F=0) (E:ExtS (bV vs a b).1 F):EqV F 0 a b:=by
 have hft:=EJ h
 obtain ⟨hcv,hfa,hfb⟩:=lc hft
 unfold bV at h hi E
 rw [if_pos hft] at h hi E
 cases hs:eG 402 ⟨vs,0⟩ a b 0 with
 |clash=>rw [hs] at hi;cases hi
 |large e =>
  rw [hs] at hi
  exfalso
  revert hi
  dsimp only
  split <;> exact fun h=>by cases h
 |ok s =>
  rw [hs] at hi E
  dsimp only at hi E
  cases hk:(bi s.ms==2||bi s.ms==50)
  ·rw [hk,if_neg (by decide)] at E
   exact FQ hc 402 ⟨vs,0⟩ a b 0 0 s (dH hcv) (show (0:Int)≤0 by decide) (Int.le_refl 0) hfa hfb hs E
  ·rw [hk] at hi;cases hi
theorem RI {tg:Int→Int} {F:List Va} {σ:Int→Term} {a b:Term} (hc:bi F=0) (M:Mod tg F σ) (hfa:aK F a 0=true) (hfb:aK F b 0=true) (h:EqV F 0 a b):evS σ a=evS σ b:=by
 obtain ⟨v,h1,h2⟩:=h
 rw [AR hc (dH hc) M h1.1 (Int.le_refl 0) hfa,AR hc (dH hc) M h2.1 (Int.le_refl 0) hfb]
theorem Ae {tg:Int→Int} {vs:List Va} {σ:Int→Term} {a b:Term} (he:(bV vs a b).2.2=0) (M:Mod tg vs σ) (e:evS σ a=evS σ b):(bV vs a b).2.1=true∧∃ σ',AgS vs.length σ σ'∧Mod tg (bV vs a b).1 σ':=by
 have hft:=EJ he
 obtain ⟨hc,hfa,hfb⟩:=lc hft
 have F:=JE 402 ⟨vs,0⟩ a b 0 0 σ (dH hc) (show (0:Int)≤0 by decide) (Int.le_refl 0) hfa hfb M e
 have L:=Ib 402 ⟨vs,0⟩ a b 0
 unfold bV at he ⊢
 rw [if_pos hft] at he ⊢
 generalize eG 402 ⟨vs,0⟩ a b 0=r at *
 cases r with
 |clash=>exact F.elim
 |large e =>
  exfalso
  have h2:=L e rfl
  dsimp only at he
  cases hz:(e==0)
  ·rw [hz] at he
   simp only [Bool.false_eq_true,if_false] at he
   subst he;cases h2
  ·have:e=0:=by simpa using hz
   subst this;cases h2
 |ok s =>
  dsimp only at he ⊢
  split at he
  ·cases he
  ·rename_i hk
   rw [if_neg hk]
   exact ⟨rfl,F⟩
theorem JW {vs s1 s2:List Va} {A B C D:Term} (h1:bV vs A B=(s1,true,0)) (h2:bV s1 C D=(s2,true,0)) (wf:WellFounded (En s2)) (h3:(bV vs C D).2.2=0) :
  (bV vs C D).2.1=true∧((bV (bV vs C D).1 A B).2.2=0→(bV (bV vs C D).1 A B).2.1=true∧∃ α,AgS vs.length (genS s2 wf) α∧Mod (qP s2) (bV (bV vs C D).1 A B).1 α):=by
 have e1:(bV vs A B).2.2=0:=by rw [h1]
 have i1:(bV vs A B).2.1=true:=by rw [h1]
 have e2:(bV s1 C D).2.2=0:=by rw [h2]
 have i2:(bV s1 C D).2.1=true:=by rw [h2]
 obtain ⟨_,E1⟩:=iH e1 i1
 obtain ⟨k2,E2⟩:=iH e2 i2
 have q1:=Dq (F:=s2) e1 i1
 have q2:=Dq (F:=s2) e2 i2
 rw [h1] at E1 q1
 rw [h2] at E2 k2 q2
 dsimp only at E1 E2 k2 q1 q2
 have EqA:=q1 k2 E2
 have EqC:=q2 k2 (ExtS.refl _)
 obtain ⟨_,fA,fB⟩:=lc (EJ e1)
 obtain ⟨_,fC,fD⟩:=lc (EJ h3)
 have E:=E1.trans E2
 have M:=Gz (dH k2) wf
 have vA:=RI k2 M (bH E _ _ fA) (bH E _ _ fB) EqA
 have vC:=RI k2 M (bH E _ _ fC) (bH E _ _ fD) EqC
 obtain ⟨i3,σ3,A3,M3⟩:=Ae h3 (Ti E M) vC
 refine ⟨i3,fun h4=>?_⟩
 obtain ⟨_,E3⟩:=iH h3 i3
 obtain ⟨i4,σ4,A4,M4⟩:=Ae h4 M3 (by rw [jU A3 A 0 fA,jU A3 B 0 fB];exact vA)
 exact ⟨i4,σ4,A3.trans A4 E3.len,M4⟩
theorem Es {F G:List Va}:∀ l:List Term,(∀ t ∈ l,aK F t 0=true∧aK G t 0=true)→gq F l=gq G l
 |[],_=>rfl
 |t::l,h=>by
  obtain ⟨a,b⟩:=h t List.mem_cons_self
  rw [gq,gq,a,b,Es l fun u hu=>h u (List.mem_cons_of_mem _ hu)]
theorem Dp {F G:List Va}:∀ l:List Term,(∀ t ∈ l,kC (valC F t)=kC (valC G t))→gm F l=gm G l
 |[],_=>rfl
 |t::l,h=>by
  rw [gm,gm,h t List.mem_cons_self,Dp l fun u hu=>h u (List.mem_cons_of_mem _ hu)]
theorem Ej {ms ms':List Va} {σ α σ' β:Int→Term} {pars:Int} (I:Inv ms) (I':Inv ms') (T:TwoM ms ms' σ α σ' β) (f:Nat):∀ (l:List Term) (s s':NS),(∀ t ∈ l,(aK ms (valC ms t) 0=true∧kT ms (valC ms t)=true)∧(aK ms' (valC ms' t) 0=true∧kT ms' (valC ms' t)=true)∧evS σ (valC ms t)=evS α (valC ms' t)∧evS σ' (valC ms' t)=evS β (valC ms t))→SRel ms' α β s s' →
  (mapN (fH ms pars f) s (l.map (valC ms))=none∧mapN (fH ms' pars f) s' (l.map (valC ms'))=none)∨∃ r s1 s1',mapN (fH ms pars f) s (l.map (valC ms))=some (r,s1)∧mapN (fH ms' pars f) s' (l.map (valC ms'))=some (r,s1')
 |[],s,s',_,_=>.inr ⟨[],s,s',rfl,rfl⟩
 |t::l,s,s',h,S=>by
  obtain ⟨⟨a1,a2⟩,⟨b1,b2⟩,c1,c2⟩:=h t List.mem_cons_self
  rw [List.map_cons,List.map_cons,mapN,mapN]
  rcases JC (pars:=pars) I I' T f _ _ 0 s s' (Int.le_refl 0) a1 b1 a2 b2 c1 c2 S with ⟨x,y⟩|⟨r,s1,s1',x,y,S1⟩
  ·rw [x,y];exact .inl ⟨rfl,rfl⟩
  ·rw [x,y]
   dsimp only [Option.bind]
   rcases Ej I I' T f l s1 s1' (fun u hu=>h u (List.mem_cons_of_mem _ hu)) S1 with ⟨x,y⟩|⟨r2,s2,s2',x,y⟩
   ·rw [x,y];exact .inl ⟨rfl,rfl⟩
   ·rw [x,y];exact .inr ⟨_,_,_,rfl,rfl⟩
theorem FV {vs F G:List Va} (E:ExtS vs F) (E':ExtS vs G) {n:Nat} (hn:n≤vs.length):dC F n=dC G n∧dC F n=dC vs n:=by
 have key:∀ H:List Va,ExtS vs H→dC H n=dC vs n:=fun H e=>by
  unfold dC
  refine List.map_congr_left fun i hi=>?_
  have hi:=List.mem_range.1 hi
  unfold nL
  rw [e.typ i (by omega) (by omega)]
 exact ⟨(key F E).trans (key G E').symm,key F E⟩
theorem FW {vs:List Va} (hc:bi vs=0) {n:Nat} (hn:n≤vs.length):∀ t ∈ dC vs n,aK vs t 0=true:=fun t ht=>by
 obtain ⟨i,hi,rfl⟩:=List.mem_map.1 ht
 have hi:=List.mem_range.1 hi
 exact (AB.1 (Nh hc (n:=(i:Int)) (by omega) (by omega)).1).2.2
theorem Gp {vs F G:List Va} (hv:bi vs=0) (hF:bi F=0) (hG:bi G=0) (E:ExtS vs F) (E':ExtS vs G) (wF:WellFounded (En F)) (wG:WellFounded (En G)) {α β:Int→Term} (aα:AgS vs.length (genS F wF) α) (mα:Mod (qP F) G α) (aβ:AgS vs.length (genS G wG) β) (mβ:Mod (qP G) F β) {n:Nat} (hn:n≤vs.length):mK F n []=mK G n []:=by
 have I:=dH hF
 have I':=dH hG
 have T:TwoM F G (genS F wF) α (genS G wG) β:=⟨fun m h0 hu=>Cu wF h0 hu,fun m h0 hu=>Cu wG h0 hu,mα,mβ⟩
 obtain ⟨q1,q2⟩:=FV E E' hn
 have fit:∀ t ∈ dC F n,aK vs t 0=true∧aK F t 0=true∧aK G t 0=true:=fun t ht=>by
  rw [q2] at ht
  have h:=FW hv hn t ht
  exact ⟨h,bH E _ _ h,bH E' _ _ h⟩
 have all:∀ t ∈ dC F n,(aK F (valC F t) 0=true∧kT F (valC F t)=true)∧(aK G (valC G t) 0=true∧kT G (valC G t)=true)∧evS (genS F wF) (valC F t)=evS α (valC G t)∧evS (genS G wG) (valC G t)=evS β (valC F t):=fun t ht=>by
  obtain ⟨h0,h1,h2⟩:=fit t ht
  have g1:=ou (mO hF (Int.le_refl 0) h1)
  have g2:=ou (mO hG (Int.le_refl 0) h2)
  have M:=Gz I wF
  have M':=Gz I' wG
  refine ⟨g1.2,g2.2,?_,?_⟩
  ·rw [← AR hF I M g1.1 (Int.le_refl 0) h1,← AR hG I' mα g2.1 (Int.le_refl 0) h2,jU aα t 0 h0]
  ·rw [← AR hG I' M' g2.1 (Int.le_refl 0) h2,← AR hF I mβ g1.1 (Int.le_refl 0) h1,jU aβ t 0 h0]
 have hlate:gq F (dC F n)=gq G (dC F n):=Es _ fun t ht=>(fit t ht).2
 have hvals:gm F (dC F n)=gm G (dC F n):=Dp _ fun t ht=>by
  obtain ⟨⟨a1,a2⟩,⟨b1,b2⟩,c1,c2⟩:=all t ht
  obtain ⟨x,y⟩:=Ie I I' T _ _ 0 (Int.le_refl 0) a1 b1 a2 b2 c1 c2
  unfold kC
  rw [x,y]
 have hmap:=Ej (pars:=40) I I' T 4000 (dC F n) ⟨[],[]⟩ ⟨[],[]⟩ all ⟨rfl,fun Y Z _=>.inl ⟨rfl,rfl⟩⟩
 unfold mK
 rw [List.append_nil,List.append_nil,← q1]
 unfold sQ
 rw [hF,hG,hlate,hvals]
 rcases hmap with ⟨x,y⟩|⟨r,s1,s1',x,y⟩
 ·rw [x,y]
 ·rw [x,y]
  have z:((0:Int)==0)=true:=rfl
  rw [z]
  simp only [if_true]
  split
  ·rfl
  ·split
   ·split <;> rfl
   ·rfl
def Path (vs:List Va) (A B C D:Term) (a:List Va) (two:Bool):Prop:=∃ s1 i1,bV vs A B=(s1,i1,0)∧((i1=true∧bV s1 C D=(a,two,0))∨(i1=false∧two=false))
theorem sM {vs:List Va} {A B C D:Term} {a:List Va} (h:Path vs A B C D a true):bi vs=0∧bi a=0∧ExtS vs a:=by
 obtain ⟨s1,i1,h1,⟨rfl,h2⟩|⟨_,h⟩⟩:=h
 ·have e1:(bV vs A B).2.2=0:=by rw [h1]
  have i1:(bV vs A B).2.1=true:=by rw [h1]
  have e2:(bV s1 C D).2.2=0:=by rw [h2]
  have i2:(bV s1 C D).2.1=true:=by rw [h2]
  obtain ⟨_,E1⟩:=iH e1 i1
  obtain ⟨k2,E2⟩:=iH e2 i2
  rw [h1] at E1
  rw [h2] at E2 k2
  exact ⟨(lc (EJ e1)).1,k2,E1.trans E2⟩
 ·cases h
theorem sK {vs:List Va} {A B C D:Term} {a b:List Va} {four:Bool} (h:Path vs A B C D a true) (g:Path vs C D A B b four) (wf:WellFounded (En a)):four=true∧∃ α,AgS vs.length (genS a wf) α∧Mod (qP a) b α:=by
 obtain ⟨s1,i1,h1,⟨rfl,h2⟩|⟨_,h⟩⟩:=h
 ·obtain ⟨s3,i3,h3,hg⟩:=g
  obtain ⟨x,y⟩:=JW h1 h2 wf (by rw [h3])
  rw [h3] at x y
  have x:i3=true:=x
  rcases hg with ⟨_,h4⟩|⟨e,_⟩
  ·obtain ⟨p,α,q1,q2⟩:=y (by rw [h4])
   rw [h4] at p q2
   exact ⟨p,α,q1,q2⟩
  ·rw [x] at e;cases e
 ·cases h
theorem JU {vs:List Va} {A B C D:Term} {a b:List Va} (h:Path vs A B C D a true) (g:Path vs C D A B b true):mK a vs.length []=mK b vs.length []:=by
 obtain ⟨kv,ka,Ea⟩:=sM h
 obtain ⟨_,kb,Eb⟩:=sM g
 have wa:WellFounded (En a):=⟨(dH ka).acc⟩
 have wb:WellFounded (En b):=⟨(dH kb).acc⟩
 obtain ⟨_,α,a1,a2⟩:=sK h g wa
 obtain ⟨_,β,b1,b2⟩:=sK g h wb
 exact Gp kv ka kb Ea Eb wa wb a1 a2 b1 b2 (Nat.le_refl _)
end Go.Proofs.YthkjmiejaoomcaaGreat.Am
