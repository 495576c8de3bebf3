/- Part of the proof of a law of layer 5: own texts, joined. -/
import Derived.Test.YthkjmiejaoomcaaGreatVh
import Derived.Test.YthkjmiejaoomcaaGreatVl
import Derived.Test.YthkjmiejaoomcaaGreatVn
set_option linter.unusedVariables false
set_option linter.unusedSimpArgs false
set_option linter.unnecessarySimpa false
namespace Go.Proofs.YthkjmiejaoomcaaGreat.Am
open Go Go.RowKit Go.Proofs
set_option maxRecDepth 100000
set_option maxHeartbeats 1000000
def qX:List Va→Int→Bool
 |[],_=>false
 |v::vs,left=>if v.is then (if decide ((v.t.size:Int)>left) then true else qX vs (left - v.t.size)) else qX vs left
def bi (vs:List Va):Int:=if (vs.length:Int)>2000 then 2 else if qX vs 4000 then 2 else if vs.all (mG vs) then (if ug vs then 50 else 0) else 50
theorem kJ:∀ (vs:List Va) (left:Int),qX vs left=false→∀ v ∈ vs,v.is=true→(v.t.size:Int)≤left
 |[],left,_,v,hv,_=>absurd hv List.not_mem_nil
 |w::vs,left,h,v,hv,hi=>by
  rw [qX] at h
  cases hw:w.is
  ·rw [hw] at h
   rcases List.mem_cons.1 hv with rfl|hv
   ·rw [hw] at hi;cases hi
   ·exact kJ vs left (by simpa using h) v hv hi
  ·rw [hw] at h
   simp only [if_true] at h
   cases hd:decide ((w.t.size:Int)>left)
   ·rw [hd] at h
    simp only [Bool.false_eq_true,if_false] at h
    rcases List.mem_cons.1 hv with rfl|hv
    ·simpa using hd
    ·have:=kJ vs _ h v hv hi;omega
   ·rw [hd] at h;cases h
theorem Fb:∀ (n:Nat) (t:Term),(eD n t).1.size≤t.size
 |0,t=>by rw [eD];exact Nat.le_refl _
 |n+1,t=>by
  rw [eD]
  split
  ·exact Nat.le_refl _
  ·rename_i hn
   obtain ⟨u,hu⟩:=mJ (by simpa using hn)
   rw [hu]
   simp only [List.headD_cons]
   have h1:=Fb n u
   have h2:=fF t 0 (t:=u) (by rw [hu];rfl)
   omega
theorem Dz {u:Term} (h:bF u=true):(u.kind==4)=false∧u.args=[]:=by
 unfold bF at h
 simp only [Bool.and_eq_true,Bool.or_eq_true,beq_iff_eq] at h
 refine ⟨?_,List.eq_nil_of_length_eq_zero (by omega)⟩
 rcases h.1 with e|e <;> rw [e] <;> rfl
theorem qM (lv:Int):∀ (us pre:List Term),lH lv pre us=true→∀ u ∈ us,bF u=true
 |[],pre,_,u,hu=>absurd hu List.not_mem_nil
 |v::us,pre,h,u,hu=>by
  rw [lH,Bool.and_eq_true] at h
  rcases List.mem_cons.1 hu with rfl|hu
  ·have:=h.1;unfold oO at this
   rw [Bool.and_eq_true] at this
   exact this.1
  ·exact qM lv us _ h.2 u hu
theorem sw:∀ us:List Term,(∀ u ∈ us,bF u=true)→di us=[]∧jg us=true
 |[],_=>⟨by rw [di],by rw [jg]⟩
 |u::us,h=>by
  have h1:=Dz (h u (List.mem_cons_self ..))
  have h2:=sw us (fun v hv=>h v (List.mem_cons_of_mem _ hv))
  obtain ⟨k,n,s,l⟩:=u
  simp only at h1
  rw [di,jg,bQ,oM,h1.2,h1.1,di,jg,h2.1,h2.2]
  exact ⟨rfl,rfl⟩
mutual
theorem Ay (vs:List Va):∀ (t:Term) (d:Int),aK vs t d=true→oM t=true
 |⟨k,n,s,l⟩,d,h=>by
  rw [aK,Bool.and_eq_true] at h
  rw [oM]
  cases hk:(k==4)
  ·simp only [Bool.false_eq_true,if_false]
   exact yI vs l _ h.2
  ·simp only [if_true]
   have h1:=h.1
   have e:k=4:=by simpa using hk
   subst e
   simp only [bg,aY,Bool.and_eq_true] at h1
   have h2:dx (ak vs n) l=true:=by
    have:=h1.2.2.2
    simp at this
    exact this.2.2
   unfold dx at h2
   rw [Bool.and_eq_true] at h2
   have h3:=sw l (qM _ l [] h2.2)
   rw [h3.1,h3.2];rfl
theorem yI (vs:List Va):∀ (l:List Term) (d:Int),dY vs l d=true→jg l=true
 |[],d,_=>by rw [jg]
 |t::l,d,h=>by
  rw [dY,Bool.and_eq_true] at h
  rw [jg,Ay vs t d h.1,yI vs l d h.2];rfl
end
mutual
theorem ng (m:Nat):∀ t:Term,varsIn m t=true→∀ k ∈ bQ t,0≤k∧k<(m:Int)
 |⟨k,n,s,l⟩,h=>by
  rw [varsIn,Bool.and_eq_true] at h
  rw [bQ]
  cases hk:(k==4)
  ·simp only [Bool.false_eq_true,if_false]
   exact vT m l h.2
  ·simp only [if_true]
   intro j hj
   rw [List.mem_singleton] at hj
   subst hj
   have h1:=h.1
   rw [hk] at h1
   simpa using h1
theorem vT (m:Nat):∀ l:List Term,iG m l=true→∀ k ∈ di l,0≤k∧k<(m:Int)
 |[],_=>by rw [di];intro k hk;exact absurd hk List.not_mem_nil
 |t::l,h=>by
  rw [iG,Bool.and_eq_true] at h
  rw [di]
  intro k hk
  rcases List.mem_append.1 hk with hk|hk
  ·exact ng m t h.1 k hk
  ·exact vT m l h.2 k hk
end
theorem vB {t:Term} (h:wC t=false):(t.kind==4)=false:=by
 unfold wC at h
 rw [Bool.or_eq_false_iff] at h
 have h1:=h.1
 cases h4:(t.kind==4)
 ·rfl
 ·have e:t.kind=4:=by simpa using h4
  rw [e] at h1;simp at h1
theorem Bf:∀ (n:Nat) (t:Term),(eD n t).2=true→oM (eD n t).1=true→oM t=true
 |0,t,_,hp=>by rw [eD] at hp;exact hp
 |n+1,t,h,hp=>by
  rw [eD] at h hp
  cases hn:wC t
  ·rw [hn] at h hp
   simp only [Bool.false_eq_true,if_false] at h hp
   obtain ⟨u,hu⟩:=mJ hn
   have hk:=vB hn
   rw [hu] at h hp
   simp only [List.headD_cons] at h hp
   have:=Bf n u h hp
   obtain ⟨a,b,c,l⟩:=t
   simp only at hu hk
   subst hu
   rw [oM,hk,jg,jg,this];rfl
  ·rw [hn] at h;simp at h
theorem Fa (m:Nat):∀ (n:Nat) (t:Term),(eD n t).2=true→varsIn m (eD n t).1=true→varsIn m t=true
 |0,t,_,hp=>by rw [eD] at hp;exact hp
 |n+1,t,h,hp=>by
  rw [eD] at h hp
  cases hn:wC t
  ·rw [hn] at h hp
   simp only [Bool.false_eq_true,if_false] at h hp
   obtain ⟨u,hu⟩:=mJ hn
   have hk:=vB hn
   rw [hu] at h hp
   simp only [List.headD_cons] at h hp
   have:=Fa m n u h hp
   obtain ⟨a,b,c,l⟩:=t
   simp only at hu hk
   subst hu
   rw [varsIn,hk,iG,iG,this];rfl
  ·rw [hn] at h;simp at h
theorem rZ {vs:List Va} {n:Int} (hi:(ak vs n).is=true):ak vs n ∈ vs:=by
 unfold ak at hi ⊢
 rw [List.getD_eq_getElem?_getD] at hi ⊢
 cases h:vs[n.toNat]? with
 |none=>rw [h] at hi;cases hi
 |some v=>exact List.mem_of_getElem? h
structure Rc (vs:List Va):Prop where
 plain:mX vs
 sizes:Sizes vs
 vals:Jt vs
theorem Gx (vs:List Va) (hl:qX vs 4000=false) (hv:vs.all (mG vs)=true):Rc vs:=by
 rw [List.all_eq_true] at hv
 have key:∀ v ∈ vs,v.is=true→varsIn vs.length v.t=true∧oM v.t=true:=by
  intro v hm hi
  have h1:=hv v hm
  unfold mG at h1
  rw [hi,Bool.and_eq_true] at h1
  have h2:=h1.2
  simp only [if_true] at h2
  unfold inF at h2
  simp only [Bool.and_eq_true] at h2
  obtain ⟨hb,hz,hf,hs⟩:=h2
  have h3:=(sZ vs _).1 _ _ (Nat.le_refl _) hf
  have h4:=Ay vs _ _ hf
  exact ⟨Fa _ _ _ hb h3,Bf _ _ hb h4⟩
 have hsz:=kJ vs 4000 hl
 refine ⟨⟨fun n hi=>(key _ (rZ hi) hi).2,fun n k he=>ng _ _ (key _ (rZ he.1) he.1).1 k he.2⟩,fun n hi=>?_,fun v hm hi=>⟨(key v hm hi).1,?_⟩⟩
 ·have:=hsz _ (rZ hi) hi;omega
 ·have:=hsz v hm hi;omega
def dJ (vs:List Va) (t:Term):Term:=(eD t.args.length (ak vs t.n).t).1
def fw (d:Int) (u:Term):Prop:=bF u=true∧u.name.toList=aB.toList∧(u.kind=2→0≤u.n∧u.n<d)∧(u.kind=3→0≤u.n∧u.n<60)
structure OH (vs:List Va) (d:Int) (t:Term):Prop where
 n0:0≤t.n
 n1:t.n<(vs.length:Int)
 size:(ak vs t.n).t.size≤4000
 body:(eD t.args.length (ak vs t.n).t).2=true
 fill:tF (dJ vs t) t.args.length 0=true
 args:∀ u ∈ t.args,fw d u
 len:t.args.length≤8
inductive Hl (vs:List Va) (d:Int):Term→Nat→Term→Prop
 |zero {t:Term}:Hl vs d t 0 t
 |succ {t:Term} {k:Nat} {u:Term} (h4:(t.kind==4)=true) (hi:(ak vs t.n).is=true) (ok:OH vs d t) (hs:Hl vs d (aH (dJ vs t) t.args 0) k u):Hl vs d t (k+1) u
structure Yc (vs:List Va) (t:Term):Prop where
 var:(t.kind==4)=true→0≤t.n∧t.n<(vs.length:Int)∧(ak vs t.n).is=false
 len:t.args.length≤8
inductive Val (vs:List Va):Int→Term→Term→Prop
 |mk {d:Int} {t:Term} {k:Nat} {u:Term} {l:List Term} (hs:Hl vs d t k u) (hn:Yc vs u) (hl:l.length=u.args.length)
   (ha:∀ (i:Nat) (a w:Term),u.args[i]?=some a→l[i]?=some w→Val vs (inner u.kind d) a w):Val vs d t ⟨u.kind,u.n,u.name,l⟩
theorem lG (lv:Int):∀ (us pre:List Term),lH lv pre us=true↔(∀ u ∈ us,bF u=true∧(u.kind=3→lv≤u.n))∧(∀ u ∈ us,∀ b ∈ pre,isF u b=false)∧us.Pairwise (fun b u=>isF u b=false)
 |[],pre=>by simp [lH]
 |v::us,pre=>by
  rw [lH,Bool.and_eq_true,lG lv us (pre++[v]),List.pairwise_cons]
  unfold oO
  simp only [Bool.and_eq_true,Bool.not_eq_true',List.any_eq_false,Bool.and_eq_false_iff,beq_eq_false_iff_ne,decide_eq_false_iff_not,List.mem_cons,List.mem_append,List.not_mem_nil,or_false]
  constructor
  ·rintro ⟨⟨h1,h2,h3⟩,h4,h5,h6⟩
   refine ⟨?_,?_,fun u hu=>h5 u hu v (.inr rfl),h6⟩
   ·rintro u (rfl|hu)
    ·refine ⟨h1,fun h=>?_⟩
     rcases h2 with h2|h2
     ·exact absurd h h2
     ·omega
    ·exact h4 u hu
   ·rintro u (rfl|hu) b hb
    ·have:=h3 b hb;simpa using this
    ·exact h5 u hu b (.inl hb)
  ·rintro ⟨h1,h2,h3,h4⟩
   refine ⟨⟨(h1 v (.inl rfl)).1,?_,fun b hb=>by have:=h2 v (.inl rfl) b hb;simp [this]⟩,fun u hu=>h1 u (.inr hu),?_,h4⟩
   ·by_cases h:v.kind=3
    ·exact .inr (by have:=(h1 v (.inl rfl)).2 h;omega)
    ·exact .inl h
   ·rintro u hu b (hb|rfl)
    ·exact h2 u (.inr hu) b hb
    ·exact h3 u hu
theorem eP (us:List Term) (d:Int):∀ l:List Term,aC l us d=l.map fun t=>aH t us d
 |[]=>by rw [aC];rfl
 |t::l=>by rw [aC,eP us d l];rfl
theorem bT (vs:List Va) (d:Int):∀ l:List Term,dY vs l d=true↔∀ t ∈ l,aK vs t d=true
 |[]=>by simp [dY]
 |t::l=>by rw [dY,Bool.and_eq_true,bT vs d l];simp
theorem oG (vs:List Va) (lv:Int):∀ l:List Term,nA vs lv l=true↔∀ t ∈ l,gG vs lv t=true
 |[]=>by simp [nA]
 |t::l=>by rw [nA,Bool.and_eq_true,oG vs lv l];simp
theorem cO (vs:List Va) (t:Term) (d:Int):aK vs t d=(bg vs t.kind t.n t.name t.args d&&dY vs t.args (inner t.kind d)):=by obtain ⟨a,b,c,l⟩:=t;rw [aK]
theorem gX (t:Term) (us:List Term) (d:Int):aH t us d=⟨(aI t.kind t.n t.name us d).1,(aI t.kind t.n t.name us d).2.1,(aI t.kind t.n t.name us d).2.2,aC t.args us (inner t.kind d)⟩:=by obtain ⟨k,n,s,l⟩:=t;rw [aH]
theorem aS {u:Term} (h:bF u=true):(u.kind=2∨u.kind=3)∧u.args=[]:=by
 unfold bF at h
 simp only [Bool.and_eq_true,Bool.or_eq_true,beq_iff_eq] at h
 exact ⟨h.1,List.eq_nil_of_length_eq_zero (by omega)⟩
theorem Cy {vs:List Va} {u:Term} {d:Int} (hs:bF u=true) (hf:aK vs u d=true):fw d u:=by
 have hk:=aS hs
 rw [cO,Bool.and_eq_true] at hf
 have hh:=hf.1
 unfold bg aY at hh
 refine ⟨hs,?_,fun h2=>?_,fun h3=>?_⟩
 ·rcases hk.1 with e|e <;> · rw [e] at hh;simp at hh;simpa using hh.1
 ·rw [h2] at hh;simp at hh;omega
 ·rw [h3] at hh;simp at hh;omega
theorem ML {s:ByteArray} (h:s.toList=aB.toList):s.size=0:=by
 have:=congrArg List.length h
 rw [vU,vU] at this
 exact this
theorem CS {vs:List Va} {u:Term} {d:Int} (h:fw d u) (l:List Term) (hl:(l.length:Int)≤8):bg vs u.kind u.n u.name l d=true:=by
 obtain ⟨hs,hn,h2,h3⟩:=h
 have hz:=ML hn
 have hk:=aS hs
 unfold bg aY
 rw [hn,hz]
 rcases hk.1 with e|e
 ·have:=h2 e
  rw [e]
  simp
  omega
 ·have:=h3 e
  rw [e]
  simp
  omega
theorem XB {d j:Int} {u:Term} (h:fw d u) (hj:0≤j):fw (d+j) ⟨u.kind,if u.kind==2 then u.n+j else u.n,u.name,[]⟩:=by
 obtain ⟨hs,hn,h2,h3⟩:=h
 have hk:=aS hs
 refine ⟨?_,hn,fun e=>?_,fun e=>?_⟩
 ·unfold bF
  rcases hk.1 with e|e <;> · simp [e]
 ·have e':u.kind=2:=e
  have:=h2 e'
  simp only [e',beq_self_eq_true,if_true]
  omega
 ·have e':u.kind=3:=e
  have:=h3 e'
  simp only [e']
  simpa using this
structure zG (vs:List Va) (lv d:Int) (us:List Term):Prop where
 pos:0≤d
 args:∀ u ∈ us,fw d u
 high:∀ u ∈ us,u.kind=3→lv≤u.n
 pair:us.Pairwise (fun b u=>isF u b=false)
theorem bG {us:List Term} {i:Nat} (h:i<us.length):us.getD i aG ∈ us:=by
 rw [List.getD_eq_getElem?_getD,List.getElem?_eq_getElem h]
 exact List.getElem_mem h
theorem wS {us:List Term} (h:us.Pairwise (fun b u=>isF u b=false)) {i k:Nat} (hi:i<us.length) (hk:k<us.length) (hne:i≠k):isF (us.getD i aG) (us.getD k aG)=false:=by
 rw [List.getD_eq_getElem?_getD,List.getElem?_eq_getElem hi,List.getD_eq_getElem?_getD,List.getElem?_eq_getElem hk]
 simp only [Option.getD_some]
 rw [List.pairwise_iff_getElem] at h
 rcases Nat.lt_or_gt_of_ne hne with h1|h1
 ·have:=h i k hi hk h1
  unfold isF at this ⊢
  rw [Bool.and_eq_false_iff] at this ⊢
  rcases this with e|e
  ·left;rw [beq_eq_false_iff_ne] at e ⊢;exact fun x=>e x.symm
  ·right;rw [beq_eq_false_iff_ne] at e ⊢;exact fun x=>e x.symm
 ·exact h k i hk hi h1
inductive uH (us:List Term) (j:Int) (x:Term):Prop
 |same (h:(aI x.kind x.n x.name us j)=(x.kind,x.n,x.name)) (h2:x.kind=2→x.n<j)
 |put (h2:x.kind=2) (hj:j≤x.n) (i:Nat) (hi:i<us.length) (e:(i:Int)=us.length - 1 - (x.n - j)) (h:aI x.kind x.n x.name us j=((us.getD i aG).kind,(if (us.getD i aG).kind==2 then (us.getD i aG).n+j else (us.getD i aG).n),(us.getD i aG).name))
theorem sJ {us:List Term} {j:Int} {x:Term} (hx:x.kind=2→x.n<us.length+j):uH us j x:=by
 by_cases h2:x.kind=2
 ·by_cases hj:j≤x.n
  ·have:=hx h2
   obtain ⟨i,hi⟩:∃ i:Nat,(us.length:Int) - 1 - (x.n - j)=i:=⟨_,(Int.toNat_of_nonneg (by omega)).symm⟩
   refine .put h2 hj i (by omega) hi.symm ?_
   unfold aI
   rw [h2,show decide (x.n≥j)=true from decide_eq_true hj,hi,Int.toNat_natCast]
   rfl
  ·refine .same ?_ fun _=>by omega
   unfold aI
   rw [show decide (x.n≥j)=false from decide_eq_false (by omega),Bool.and_false]
   rfl
 ·refine .same ?_ fun h=>absurd h h2
  unfold aI
  rw [show (x.kind==2)=false by simpa using h2]
  rfl
theorem Nl {vs:List Va} {lv d:Int} {us:List Term} (hp:zG vs lv d us) {j:Int} {x:Term} (h:uH us j x):inner (aI x.kind x.n x.name us j).1 (d+j)=d+inner x.kind j:=by
 cases h with
 |same h _ =>
  rw [h];unfold inner;split <;> omega
 |put h2 hj i hi e h =>
  rw [h,h2]
  have:=(aS (hp.args _ (bG hi)).1).1
  unfold inner
  rcases this with e|e <;> rw [e] <;> simp
theorem P6 {vs:List Va} {lv d:Int} {us:List Term} (hp:zG vs lv d us) {j:Int} {x:Term} (h:uH us j x):((aI x.kind x.n x.name us j).1==4)=(x.kind==4):=by
 cases h with
 |same h _=>rw [h]
 |put h2 hj i hi e h =>
  rw [h,h2]
  have:=(aS (hp.args _ (bG hi)).1).1
  rcases this with e|e <;> rw [e] <;> rfl
theorem jl {a b:Term}:isF a b=false↔a.kind≠b.kind∨a.n≠b.n:=by
 unfold isF
 rw [Bool.and_eq_false_iff]
 simp
theorem DT {vs:List Va} {lv d:Int} {us:List Term} (hp:zG vs lv d us) {j:Int} (hj:0≤j) {x y:Term} (hx:uH us j x) (hy:uH us j y)
  (lx:x.kind=3→x.n<lv) (ly:y.kind=3→y.n<lv) (kx:x.kind=2∨x.kind=3) (ky:y.kind=2∨y.kind=3) (h:isF y x=false):isF (aH y us j) (aH x us j)=false:=by
 rw [jl] at h ⊢
 rw [gX,gX]
 simp only
 cases hx with
 |same ex bx =>
  cases hy with
  |same ey _=>rw [ex,ey];exact h
  |put h2 hjy i hi e ey =>
   rw [ex,ey]
   have hu:=hp.args _ (bG hi)
   have hh:=hp.high _ (bG hi)
   generalize us.getD i aG=u at *
   simp only
   rcases (aS hu.1).1 with k2|k3
   ·have:=hu.2.2.1 k2
    rw [k2]
    rcases kx with e2|e3
    ·have:=bx e2
     right;simp;omega
    ·left;rw [e3];decide
   ·have:=hh k3
    rw [k3]
    rcases kx with e2|e3
    ·left;rw [e2];decide
    ·have:=lx e3
     right;simp;omega
 |put h2x hjx i hi e ex =>
  have hu:=hp.args _ (bG hi)
  have hh:=hp.high _ (bG hi)
  cases hy with
  |same ey byy =>
   rw [ex,ey]
   generalize us.getD i aG=u at *
   simp only
   rcases (aS hu.1).1 with k2|k3
   ·have:=hu.2.2.1 k2
    rw [k2]
    rcases ky with e2|e3
    ·have:=byy e2
     right;simp;omega
    ·left;rw [e3];decide
   ·have:=hh k3
    rw [k3]
    rcases ky with e2|e3
    ·left;rw [e2];decide
    ·have:=ly e3
     right;simp;omega
  |put h2y hjy i' hi' e' ey =>
   rw [ex,ey]
   have hne:i'≠i:=by
    intro h3
    subst h3
    rcases h with h|h
    ·exact h (h2y.trans h2x.symm)
    ·exact h (by omega)
   have hd:=wS hp.pair hi' hi hne
   rw [jl] at hd
   generalize us.getD i aG=u at *
   generalize us.getD i' aG=w at *
   simp only
   by_cases hk:w.kind=u.kind
   ·right
    have hn:w.n≠u.n:=by rcases hd with h|h;exact absurd hk h;exact h
    rw [hk]
    split <;> omega
   ·exact .inl hk
theorem Ih {vs:List Va} {lv:Int} {x:Term} (h:gG vs lv x=true):x.kind=3→x.n<lv:=by
 intro e
 rw [sD,Bool.and_eq_true] at h
 have h1:=h.1
 unfold iB at h1
 rw [e] at h1
 simp at h1
 omega
theorem gV {vs:List Va} {x:Term} {m:Int} (h:aK vs x m=true):x.kind=2→0≤x.n∧x.n<m:=by
 intro e
 rw [cO,Bool.and_eq_true] at h
 have h1:=h.1
 unfold bg aY at h1
 rw [e] at h1
 simp at h1
 omega
theorem F8 {vs:List Va} {lv d:Int} {us:List Term} (hp:zG vs lv d us) {j:Int} (hj:0≤j) {v:Va} {l:List Term} (hlv:v.level≤lv)
  (hl:dx v l=true) (hf:∀ t ∈ l,aK vs t (us.length+j)=true) (hs:∀ t ∈ l,gG vs lv t=true):dx v (aC l us j)=true:=by
 unfold dx at hl ⊢
 rw [Bool.and_eq_true] at hl ⊢
 refine ⟨by rw [bW];exact hl.1,?_⟩
 obtain ⟨h1,_,h3⟩:=(lG _ _ _).1 hl.2
 have hto:∀ t ∈ l,uH us j t:=fun t ht=>sJ fun h2=>(gV (hf t ht) h2).2
 refine (lG _ _ _).2 ⟨?_,fun u _ b hb=>absurd hb List.not_mem_nil,?_⟩
 ·rw [eP]
  intro u hu
  obtain ⟨x,hx,rfl⟩:=List.mem_map.1 hu
  have hsx:=(h1 x hx).1
  have hnil:=(aS hsx).2
  rw [gX,hnil]
  cases hto x hx with
  |same e _ =>
   rw [e]
   refine ⟨?_,fun h3=>(h1 x hx).2 h3⟩
   unfold bF at hsx ⊢
   rw [hnil] at hsx
   simpa [aC] using hsx
  |put h2 hjx i hi e ey =>
   rw [ey]
   have hu:=hp.args _ (bG hi)
   have hh:=hp.high _ (bG hi)
   generalize us.getD i aG=w at *
   refine ⟨?_,fun h3=>?_⟩
   ·unfold bF
    rcases (aS hu.1).1 with e|e <;> · rw [e];simp [aC]
   ·have h3':w.kind=3:=h3
    have:=hh h3'
    simp only [h3']
    simp;omega
 ·rw [eP,List.pairwise_map]
  refine List.Pairwise.imp_of_mem ?_ h3
  intro x y hx hy hxy
  exact DT hp hj (hto x hx) (hto y hy) (Ih (hs x hx)) (Ih (hs y hy)) (aS (h1 x hx).1).1 (aS (h1 y hy).1).1 hxy
mutual
theorem fQ {vs:List Va} {lv d:Int} {us:List Term} (hp:zG vs lv d us):∀ (b:Term) (j:Int),0≤j→aK vs b (us.length+j)=true→gG vs lv b=true→aK vs (aH b us j) (d+j)=true
 |⟨k,n,s,l⟩,j,hj,hf,hs=>by
  have hf':=hf
  rw [aK,Bool.and_eq_true] at hf
  rw [gG,Bool.and_eq_true] at hs
  have hto:uH us j ⟨k,n,s,l⟩:=sJ fun h2=>(gV hf' h2).2
  have hin:=Nl hp hto
  have hL:=ww hp l (inner k j) (by unfold inner;split <;> omega) (by
   have:inner k ((us.length:Int)+j)=us.length+inner k j:=by unfold inner;split <;> omega
   rw [← this];exact hf.2) hs.2
  simp only at hin
  rw [aH,aK,hin,hL,Bool.and_true]
  have hlen:(l.length:Int)≤8:=by
   have:=hf.1
   unfold bg at this
   simp only [Bool.and_eq_true,Bool.not_eq_true',decide_eq_false_iff_not] at this
   omega
  cases hto with
  |put h2 hjx i hi e ey =>
   simp only at ey
   rw [ey]
   have:=CS (vs:=vs) (XB (hp.args _ (bG hi)) hj) (aC l us (inner k j)) (by rw [bW];exact hlen)
   exact this
  |same ex bx =>
   simp only at ex
   rw [ex]
   have h1:=hf.1
   unfold bg at h1 ⊢
   rw [bW]
   simp only [Bool.and_eq_true] at h1 ⊢
   refine ⟨h1.1,h1.2.1,h1.2.2.1,?_⟩
   have ht:=h1.2.2.2
   unfold aY at ht ⊢
   rw [bW]
   by_cases k1:k=1
   ·subst k1;simpa using ht
   by_cases k2:k=2
   ·subst k2
    have hb:=bx rfl
    have hb':n<j:=hb
    have:=gV hf' rfl
    have h0:0≤n:=this.1
    have hd:=hp.pos
    simp at ht ⊢
    omega
   by_cases k3:k=3
   ·subst k3;simpa using ht
   by_cases k5:k=5
   ·subst k5;simpa using ht
   by_cases k4:k=4
   ·subst k4
    simp at ht ⊢
    refine ⟨ht.1,ht.2.1,?_⟩
    refine F8 hp hj ?_ ht.2.2 ?_ ?_
    ·have:=hs.1
     unfold iB at this
     simp at this
     exact this
    ·have h2:=hf.2
     exact (bT vs _ l).1 h2
    ·exact (oG vs lv l).1 hs.2
   ·have e:aY vs k n l ((us.length:Int)+j)=false:=by unfold aY;simp [k1,k2,k3,k4,k5]
    unfold aY at e
    rw [e] at ht
    cases ht
theorem ww {vs:List Va} {lv d:Int} {us:List Term} (hp:zG vs lv d us):∀ (l:List Term) (j:Int),0≤j→dY vs l (us.length+j)=true→nA vs lv l=true→dY vs (aC l us j) (d+j)=true
 |[],j,hj,hf,hs=>by rw [aC,dY]
 |t::l,j,hj,hf,hs=>by
  rw [dY,Bool.and_eq_true] at hf
  rw [nA,Bool.and_eq_true] at hs
  rw [aC,dY,fQ hp t j hj hf.1 hs.1,ww hp l j hj hf.2 hs.2];rfl
end
mutual
def kT (vs:List Va):Term→Bool
 |⟨k,n,_,l⟩=>!(k==4&&(ak vs n).is)&&kS vs l
def kS (vs:List Va):List Term→Bool
 |[]=>true
 |t::ts=>kT vs t&&kS vs ts
end
theorem wT (vs:List Va) (t:Term):kT vs t=(!(t.kind==4&&(ak vs t.n).is)&&kS vs t.args):=by obtain ⟨a,b,c,l⟩:=t;rw [kT]
theorem pR (vs:List Va):∀ l:List Term,kS vs l=true↔∀ t ∈ l,kT vs t=true
 |[]=>by simp [kS]
 |t::l=>by rw [kS,Bool.and_eq_true,pR vs l];simp
theorem lU {vs:List Va} {t:Term} {d:Int} (h:aK vs t d=true):t.args.length≤8:=by
 rw [cO,Bool.and_eq_true] at h
 have h1:=h.1
 unfold bg at h1
 simp only [Bool.and_eq_true,Bool.not_eq_true',decide_eq_false_iff_not] at h1
 omega
theorem pX {vs:List Va} {t:Term} {d:Int} (h:aK vs t d=true) (h4:(t.kind==4)=true):0≤t.n∧t.n<(vs.length:Int)∧dx (ak vs t.n) t.args=true:=by
 rw [cO,Bool.and_eq_true] at h
 have h1:=h.1
 have e:t.kind=4:=by simpa using h4
 unfold bg aY at h1
 rw [e] at h1
 simp at h1
 exact ⟨h1.2.2.2.1,by omega,h1.2.2.2.2.2⟩
theorem FT {vs:List Va} {u:Term} (h:bF u=true):kT vs u=true:=by
 have hk:=aS h
 rw [wT,hk.2]
 rcases hk.1 with e|e <;> rw [e] <;> rfl
theorem lN {v:Va} {l:List Term} (h:dx v l=true):(∀ u ∈ l,bF u=true∧(u.kind=3→v.level≤u.n))∧l.Pairwise (fun b u=>isF u b=false)∧aX v.type=l.length:=by
 unfold dx at h
 rw [Bool.and_eq_true] at h
 obtain ⟨h1,_,h3⟩:=(lG _ _ _).1 h.2
 refine ⟨h1,h3,?_⟩
 have:=h.1
 simp only [beq_iff_eq] at this
 omega
theorem O4 {vs:List Va}:∀ (s:Nat) (v:Term) (d:Int),v.size≤s→aK vs v d=true→kT vs v=true→Val vs d v v:=by
 intro s
 induction s with
 |zero=>intro v d hs;obtain ⟨a,b,c,l⟩:=v;rw [Term.size] at hs;omega
 |succ s ih =>
  intro v d hs hf hn
  rw [wT,Bool.and_eq_true] at hn
  have hf':=hf
  rw [cO,Bool.and_eq_true] at hf'
  have hL:=(bT _ _ _).1 hf'.2
  have hN:=(pR _ _).1 hn.2
  have:Val vs d v ⟨v.kind,v.n,v.name,v.args⟩:=by
   refine .mk .zero ⟨fun h4=>?_,lU hf⟩ rfl fun i a w ha hw=>?_
   ·have:=pX hf h4
    refine ⟨this.1,this.2.1,?_⟩
    have h1:=hn.1
    rw [h4] at h1
    simpa using h1
   ·rw [ha] at hw
    injection hw with hw
    subst hw
    have hm:=List.mem_of_getElem? ha
    have:=fF v i ha
    exact ih a _ (by omega) (hL a hm) (hN a hm)
  obtain ⟨a,b,c,l⟩:=v
  exact this
theorem Hr {vs:List Va} {d:Int} {t v:Term} (h4:(t.kind==4)=true) (hi:(ak vs t.n).is=true) (ok:OH vs d t) (h:Val vs d (aH (dJ vs t) t.args 0) v):Val vs d t v:=by
 cases h with
 |mk hs hn hl ha=>exact .mk (.succ h4 hi ok hs) hn hl ha
def Good (vs:List Va) (d:Int) (t v:Term):Prop:=Val vs d t v∧aK vs v d=true∧kT vs v=true
def OL (vs:List Va) (n:Int):Prop:=∀ (us:List Term) (s:ByteArray) (d:Int),0≤d→aK vs ⟨4,n,s,us⟩ d=true→∃ v,Good vs d ⟨4,n,s,us⟩ v
theorem cz {k:Int} {d:Int} (h:0≤d):0≤inner k d:=by unfold inner;split <;> omega
mutual
theorem uP {vs:List Va}:∀ (t:Term) (d:Int),0≤d→aK vs t d=true→(∀ k ∈ bQ t,OL vs k)→∃ v,Good vs d t v
 |⟨k,n,s,l⟩,d,hd,hf,hk=>by
  rw [bQ] at hk
  cases h4:(k==4)
  ·rw [h4] at hk
   simp only [Bool.false_eq_true,if_false] at hk
   have hf':=hf
   rw [aK,Bool.and_eq_true] at hf'
   obtain ⟨l',hl,hv,hf2,hn2⟩:=xE l (inner k d) (cz hd) hf'.2 hk
   refine ⟨⟨k,n,s,l'⟩,?_,?_,?_⟩
   ·exact .mk (u:=⟨k,n,s,l⟩) .zero ⟨fun h=>absurd (show (k==4)=true from h) (by rw [h4];decide),lU hf⟩ hl hv
   ·rw [aK,hf2,Bool.and_true]
    have h1:=hf'.1
    unfold bg aY at h1 ⊢
    rw [hl]
    have k4:¬ k=4:=by simpa using h4
    simp only [h4] at h1 ⊢
    exact h1
   ·rw [kT,h4,hn2];rfl
  ·have e:k=4:=by simpa using h4
   subst e
   exact hk n (by simp) l s d hd hf
theorem xE {vs:List Va}:∀ (l:List Term) (d:Int),0≤d→dY vs l d=true→(∀ k ∈ di l,OL vs k)→∃ l':List Term,l'.length=l.length∧(∀ (i:Nat) (a w:Term),l[i]?=some a→l'[i]?=some w→Val vs d a w)∧dY vs l' d=true∧kS vs l'=true
 |[],d,hd,hf,hk=>⟨[],rfl,fun i a w ha=>by simp at ha,by rw [dY],by rw [kS]⟩
 |t::l,d,hd,hf,hk=>by
  rw [dY,Bool.and_eq_true] at hf
  rw [di] at hk
  obtain ⟨v,hv,hf1,hn1⟩:=uP t d hd hf.1 fun k hk'=>hk k (List.mem_append.2 (.inl hk'))
  obtain ⟨l',hl,hv',hf2,hn2⟩:=xE l d hd hf.2 fun k hk'=>hk k (List.mem_append.2 (.inr hk'))
  refine ⟨v::l',by simp [hl],fun i a w ha hw=>?_,by rw [dY,hf1,hf2];rfl,by rw [kS,hn1,hn2];rfl⟩
  cases i with
  |zero =>
   simp only [List.getElem?_cons_zero,Option.some.injEq] at ha hw
   subst ha;subst hw;exact hv
  |succ i =>
   simp only [List.getElem?_cons_succ] at ha hw
   exact hv' i a w ha hw
end
mutual
theorem nT {vs:List Va} {lv d:Int} {us:List Term} (hp:zG vs lv d us):∀ (b:Term) (j:Int),aK vs b (us.length+j)=true→∀ k ∈ bQ (aH b us j),k ∈ bQ b
 |⟨k,n,s,l⟩,j,hf,m,hm=>by
  have hto:uH us j ⟨k,n,s,l⟩:=sJ fun h2=>(gV hf h2).2
  have hk:=P6 hp hto
  simp only at hk
  rw [aH,bQ,hk] at hm
  rw [bQ]
  rw [aK,Bool.and_eq_true] at hf
  cases h4:(k==4)
  ·rw [h4] at hm
   simp only [Bool.false_eq_true,if_false] at hm ⊢
   refine qL hp l (inner k j) ?_ m hm
   have:inner k ((us.length:Int)+j)=us.length+inner k j:=by unfold inner;split <;> omega
   rw [← this];exact hf.2
  ·rw [h4] at hm
   simp only [if_true] at hm ⊢
   cases hto with
   |same e _=>simp only at e;rw [e] at hm;exact hm
   |put h2 hj i hi e ey =>
    have e4:k=4:=by simpa using h4
    have e2:k=2:=h2
    omega
theorem qL {vs:List Va} {lv d:Int} {us:List Term} (hp:zG vs lv d us):∀ (l:List Term) (j:Int),dY vs l (us.length+j)=true→∀ k ∈ di (aC l us j),k ∈ di l
 |[],j,hf,m,hm=>by rw [aC] at hm;exact hm
 |t::l,j,hf,m,hm=>by
  rw [dY,Bool.and_eq_true] at hf
  rw [aC,di] at hm
  rw [di]
  rcases List.mem_append.1 hm with hm|hm
  ·exact List.mem_append.2 (.inl (nT hp t j hf.1 m hm))
  ·exact List.mem_append.2 (.inr (qL hp l j hf.2 m hm))
end
theorem lD:∀ (n:Nat) (t:Term),(eD n t).2=true→∀ k ∈ bQ (eD n t).1,k ∈ bQ t
 |0,t,_,k,hk=>by rw [eD] at hk;exact hk
 |n+1,t,h,k,hk=>by
  rw [eD] at h hk
  cases hn:wC t
  ·rw [hn] at h hk
   simp only [Bool.false_eq_true,if_false] at h hk
   obtain ⟨u,hu⟩:=mJ hn
   have h4:=vB hn
   rw [hu] at h hk
   simp only [List.headD_cons] at h hk
   have:=lD n u h k hk
   obtain ⟨a,b,c,l⟩:=t
   simp only at hu h4
   subst hu
   rw [bQ,h4,di,di]
   simpa using this
  ·rw [hn] at h;simp at h
mutual
theorem yH {vs:List Va}:∀ (b:Term) (m:Nat) (j:Int),aK vs b (m+j)=true→tF b m j=true
 |⟨k,n,s,l⟩,m,j,hf=>by
  have hb:=gV hf
  rw [aK,Bool.and_eq_true] at hf
  rw [tF,Bool.and_eq_true]
  refine ⟨?_,?_⟩
  ·by_cases e:k=2
   ·have:=hb e
    simp only at this
    simp;right;omega
   ·simp [e]
  ·refine Az (vs:=vs) l m (inner k j) ?_
   have:inner k ((m:Int)+j)=m+inner k j:=by unfold inner;split <;> omega
   rw [← this];exact hf.2
theorem Az {vs:List Va}:∀ (l:List Term) (m:Nat) (j:Int),dY vs l (m+j)=true→nR l m j=true
 |[],m,j,hf=>by rw [nR]
 |t::l,m,j,hf=>by
  rw [dY,Bool.and_eq_true] at hf
  rw [nR,yH t m j hf.1,Az l m j hf.2];rfl
end
theorem step_ok {vs:List Va} (hc:bi vs=0) {t:Term} {d:Int} (hd:0≤d) (hf:aK vs t d=true) (h4:(t.kind==4)=true) (hi:(ak vs t.n).is=true) :
  OH vs d t∧zG vs (ak vs t.n).level d t.args∧aK vs (dJ vs t) t.args.length=true∧gG vs (ak vs t.n).level (dJ vs t)=true:=by
 unfold bi at hc
 split at hc
 ·cases hc
 ·split at hc
  ·cases hc
  ·rename_i hl
   have hl':qX vs 4000=false:=by simpa using hl
   split at hc
   ·rename_i hall
    rw [List.all_eq_true] at hall
    have hv:=pX hf h4
    have hpat:=lN hv.2.2
    have hmem:=rZ hi
    have hva:=hall _ hmem
    have hsz:=kJ vs 4000 hl' _ hmem hi
    unfold mG at hva
    rw [hi,Bool.and_eq_true] at hva
    have h2:=hva.2
    simp only [if_true] at h2
    rw [hpat.2.2] at h2
    unfold inF at h2
    simp only [Bool.and_eq_true] at h2
    obtain ⟨hb,_,hfb,hsb⟩:=h2
    have hf':=hf
    rw [cO,Bool.and_eq_true] at hf'
    have hin:inner t.kind d=d:=by
     have:t.kind=4:=by simpa using h4
     unfold inner;rw [this];rfl
    rw [hin] at hf'
    have hargs:∀ u ∈ t.args,fw d u:=fun u hu=>Cy (hpat.1 u hu).1 ((bT _ _ _).1 hf'.2 u hu)
    refine ⟨⟨hv.1,hv.2.1,by omega,hb,?_,hargs,lU hf⟩,⟨hd,hargs,fun u hu=>(hpat.1 u hu).2,hpat.2.1⟩,hfb,hsb⟩
    exact yH _ _ 0 (by rw [Int.add_zero];exact hfb)
   ·cases hc
theorem Uy {vs:List Va} (hc:bi vs=0) {n:Int} (ha:Acc (Edge vs) n):OL vs n:=by
 induction ha with
 |intro n _ ih =>
  intro us s d hd hf
  cases hi:(ak vs n).is
  ·have hv:=pX hf rfl
   have hpat:=lN hv.2.2
   have hn:kT vs ⟨4,n,s,us⟩=true:=by
    rw [kT,hi,Bool.and_false,Bool.not_false,Bool.true_and]
    exact (pR _ _).2 fun u hu=>FT (hpat.1 u hu).1
   exact ⟨_,O4 _ _ d (Nat.le_refl _) hf hn,hf,hn⟩
  ·obtain ⟨ok,hp,hfb,hsb⟩:=step_ok hc (t:=⟨4,n,s,us⟩) hd hf rfl hi
   have hff:=fQ hp (dJ vs ⟨4,n,s,us⟩) 0 (Int.le_refl _) (by rw [Int.add_zero];exact hfb) hsb
   rw [Int.add_zero] at hff
   obtain ⟨v,hv,h1,h2⟩:=uP _ d hd hff fun k hk=>ih k ⟨hi,lD _ _ ok.body k (nT hp _ 0 (by rw [Int.add_zero];exact hfb) k hk)⟩
   exact ⟨v,Hr rfl hi ok hv,h1,h2⟩
theorem mO {vs:List Va} (hc:bi vs=0) {t:Term} {d:Int} (hd:0≤d) (hf:aK vs t d=true):∃ v,Good vs d t v:=by
 have hc':=hc
 unfold bi at hc'
 split at hc'
 ·cases hc'
 ·split at hc'
  ·cases hc'
  ·rename_i hl
   have hl':qX vs 4000=false:=by simpa using hl
   split at hc'
   ·rename_i hall
    split at hc'
    ·cases hc'
    ·rename_i hcirc
     have hacc:=(yX (Gx vs hl' hall).plain).1 (by simpa using hcirc)
     have hvars:=ng _ _ ((sZ vs _).1 t d (Nat.le_refl _) hf)
     refine uP t d hd hf fun k hk=>?_
     have:=hvars k hk
     have h2:=hacc k.toNat (by omega)
     rw [Int.toNat_of_nonneg this.1] at h2
     exact Uy hc h2
   ·cases hc'
end Go.Proofs.YthkjmiejaoomcaaGreat.Am
