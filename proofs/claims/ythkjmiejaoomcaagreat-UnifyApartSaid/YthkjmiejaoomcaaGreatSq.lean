/- Part of the proof of a law of layer 5: own texts, joined. -/
import Derived.Test.YthkjmiejaoomcaaGreatSo
import Derived.Test.YthkjmiejaoomcaaGreatSp
import Derived.Test.YthkjmiejaoomcaaGreatSi
import Derived.Laws.Strings
set_option linter.unusedVariables false
set_option linter.unusedSimpArgs false
set_option linter.unnecessarySimpa false
namespace Go.Proofs.YthkjmiejaoomcaaGreat.Am
open Go Go.RowKit Go.Proofs
set_option linter.unusedVariables false
set_option linter.unusedSimpArgs false
inductive Rz (α:Type) where
 |ok (a:α)
 |clash
 |large (e:Int)
def Rz.bind {α β:Type} (r:Rz α) (f:α→Rz β):Rz β:=match r with
 |.ok a=>f a
 |.clash=>.clash
 |.large e=>.large e
structure Sv where
 ms:List Va
 wk:Int
abbrev sBnd (n:Int):Term:=⟨2,n,zAr,[]⟩
abbrev sVar (n:Int) (l:List Term):Term:=⟨4,n,zAr,l⟩
def nmsF (v:Va):List ByteArray:=(zD2 v.type).getD []
theorem zKw (v:Va):(nmsF v).length=zBg v.type:=rfl
inductive zMs (ms:List Va):Nat→Term→Term→Prop
 |done {t:Term} (h:(t.kind==4&&(zAi ms t.n).is)=false):zMs ms 0 t t
 |step {t u:Term} {k:Nat} (h4:(t.kind==4)=true) (hi:(zAi ms t.n).is=true) (hs:zMs ms k (zB5 (zC4 ms t) t.args 0) u):zMs ms (k+1) t u
theorem zMs.det {ms:List Va} {t u:Term} {k:Nat} (h:zMs ms k t u):∀ {w:Term} {j:Nat},zMs ms j t w→u=w:=by
 induction h with
 |done h =>
  intro w j k
  cases k with
  |done _=>rfl
  |step h4 hi _=>rw [h4,hi] at h;cases h
 |step h4 hi _ ih =>
  intro w j k
  cases k with
  |done h=>rw [h4,hi] at h;cases h
  |step _ _ hs=>exact ih hs
noncomputable def zEx (ms:List Va) (t:Term):Term:=@dite _ (∃ u k,zMs ms k t u) (Classical.propDecidable _) (fun h=>Classical.choose h) (fun _=>t)
theorem head_eq {ms:List Va} {t u:Term} {k:Nat} (h:zMs ms k t u):zEx ms t=u:=by
 have hx:∃ u k,zMs ms k t u:=⟨u,k,h⟩
 unfold zEx
 rw [dif_pos hx]
 obtain ⟨j,hj⟩:=Classical.choose_spec hx
 exact hj.det h
def zGh (s:Sv) (deep:Int):Rz Sv:=if decide (s.wk+1>40000) then .large 2 else if decide (deep>400) then .large 5 else .ok ⟨s.ms,s.wk+1⟩
def zE0 (s:Sv) (lv:Int) (ty:Ty):Rz (Sv × Int):=if decide ((s.ms.length:Int)≥2000) then .large 2 else .ok (⟨s.ms++[zJi lv ty],s.wk⟩,s.ms.length)
def zDh:Nat→Term→Term
 |0,t=>t
 |n+1,t=>zDh n ⟨5,0,zAr,[t]⟩
def zQ4 (v:Va) (b:Term):Va:=⟨v.level,v.type,true,zDh (zBg v.type) b⟩
def zH8 (s:Sv) (n:Int) (b:Term):Sv:=⟨s.ms.set n.toNat (zQ4 (zAi s.ms n) b),s.wk⟩
def zBp:List ByteArray→Ty→Ty
 |[],to=>to
 |a::l,to=>⟨⟨#[45,62]⟩,[⟨a,[]⟩,zBp l to]⟩
def zKl:List Term→Term→Nat→Option Nat
 |[],_,_=>none
 |a::l,y,i=>if isF a y then some i else zKl l y (i+1)
def zGi (us:List Term) (y:Term) (d:Int):Term × Bool:=match zKl us y 0 with
 |some i=>(sBnd ((us.length:Int) - 1 - i+d),true)
 |none=>(y,false)
def zDe (lv:Int) (us:List Term) (y:Term) (d:Int):Term × Bool :=
 if y.kind==2 then (if decide (y.n<d) then (y,true) else zGi us ⟨y.kind,y.n - d,y.name,y.args⟩ d)
 else if y.kind==3&&decide (y.n<lv) then (y,true) else zGi us y d
def zGe (lv:Int) (us:List Term) (d:Int):List Term→Nat→List Nat × List Term
 |[],_=>([],[])
 |y::l,i=>if (zDe lv us y d).2 then (i::(zGe lv us d l (i+1)).1,(zDe lv us y d).1::(zGe lv us d l (i+1)).2) else zGe lv us d l (i+1)
def zQa (olv wlv:Int) (a:Term):Bool:=a.kind==3&&(decide (a.n<wlv)&&decide (a.n≥olv))
def zEm (olv wlv:Int):List Term→Nat→List (Nat × Term)
 |[],_=>[]
 |a::l,i=>if zQa olv wlv a then (i,a)::zEm olv wlv l (i+1) else zEm olv wlv l (i+1)
def zCm (n:Nat) (keep:List Nat):List Term:=keep.map fun (k:Nat)=>sBnd ((n:Int) - 1 - (k:Int))
def zA7 (l:List ByteArray) (keep:List Nat):List ByteArray:=keep.map fun k=>l.getD k zAr
def zI6 (s:Sv) (v t:Term) (d:Int):Rz (Sv × Term) :=
 if t.n==v.n then .clash else
 let own:=zAi s.ms v.n
 let w:=zAi s.ms t.n
 let kp:=zGe own.level v.args d t.args 0
 let ex:=zEm own.level w.level v.args 0
 let out:=kp.2++ex.map fun p=>sBnd ((v.args.length:Int) - 1 - p.1+d)
 if (kp.1.length:Int)==(nmsF w).length&&decide (w.level≤own.level) then .ok (s,sVar t.n out)
 else if decide ((kp.1.length:Int)+ex.length>8) then .large 2
 else (zE0 s (min w.level own.level) (zBp (zA7 (nmsF w) kp.1++zA7 (nmsF own) (ex.map (·.1))) (zCe w.type))).bind fun r =>
  .ok (zH8 r.1 t.n (sVar r.2 (zCm (nmsF w).length kp.1++ex.map (·.2))),sVar r.2 out)
def mapS (g:Sv→Term→Rz (Sv × Term)):Sv→List Term→Rz (Sv × List Term)
 |s,[]=>.ok (s,[])
 |s,t::ts=>(g s t).bind fun r=>(mapS g r.1 ts).bind fun q=>.ok (q.1,r.2::q.2)
def zDy (k:Int):Bool:=k==2||k==3
noncomputable def zIz:Nat→Sv→Term→Term→Int→Int→Rz (Sv × Term)
 |0,_,_,_,_,_=>.large 5
 |f+1,s,v,t,d,deep=>(zGh s deep).bind fun s =>
  let t:=zEx s.ms t
  if t.kind==4 then zI6 s v t d
  else
   let o:=if zDy t.kind then zDe (zAi s.ms v.n).level v.args ⟨t.kind,t.n,zAr,[]⟩ d else (⟨t.kind,t.n,t.name,[]⟩,true)
   if o.2 then (mapS (fun s a=>zIz f s v a (inner t.kind d) (deep+1)) s t.args).bind fun r=>.ok (r.1,⟨o.1.kind,o.1.n,o.1.name,r.2⟩)
   else .clash
def zFi (s:Sv) (n:Int) (keep:List Nat):Rz Sv :=
 let v:=zAi s.ms n
 (zE0 s v.level (zBp (zA7 (nmsF v) keep) (zCe v.type))).bind fun r=>.ok (zH8 r.1 n (sVar r.2 (zCm (nmsF v).length keep)))
def zGa:List Term→List Term→Nat→List Nat
 |a::l,b::m,i=>if isF a b then i::zGa l m (i+1) else zGa l m (i+1)
 |_,_,_=>[]
def zGm (s:Sv) (a b:Term):Rz Sv:=if decide (((zGa a.args b.args 0).length:Int)<a.args.length) then zFi s a.n (zGa a.args b.args 0) else .ok s
noncomputable def zEy (s:Sv) (v t:Term):Rz Sv:=if t.kind==5 then .clash else (zIz 402 s v t 0 0).bind fun r=>.ok (zH8 r.1 v.n r.2)
def zH4 (g:Sv→Term→Term→Rz Sv):Sv→List Term→List Term→Rz Sv
 |s,a::l,b::m=>(g s a b).bind fun s=>zH4 g s l m
 |s,_,_=>.ok s
def zF9 (a b:Term):Bool:=!(a.kind==b.kind)||(!(a.n==b.n)||(!(a.name.toList==b.name.toList)||!((a.args.length:Int)==b.args.length)))
noncomputable def zDo:Nat→Sv→Term→Term→Int→Rz Sv
 |0,_,_,_,_=>.large 5
 |f+1,s,a,b,deep=>(zGh s deep).bind fun s =>
  let a:=zEx s.ms a
  let b:=zEx s.ms b
  if a.kind==4&&(b.kind==4&&a.n==b.n) then zGm s a b
  else if a.kind==4 then zEy s a b
  else if b.kind==4 then zEy s b a
  else if zF9 a b then .clash
  else zH4 (fun s a b=>zDo f s a b (deep+1)) s a.args b.args
end Go.Proofs.YthkjmiejaoomcaaGreat.Am
namespace Go.Proofs.YthkjmiejaoomcaaGreat.Am
open Go Go.RowKit Go.Proofs
set_option linter.unusedVariables false
set_option linter.unusedSimpArgs false
structure ExtS (ms ms':List Va):Prop where
 len:ms.length≤ms'.length
 lev:∀ n:Int,0≤n→n<(ms.length:Int)→(zAi ms' n).level=(zAi ms n).level
 typ:∀ n:Int,0≤n→n<(ms.length:Int)→(zAi ms' n).type=(zAi ms n).type
 kept:∀ n:Int,0≤n→n<(ms.length:Int)→(zAi ms n).is=true→zAi ms' n=zAi ms n
theorem ExtS.refl (ms:List Va):ExtS ms ms:=⟨Nat.le_refl _,fun _ _ _=>rfl,fun _ _ _=>rfl,fun _ _ _ _=>rfl⟩
theorem ExtS.trans {a b c:List Va} (h:ExtS a b) (k:ExtS b c):ExtS a c:=by
 have hl:=h.len
 refine ⟨Nat.le_trans h.len k.len,fun n h0 h1=>?_,fun n h0 h1=>?_,fun n h0 h1 hi=>?_⟩
 ·rw [k.lev n h0 (by omega),h.lev n h0 h1]
 ·rw [k.typ n h0 (by omega),h.typ n h0 h1]
 ·have:=h.kept n h0 h1 hi
  rw [k.kept n h0 (by omega) (by rw [this];exact hi),this]
theorem yC4 {ms ms':List Va} (e:ExtS ms ms') {k n:Int} {s:ByteArray} {l:List Term} {d:Int} (h:zBb ms k n s l d=true):zBb ms' k n s l d=true:=by
 unfold zBb zA4 at h ⊢
 by_cases h4:k=4
 ·subst h4
  have hl:=e.len
  simp only [Bool.and_eq_true,Bool.not_eq_true',decide_eq_false_iff_not] at h ⊢
  simp at h ⊢
  have a:=e.lev n (by omega) (by omega)
  have b:=e.typ n (by omega) (by omega)
  refine ⟨h.1,h.2.1,h.2.2.1,h.2.2.2.1,by omega,?_⟩
  have h5:=h.2.2.2.2.2
  unfold zBv at h5 ⊢
  rw [a,b];exact h5
 ·have:(k==4)=false:=by simpa using h4
  simp only [this] at h ⊢
  exact h
mutual
theorem zEa {ms ms':List Va} (e:ExtS ms ms'):∀ (t:Term) (d:Int),zAv ms t d=true→zAv ms' t d=true
 |⟨k,n,s,l⟩,d,h=>by
  rw [zAv,Bool.and_eq_true] at h ⊢
  exact ⟨yC4 e h.1,zW2 e l _ h.2⟩
theorem zW2 {ms ms':List Va} (e:ExtS ms ms'):∀ (l:List Term) (d:Int),zDb ms l d=true→zDb ms' l d=true
 |[],d,h=>by rw [zDb]
 |t::l,d,h=>by
  rw [zDb,Bool.and_eq_true] at h ⊢
  exact ⟨zEa e t d h.1,zW2 e l d h.2⟩
end
theorem z9k {ms:List Va} {k n:Int} {s:ByteArray} {l:List Term} {d:Int} (h:zBb ms k n s l d=true) (h4:k=4):0≤n∧n<(ms.length:Int):=by
 subst h4
 unfold zBb zA4 at h
 simp at h
 omega
mutual
theorem zLv {ms ms':List Va} (e:ExtS ms ms') {lv:Int}:∀ (t:Term) (d:Int),zAv ms t d=true→zEe ms lv t=true→zEe ms' lv t=true
 |⟨k,n,s,l⟩,d,hf,h=>by
  rw [zAv,Bool.and_eq_true] at hf
  rw [zEe,Bool.and_eq_true] at h ⊢
  refine ⟨?_,zVx e l _ hf.2 h.2⟩
  have h1:=h.1
  unfold zFg at h1 ⊢
  by_cases h4:k=4
  ·have:=z9k hf.1 h4
   rw [e.lev n this.1 this.2];exact h1
  ·have:(k==4)=false:=by simpa using h4
   simp only [this] at h1 ⊢
   exact h1
theorem zVx {ms ms':List Va} (e:ExtS ms ms') {lv:Int}:∀ (l:List Term) (d:Int),zDb ms l d=true→zHf ms lv l=true→zHf ms' lv l=true
 |[],d,_,h=>by rw [zHf]
 |t::l,d,hf,h=>by
  rw [zDb,Bool.and_eq_true] at hf
  rw [zHf,Bool.and_eq_true] at h ⊢
  exact ⟨zLv e t d hf.1 h.1,zVx e l d hf.2 h.2⟩
end
structure yEt (ms:List Va) (v:Va):Prop where
 ty:zFf v=true
 val:v.is=true→(zCw (zBg v.type) v.t).2=true∧zAv ms (zCw (zBg v.type) v.t).1 (zBg v.type)=true∧zEe ms v.level (zCw (zBg v.type) v.t).1=true∧v.t.size≤400000
 no:v.is=false→v.t.size≤400000
theorem yEt.ext {ms ms':List Va} (e:ExtS ms ms') {v:Va} (h:yEt ms v):yEt ms' v :=
 ⟨h.ty,fun hi=>⟨(h.val hi).1,zEa e _ _ (h.val hi).2.1,zLv e _ _ (h.val hi).2.1 (h.val hi).2.2.1,(h.val hi).2.2.2⟩,h.no⟩
def En (ms:List Va) (k n:Nat):Prop:=(ms.getD n noVa).is=true∧(k:Int) ∈ zBl (ms.getD n noVa).t
structure Inv (ms:List Va):Prop where
 len:ms.length≤2000
 val:∀ v ∈ ms,yEt ms v
 acc:∀ n,Acc (En ms) n
inductive Av (ms:List Va) (n:Nat):Nat→Prop
 |mk {k:Nat} (h:k≠n) (hs:∀ j,En ms j k→Av ms n j):Av ms n k
def AvT (ms:List Va) (n:Nat) (t:Term):Prop:=∀ k ∈ zBl t,0≤k∧Av ms n k.toNat
theorem zIn (ms:List Va) (n:Nat) (w:Va) (k:Nat):(ms.set n w).getD k noVa=if k=n∧n<ms.length then w else ms.getD k noVa:=by
 rw [List.getD_eq_getElem?_getD,List.getD_eq_getElem?_getD,List.getElem?_set]
 by_cases h:n=k
 ·subst h
  by_cases h2:n<ms.length
  ·simp [h2]
  ·simp [h2]
 ·rw [if_neg h,if_neg (fun e=>h e.1.symm)]
theorem zE6 (ms:List Va) (w:Va) (k:Nat):(ms++[w]).getD k noVa=if k=ms.length then w else ms.getD k noVa:=by
 rw [List.getD_eq_getElem?_getD,List.getD_eq_getElem?_getD]
 by_cases h:k<ms.length
 ·rw [List.getElem?_append_left h,if_neg (by omega)]
 ·rw [List.getElem?_append_right (by omega)]
  by_cases h2:k=ms.length
  ·subst h2;simp
  ·rw [if_neg h2,List.getElem?_eq_none (by simp;omega),List.getElem?_eq_none (by omega)]
theorem yIf {ms:List Va} {n:Int} {w:Va} (h0:0≤n) (h1:n<(ms.length:Int)) (hu:(zAi ms n).is=false) (hl:w.level=(zAi ms n).level) (ht:w.type=(zAi ms n).type):ExtS ms (ms.set n.toNat w):=by
 have key:∀ m:Int,zAi (ms.set n.toNat w) m=if m.toNat=n.toNat∧n.toNat<ms.length then w else zAi ms m:=fun m=>zIn ms n.toNat w m.toNat
 refine ⟨by rw [List.length_set];exact Nat.le_refl _,fun m m0 m1=>?_,fun m m0 m1=>?_,fun m m0 m1 hi=>?_⟩
 ·rw [key]
  split
  ·rename_i h;obtain rfl:m=n:=by omega
   exact hl
  ·rfl
 ·rw [key]
  split
  ·rename_i h;obtain rfl:m=n:=by omega
   exact ht
  ·rfl
 ·rw [key]
  split
  ·rename_i h;obtain rfl:m=n:=by omega
   rw [hu] at hi;cases hi
  ·rfl
theorem zNl (ms:List Va) (w:Va):ExtS ms (ms++[w]):=by
 have key:∀ m:Int,0≤m→m<(ms.length:Int)→zAi (ms++[w]) m=zAi ms m:=fun m h0 h1=>by
  show (ms++[w]).getD m.toNat noVa=ms.getD m.toNat noVa
  rw [zE6,if_neg (by omega)]
 exact ⟨by simp,fun m h0 h1=>by rw [key m h0 h1],fun m h0 h1=>by rw [key m h0 h1],fun m h0 h1 _=>key m h0 h1⟩
theorem zXc {ms:List Va} {w:Va} (hw:w.is=false) {k n:Nat}:En (ms++[w]) k n↔En ms k n:=by
 unfold En
 rw [zE6]
 by_cases h:n=ms.length
 ·rw [if_pos h,hw]
  subst h
  rw [List.getD_eq_getElem?_getD,List.getElem?_eq_none (Nat.le_refl _)]
  exact Iff.intro (fun h=>absurd h.1 (by decide)) (fun h=>absurd h.1 (by simp [noVa]))
 ·rw [if_neg h]
theorem z4y {ms:List Va} {w:Va} (hw:w.is=false) (h:∀ n,Acc (En ms) n):∀ n,Acc (En (ms++[w])) n:=fun n=>by
 induction h n with
 |intro n _ ih=>exact .intro _ fun j hj=>ih j ((zXc hw).1 hj)
theorem yAq {ms:List Va} {w:Va} (hw:w.is=false) {n k:Nat} (h:Av ms n k):Av (ms++[w]) n k:=by
 induction h with
 |mk h _ ih=>exact .mk h fun j hj=>ih j ((zXc hw).1 hj)
theorem zQt {ms:List Va} {n:Nat} {w:Va} {j k:Nat} (h:k≠n):En (ms.set n w) j k↔En ms j k:=by
 unfold En
 rw [zIn,if_neg (fun e=>h e.1)]
theorem yIy {ms:List Va} {n:Nat} {w:Va} (hn:n<ms.length) (hb:∀ k:Nat,(k:Int) ∈ zBl w.t→Av ms n k) (h:∀ k,Acc (En ms) k):∀ k,Acc (En (ms.set n w)) k:=by
 have s1:∀ k,Av ms n k→Acc (En (ms.set n w)) k:=fun k hk=>by
  induction hk with
  |mk hne _ ih=>exact .intro _ fun j hj=>ih j ((zQt hne).1 hj)
 have s2:Acc (En (ms.set n w)) n:=.intro _ fun j hj=>by
  unfold En at hj
  rw [zIn,if_pos ⟨rfl,hn⟩] at hj
  exact s1 j (hb j hj.2)
 intro k
 induction h k with
 |intro k _ ih =>
  by_cases e:k=n
  ·subst e;exact s2
  ·exact .intro _ fun j hj=>ih j ((zQt e).1 hj)
theorem yNb {ms:List Va} {v n:Nat} {w:Va} (hne:n≠v) (hn:n<ms.length) (hb:∀ k:Nat,(k:Int) ∈ zBl w.t→Av (ms.set n w) v k) {k:Nat} (h:Av ms v k):Av (ms.set n w) v k:=by
 induction h with
 |@mk k h _ ih =>
  by_cases e:k=n
  ·subst e
   refine .mk h fun j hj=>?_
   unfold En at hj
   rw [zIn,if_pos ⟨rfl,hn⟩] at hj
   exact hb j hj.2
  ·exact .mk h fun j hj=>ih j ((zQt e).1 hj)
theorem z1k:∀ (n:Nat) (t:Term),zDh n ⟨5,0,zAr,[t]⟩=⟨5,0,zAr,[zDh n t]⟩
 |0,t=>rfl
 |n+1,t=>by rw [zDh,zDh,z1k n]
theorem zXp:∀ (n:Nat) (t:Term),zCw n (zDh n t)=(t,t.kind != 5)
 |0,t=>rfl
 |n+1,t=>by
  rw [zDh,z1k,zCw]
  have:zKv ⟨5,0,zAr,[zDh n t]⟩=false:=by simp [zKv]
  rw [this]
  simp only [Bool.false_eq_true,if_false,List.headD_cons]
  exact zXp n t
theorem zPk:∀ (n:Nat) (t:Term),(zDh n t).size=t.size+n
 |0,t=>rfl
 |n+1,t=>by rw [zDh,zPk n,Term.size,sizes,sizes];omega
theorem zLa:∀ (n:Nat) (t:Term),zBl (zDh n t)=zBl t
 |0,t=>rfl
 |n+1,t=>by
  rw [zDh,zLa n,zBl,zBy,zBy]
  simp
theorem zLo {ms:List Va} {n:Int} (h0:0≤n) (h1:n<(ms.length:Int)):zAi ms n ∈ ms:=by
 unfold zAi
 rw [List.getD_eq_getElem?_getD,List.getElem?_eq_getElem (by omega)]
 exact List.getElem_mem _
theorem zUd {s:Sv} (I:Inv s.ms) {n:Int} {b:Term} (h0:0≤n) (h1:n<(s.ms.length:Int)) (hu:(zAi s.ms n).is=false) (hf:zAv s.ms b (zBg (zAi s.ms n).type)=true) (hs:zEe s.ms (zAi s.ms n).level b=true)
  (h5:b.kind≠5) (hz:b.size≤399000) (ha:AvT s.ms n.toNat b):Inv (zH8 s n b).ms∧ExtS s.ms (zH8 s n b).ms:=by
 have e:ExtS s.ms (zH8 s n b).ms:=yIf h0 h1 hu rfl rfl
 refine ⟨⟨by show (s.ms.set _ _).length≤_;rw [List.length_set];exact I.len,fun v hv=>?_,?_⟩,e⟩
 ·rcases List.mem_or_eq_of_mem_set hv with hv|rfl
  ·exact (I.val v hv).ext e
  ·have hty:=(I.val _ (zLo h0 h1)).ty
   have hal:=zEb (zAi s.ms n).type
   refine ⟨hty,fun _=>?_,fun h=>absurd (show true=false from h) (by decide)⟩
   show (zCw (zBg (zAi s.ms n).type) (zDh (zBg (zAi s.ms n).type) b)).2=true∧_
   have eb:=zXp (zBg (zAi s.ms n).type) b
   refine ⟨by rw [eb];simpa using h5,?_,?_,?_⟩
   ·show zAv _ (zCw (zBg (zAi s.ms n).type) (zDh (zBg (zAi s.ms n).type) b)).1 (zBg (zAi s.ms n).type)=true
    rw [eb];exact zEa e _ _ hf
   ·show zEe _ (zAi s.ms n).level (zCw (zBg (zAi s.ms n).type) (zDh (zBg (zAi s.ms n).type) b)).1=true
    rw [eb];exact zLv e _ _ hf hs
   ·show (zDh (zBg (zAi s.ms n).type) b).size≤_
    rw [zPk];omega
 ·refine yIy (by omega) (fun k hk=>?_) I.acc
  have hk':(k:Int) ∈ zBl (zDh (zBg (zAi s.ms n).type) b):=hk
  rw [zLa] at hk'
  have:=(ha _ hk').2
  simpa using this
end Go.Proofs.YthkjmiejaoomcaaGreat.Am
namespace Go.Proofs.YthkjmiejaoomcaaGreat.Am
open Go Go.RowKit Go.Proofs
set_option linter.unusedVariables false
set_option linter.unusedSimpArgs false
mutual
theorem zPl:∀ (t:Term) (us:List Term) (d:Int),(zB5 t us d).size=t.size
 |⟨k,n,s,l⟩,us,d=>by rw [zB5,Term.size,Term.size,zN3]
theorem zN3:∀ (l us:List Term) (d:Int),sizes (zBs l us d)=sizes l
 |[],us,d=>by rw [zBs]
 |t::l,us,d=>by rw [zBs,sizes,sizes,zPl,zN3]
end
theorem zUp:∀ (n:Nat) (t:Term),(zCw n t).1.size≤t.size
 |0,t=>Nat.le_refl _
 |n+1,t=>by
  rw [zCw]
  split
  ·exact Nat.le_refl _
  ·rename_i h
   obtain ⟨u,hu⟩:=zHz (by simpa using h)
   have:=zUp n u
   obtain ⟨a,b,c,l⟩:=t
   simp only at hu
   subst hu
   simp only [List.headD_cons]
   rw [Term.size,sizes,sizes];omega
theorem zTg {ms:List Va} (I:Inv ms) {t:Term} {d:Int} (hd:0≤d) (hf:zAv ms t d=true) (h4:(t.kind==4)=true) (hi:(zAi ms t.n).is=true) :
  zRx ms (zAi ms t.n).level d t.args∧zAv ms (zC4 ms t) t.args.length=true∧zEe ms (zAi ms t.n).level (zC4 ms t)=true∧(zCw t.args.length (zAi ms t.n).t).2=true∧zH3 (zC4 ms t) t.args.length 0=true∧(zAi ms t.n).t.size≤400000∧0≤t.n∧t.n<(ms.length:Int):=by
 have hv:=zHj hf h4
 have hpat:=zGb hv.2.2
 obtain ⟨h1,h2,h3,h5⟩:=(I.val _ (zLo hv.1 hv.2.1)).val hi
 rw [hpat.2.2] at h1 h2 h3
 have hf':=hf
 rw [zCu,Bool.and_eq_true] at hf'
 have hin:inner t.kind d=d:=by
  have:t.kind=4:=by simpa using h4
  unfold inner;rw [this];rfl
 rw [hin] at hf'
 have hargs:∀ u ∈ t.args,zHu d u:=fun u hu=>zUj (hpat.1 u hu).1 ((zCj _ _ _).1 hf'.2 u hu)
 exact ⟨⟨hd,hargs,fun u hu=>(hpat.1 u hu).2,hpat.2.1⟩,h2,h3,h1,zQk _ _ 0 (by rw [Int.add_zero];exact h2),h5,hv.1,hv.2.1⟩
theorem zFy {t:Term} (h4:(t.kind==4)=true):zBl t=[t.n]:=by
 obtain ⟨a,b,c,l⟩:=t
 rw [zBl]
 simp only at h4
 rw [h4];rfl
theorem zZk {ms:List Va} {t:Term} {d:Int} (hf:zAv ms t d=true):∀ k ∈ zBl t,0≤k∧k<(ms.length:Int):=zId _ _ ((zH1 ms _).1 t d (Nat.le_refl _) hf)
structure yA5 (ms:List Va) (t:Term) (d:Int) (k:Nat) (u:Term):Prop where
 hs:zMs ms k t u
 fits:zAv ms u d=true
 flex:(u.kind==4&&(zAi ms u.n).is)=false
 size:u.size≤t.size∨u.size≤400000
 av:∀ v,AvT ms v t→AvT ms v u
theorem yHo {ms:List Va} (I:Inv ms) {t:Term} {d:Int} (hd:0≤d) (hf:zAv ms t d=true):∃ k u,yA5 ms t d k u:=by
 have key:∀ n:Nat,Acc (En ms) n→∀ t:Term,t.n.toNat=n→zAv ms t d=true→(t.kind==4)=true→(zAi ms t.n).is=true→∃ k u,yA5 ms t d k u:=by
  intro n hn
  induction hn with
  |intro n _ ih =>
   intro t htn hf h4 hi
   obtain ⟨hp,h2,h3,h1,h6,h5,hn0,hn1⟩:=zTg I hd hf h4 hi
   have hff:=zG6 hp (zC4 ms t) 0 (Int.le_refl _) (by rw [Int.add_zero];exact h2) h3
   rw [Int.add_zero] at hff
   have hdir:∀ k ∈ zBl (zB5 (zC4 ms t) t.args 0),0≤k∧En ms k.toNat n:=fun k hk=>by
    have h7:=zIp hp (zC4 ms t) 0 (by rw [Int.add_zero];exact h2) k hk
    have h8:=(zZk h2 k h7).1
    refine ⟨h8,?_⟩
    unfold En
    rw [← htn]
    refine ⟨hi,?_⟩
    rw [Int.toNat_of_nonneg h8]
    exact zLf _ _ h1 k h7
   have hav:∀ v,AvT ms v t→AvT ms v (zB5 (zC4 ms t) t.args 0):=fun v hv k hk=>by
    have h9:=(hv t.n (by rw [zFy h4];exact List.mem_singleton.2 rfl)).2
    cases h9 with
    |mk _ hs=>exact ⟨(hdir k hk).1,hs _ (by rw [htn];exact (hdir k hk).2)⟩
   have hsz:(zB5 (zC4 ms t) t.args 0).size≤400000:=by
    rw [zPl]
    have:=zUp t.args.length (zAi ms t.n).t
    have e:(zC4 ms t).size≤(zAi ms t.n).t.size:=this
    omega
   by_cases hb:((zB5 (zC4 ms t) t.args 0).kind==4&&(zAi ms (zB5 (zC4 ms t) t.args 0).n).is)=true
   ·rw [Bool.and_eq_true] at hb
    obtain ⟨k,u,hk⟩:=ih _ (hdir _ (by rw [zFy hb.1];exact List.mem_singleton.2 rfl)).2 _ rfl hff hb.1 hb.2
    refine ⟨k+1,u,.step h4 hi hk.hs,hk.fits,hk.flex,?_,fun v hv=>hk.av v (hav v hv)⟩
    rcases hk.size with h|h <;> omega
   ·exact ⟨1,_,.step h4 hi (.done (by simpa using hb)),hff,by simpa using hb,.inr hsz,hav⟩
 by_cases hb:(t.kind==4&&(zAi ms t.n).is)=true
 ·rw [Bool.and_eq_true] at hb
  exact key _ (I.acc _) t rfl hf hb.1 hb.2
 ·exact ⟨0,t,.done (by simpa using hb),hf,by simpa using hb,.inl (Nat.le_refl _),fun v hv=>hv⟩
theorem z1p {ms:List Va} (I:Inv ms) {t:Term} {d:Int} (hd:0≤d) (hf:zAv ms t d=true):∃ k,yA5 ms t d k (zEx ms t):=by
 obtain ⟨k,u,h⟩:=yHo I hd hf
 rw [← head_eq h.hs] at h
 exact ⟨k,h⟩
theorem zQm:∀ (us:List Term) (y:Term) (i j:Nat),zKl us y i=some j→i≤j∧j - i<us.length∧isF (us.getD (j - i) zBo) y=true
 |[],y,i,j,h=>by cases h
 |a::l,y,i,j,h=>by
  rw [zKl] at h
  cases ha:isF a y
  ·rw [ha] at h
   simp only [Bool.false_eq_true,if_false] at h
   obtain ⟨h1,h2,h3⟩:=zQm l y (i+1) j h
   refine ⟨by omega,by rw [List.length_cons];omega,?_⟩
   rw [show j - i=j - (i+1)+1 by omega,List.getD_cons_succ]
   exact h3
  ·rw [ha] at h
   simp only [if_true,Option.some.injEq] at h
   subst h
   exact ⟨Nat.le_refl _,by simp,by simpa using ha⟩
inductive zKp (lv:Int) (us:List Term) (d:Int) (y:Term):Term→Prop
 |low (h2:y.kind=2) (hl:y.n<d):zKp lv us d y y
 |par (h3:y.kind=3) (hl:y.n<lv):zKp lv us d y y
 |seat (i:Nat) (hi:i<us.length) (hk:(us.getD i zBo).kind=y.kind) (hn:(us.getD i zBo).n=if y.kind=2 then y.n - d else y.n) (h2:y.kind=2→d≤y.n) (h3:y.kind=3→lv≤y.n):zKp lv us d y (sBnd ((us.length:Int) - 1 - i+d))
theorem z1m {a b:Term} (h:isF a b=true):a.kind=b.kind∧a.n=b.n:=by
 unfold isF at h
 rw [Bool.and_eq_true] at h
 exact ⟨by simpa using h.1,by simpa using h.2⟩
theorem zNa {lv:Int} {us:List Term} {y:Term} {d:Int} (hy:y.kind=2∨y.kind=3) (h:(zDe lv us y d).2=true):zKp lv us d y (zDe lv us y d).1:=by
 unfold zDe at h ⊢
 cases h2:(y.kind==2)
 ·rw [h2] at h
  simp only [Bool.false_eq_true,if_false] at h ⊢
  have n2:y.kind≠2:=by simpa using h2
  have k3:y.kind=3:=hy.resolve_left n2
  by_cases hl:y.n<lv
  ·rw [k3,decide_eq_true hl] at h ⊢
   exact .par k3 hl
  ·rw [decide_eq_false hl,Bool.and_false] at h ⊢
   simp only [Bool.false_eq_true,if_false] at h ⊢
   unfold zGi at h ⊢
   cases hf:zKl us y 0 with
   |none=>rw [hf] at h;cases h
   |some i =>
    obtain ⟨_,h5,h6⟩:=zQm us y 0 i hf
    have h7:=z1m h6
    rw [Nat.sub_zero] at h5 h7
    exact .seat i h5 h7.1 (by rw [if_neg n2];exact h7.2) (fun e=>absurd e n2) (fun _=>by omega)
 ·rw [h2] at h
  simp only [if_true] at h ⊢
  have k2:y.kind=2:=by simpa using h2
  by_cases hl:y.n<d
  ·rw [decide_eq_true hl]
   exact .low k2 hl
  ·rw [decide_eq_false hl] at h ⊢
   simp only [Bool.false_eq_true,if_false] at h ⊢
   unfold zGi at h ⊢
   cases hf:zKl us ⟨y.kind,y.n - d,y.name,y.args⟩ 0 with
   |none=>rw [hf] at h;cases h
   |some i =>
    obtain ⟨_,h5,h6⟩:=zQm us _ 0 i hf
    have h7:=z1m h6
    rw [Nat.sub_zero] at h5 h7
    exact .seat i h5 h7.1 (by rw [if_pos k2];exact h7.2) (fun _=>by omega) (fun e=>by omega)
theorem zKp.ok {lv:Int} {us:List Term} {d D:Int} {y z:Term} (h:zKp lv us d y z) (hd:0≤d) (hy:zHu (D+d) y):zHu (us.length+d) z∧(z.kind=3→z.n<lv∧y.kind=3∧z.n=y.n):=by
 cases h with
 |low h2 hl=>exact ⟨⟨hy.1,hy.2.1,fun _=>⟨(hy.2.2.1 h2).1,by omega⟩,hy.2.2.2⟩,fun e=>by omega⟩
 |par h3 hl=>exact ⟨⟨hy.1,hy.2.1,fun e=>by omega,hy.2.2.2⟩,fun _=>⟨hl,h3,rfl⟩⟩
 |seat i hi hk hn h2 h3=>exact ⟨⟨rfl,rfl,fun _=>⟨by show 0≤(us.length:Int) - 1 - i+d;omega,by show (us.length:Int) - 1 - i+d<_;omega⟩,fun e=>absurd (show (2:Int)=3 from e) (by decide)⟩,fun e=>absurd (show (2:Int)=3 from e) (by decide)⟩
theorem zKp.inj {lv:Int} {us:List Term} {d:Int} {y z y' z':Term} (h:zKp lv us d y z) (h':zKp lv us d y' z') (hne:isF y y'=false):isF z z'=false:=by
 rw [zG1] at hne ⊢
 cases h with
 |low h2 hl =>
  cases h' with
  |low h2' hl'=>exact hne
  |par h3' hl'=>exact hne
  |seat i hi hk hn g2 g3=>right;show y.n≠(us.length:Int) - 1 - i+d;omega
 |par h3 hl =>
  cases h' with
  |low h2' hl'=>exact hne
  |par h3' hl'=>exact hne
  |seat i hi hk hn g2 g3=>left;show y.kind≠2;omega
 |seat i hi hk hn g2 g3 =>
  cases h' with
  |low h2' hl'=>right;show (us.length:Int) - 1 - i+d≠y'.n;omega
  |par h3' hl'=>left;show 2≠y'.kind;omega
  |seat i' hi' hk' hn' g2' g3' =>
   right
   show (us.length:Int) - 1 - i+d≠(us.length:Int) - 1 - i'+d
   intro e
   obtain rfl:i=i':=by omega
   have ek:y.kind=y'.kind:=by rw [← hk,hk']
   rcases hne with h|h
   ·exact h ek
   ·rw [hn,ek] at hn'
    split at hn' <;> omega
end Go.Proofs.YthkjmiejaoomcaaGreat.Am
namespace Go.Proofs.YthkjmiejaoomcaaGreat.Am
open Go Go.RowKit Go.Proofs
set_option linter.unusedVariables false
set_option linter.unusedSimpArgs false
theorem yAp {t:Ty} (h:zBn t=true):zBn ⟨t.name,[]⟩=true:=by
 unfold zBn at h ⊢
 simp only [Bool.and_eq_true] at h ⊢
 exact ⟨⟨⟨rfl,h.1.1.2⟩,h.1.2⟩,h.2⟩
theorem z2g {t:Ty} (h:zBn t=true):((t.args.length:Int)==2)=false∧(zFl t.name&&(t.args.length:Int)==2)=false:=by
 unfold zBn at h
 simp only [Bool.and_eq_true] at h
 have h1:t.args.length=0:=by have:=h.1.1.1;simp at this;simp [this]
 rw [h1]
 exact ⟨rfl,by simp⟩
theorem z4s:∀ (s:Nat) (t:Ty) (out l:List ByteArray),t.size≤s→(∀ a ∈ out,zBn ⟨a,[]⟩=true)→zFc t out=some l→(∀ a ∈ l,zBn ⟨a,[]⟩=true)∧zBn (zCe t)=true:=by
 intro s
 induction s with
 |zero=>intro t out l ht;obtain ⟨a,b⟩:=t;rw [Ty.size] at ht;omega
 |succ s ih =>
  intro t out l ht ho hg
  cases h:(zFl t.name&&(t.args.length:Int)==2)
  ·rw [zEs out h,zFm] at hg
   split at hg
   ·rename_i hb
    injection hg with hg;subst hg
    exact ⟨ho,by rw [zPf (z2g hb).1];exact hb⟩
   ·cases hg
  ·rw [Bool.and_eq_true] at h
   obtain ⟨a,b,hab,he,hs⟩:=zH9 out h.1 h.2
   obtain ⟨a',b',hab',ht',_⟩:=zPe h.2
   rw [hab] at hab'
   injection hab' with e1 e2
   injection e2 with e2
   subst e1;subst e2
   rw [he] at hg
   split at hg
   ·cases hg
   ·rename_i hb
    rw [Bool.or_eq_true,not_or] at hb
    have hba:zBn a=true:=by simpa using hb.1
    rw [ht']
    refine ih b (out++[a.name]) l (by omega) (fun x hx=>?_) hg
    rcases List.mem_append.1 hx with hx|hx
    ·exact ho x hx
    ·rw [List.mem_singleton] at hx;subst hx;exact yAp hba
theorem zS3:∀ (l:List ByteArray) (to:Ty) (out:List ByteArray),(∀ a ∈ l,zBn ⟨a,[]⟩=true)→zBn to=true→out.length+l.length≤8→zFc (zBp l to) out=some (out++l)
 |[],to,out,_,ht,_=>by rw [zBp,zEs out (z2g ht).2,zFm,if_pos ht,List.append_nil]
 |a::l,to,out,hl,ht,hn=>by
  rw [List.length_cons] at hn
  rw [zBp,zFc]
  have h1:zFl ⟨#[45,62]⟩=true:=by unfold zFl;exact beq_self_eq_true _
  have h2:(!zBn ⟨a,[]⟩||(out.length:Int)==8)=false:=by
   rw [hl a List.mem_cons_self]
   have:¬ (out.length:Int)=8:=by omega
   simpa using this
  rw [if_pos h1,h2]
  simp only [Bool.false_eq_true,if_false]
  rw [zS3 l to (out++[a]) (fun x hx=>hl x (List.mem_cons_of_mem _ hx)) ht (by rw [List.length_append,List.length_singleton];omega)]
  simp
theorem yAr {l:List ByteArray} {to:Ty} (hl:∀ a ∈ l,zBn ⟨a,[]⟩=true) (ht:zBn to=true) (hn:l.length≤8):zD2 (zBp l to)=some l:=by
 unfold zD2
 rw [zS3 l to [] hl ht (by simpa using hn)]
 rfl
theorem zPc {v:Va} (h:zFf v=true):(zD2 v.type).isSome=true∧0≤v.level∧v.level≤60:=by
 unfold zFf at h
 simp only [Bool.and_eq_true,Bool.not_eq_true',decide_eq_false_iff_not] at h
 exact ⟨h.1,by omega,by omega⟩
theorem zT4 {v:Va} (h:zFf v=true):(∀ a ∈ nmsF v,zBn ⟨a,[]⟩=true)∧zBn (zCe v.type)=true:=by
 have h1:=(zPc h).1
 cases hs:zD2 v.type with
 |none=>rw [hs] at h1;cases h1
 |some l =>
  have:=z4s v.type.size v.type [] l (Nat.le_refl _) (fun a ha=>absurd ha List.not_mem_nil) hs
  unfold nmsF
  rw [hs]
  exact this
theorem zNh {l:List ByteArray} (hl:∀ a ∈ l,zBn ⟨a,[]⟩=true) {keep:List Nat} (hk:∀ k ∈ keep,k<l.length):∀ a ∈ zA7 l keep,zBn ⟨a,[]⟩=true:=by
 intro a ha
 obtain ⟨k,hk1,rfl⟩:=List.mem_map.1 ha
 rw [List.getD_eq_getElem?_getD,List.getElem?_eq_getElem (hk k hk1)]
 exact hl _ (List.getElem_mem _)
theorem yEo {ms:List Va} {d:Int} {u:Term} (h:zHu d u):zAv ms u d=true:=by
 rw [zCu,(zBi h.1).2,zUu h [] (by decide),zDb];rfl
theorem zJw {ms:List Va} {n:Int} {l:List Term} {d:Int} (h0:0≤n) (h1:n<(ms.length:Int)) (har:zBg (zAi ms n).type=l.length) (ha:∀ u ∈ l,zHu d u) (hlv:∀ u ∈ l,u.kind=3→(zAi ms n).level≤u.n) (hp:l.Pairwise (fun b u=>isF u b=false)) :
  zAv ms (sVar n l) d=true:=by
 have h8:=zEb (zAi ms n).type
 have hpat:zBv (zAi ms n) l=true:=by
  unfold zBv
  rw [Bool.and_eq_true]
  exact ⟨by rw [har];simp,(zHc _ _ _).2 ⟨fun u hu=>⟨(ha u hu).1,hlv u hu⟩,fun u _ b hb=>absurd hb List.not_mem_nil,hp⟩⟩
 rw [zCu,Bool.and_eq_true]
 refine ⟨?_,(zCj _ _ _).2 fun u hu=>yEo (ha u hu)⟩
 unfold zBb zA4
 rw [hpat]
 have hz:(zAr.size:Int)=0:=rfl
 simp
 omega
theorem zLl {ms:List Va} {n:Int} {l:List Term} {lv:Int} (h:(zAi ms n).level≤lv) (ha:∀ u ∈ l,zAy u=true∧(u.kind=3→u.n<lv)):zEe ms lv (sVar n l)=true:=by
 rw [zOp,Bool.and_eq_true]
 refine ⟨?_,(zLw _ _ _).2 fun u hu=>?_⟩
 ·unfold zFg;simp;omega
 ·obtain ⟨h1,h2⟩:=ha u hu
  have hk:=zBi h1
  rw [zOp,hk.2,zHf,Bool.and_true]
  unfold zFg
  rcases hk.1 with e|e
  ·rw [e];simp
  ·have:=h2 e;rw [e];simp;omega
theorem zPm:∀ l:List Term,(∀ u ∈ l,zAy u=true)→sizes l=l.length
 |[],_=>by rw [sizes];rfl
 |u::l,h=>by
  have hk:=(zBi (h u List.mem_cons_self)).2
  rw [sizes,zPm l (fun w hw=>h w (List.mem_cons_of_mem _ hw)),List.length_cons]
  obtain ⟨a,b,c,m⟩:=u
  simp only at hk
  subst hk
  rw [Term.size,sizes];omega
theorem zLk {n:Int} {l:List Term} (h:∀ u ∈ l,zAy u=true):(sVar n l).size=l.length+1:=by
 rw [Term.size,zPm l h]
structure yN7 (lv:Int) (us:List Term) (d:Int) (l:List Term) (i:Nat) (r:List Nat × List Term):Prop where
 len:r.1.length=r.2.length
 le:r.1.length≤l.length
 ix:∀ k ∈ r.1,i≤k∧k<i+l.length
 inc:r.1.Pairwise (·<·)
 from_:∀ z ∈ r.2,∃ y ∈ l,zKp lv us d y z
theorem zUa {lv:Int} {us:List Term} {d:Int}:∀ (l:List Term) (i:Nat),(∀ y ∈ l,y.kind=2∨y.kind=3)→yN7 lv us d l i (zGe lv us d l i)
 |[],i,_=>⟨rfl,Nat.le_refl _,fun k hk=>absurd hk List.not_mem_nil,List.Pairwise.nil,fun z hz=>absurd hz List.not_mem_nil⟩
 |y::l,i,h=>by
  have ih:=zUa l (i+1) (fun w hw=>h w (List.mem_cons_of_mem _ hw)) (lv:=lv) (us:=us) (d:=d)
  rw [zGe]
  split
  ·rename_i hp
   refine ⟨by simp [ih.len],by simpa using ih.le,fun k hk=>?_,List.pairwise_cons.2 ⟨fun k hk=>(ih.ix k hk).1,ih.inc⟩,fun z hz=>?_⟩
   ·rw [List.length_cons]
    rcases List.mem_cons.1 hk with rfl|hk
    ·omega
    ·have:=ih.ix k hk;omega
   ·rcases List.mem_cons.1 hz with rfl|hz
    ·exact ⟨y,List.mem_cons_self,zNa (h y List.mem_cons_self) hp⟩
    ·obtain ⟨w,hw,hz⟩:=ih.from_ z hz
     exact ⟨w,List.mem_cons_of_mem _ hw,hz⟩
  ·refine ⟨ih.len,Nat.le_succ_of_le ih.le,fun k hk=>?_,ih.inc,fun z hz=>?_⟩
   ·have:=ih.ix k hk;rw [List.length_cons];omega
   ·obtain ⟨w,hw,hz⟩:=ih.from_ z hz
    exact ⟨w,List.mem_cons_of_mem _ hw,hz⟩
theorem zWr {lv:Int} {us:List Term} {d:Int}:∀ (l:List Term) (i:Nat),(∀ y ∈ l,y.kind=2∨y.kind=3)→l.Pairwise (fun b u=>isF u b=false)→(zGe lv us d l i).2.Pairwise (fun b u=>isF u b=false)
 |[],i,_,_=>List.Pairwise.nil
 |y::l,i,h,hp=>by
  rw [List.pairwise_cons] at hp
  have hl:=fun w hw=>h w (List.mem_cons_of_mem _ hw)
  have ih:=zWr l (i+1) hl hp.2 (lv:=lv) (us:=us) (d:=d)
  rw [zGe]
  split
  ·rename_i hpl
   refine List.pairwise_cons.2 ⟨fun z hz=>?_,ih⟩
   obtain ⟨w,hw,hz⟩:=(zUa l (i+1) hl (lv:=lv) (us:=us) (d:=d)).from_ z hz
   exact hz.inj (zNa (h y List.mem_cons_self) hpl) (hp.1 w hw)
  ·exact ih
structure yI1 (olv wlv:Int) (l:List Term) (i:Nat) (r:List (Nat × Term)):Prop where
 at_:∀ p ∈ r,i≤p.1∧p.1<i+l.length∧l.getD (p.1 - i) zBo=p.2∧p.2.kind=3∧p.2.n<wlv∧olv≤p.2.n
 inc:r.Pairwise (fun p q=>p.1<q.1)
theorem z1v {olv wlv:Int}:∀ (l:List Term) (i:Nat),yI1 olv wlv l i (zEm olv wlv l i)
 |[],i=>⟨fun p hp=>absurd hp List.not_mem_nil,List.Pairwise.nil⟩
 |a::l,i=>by
  have ih:=z1v l (i+1) (olv:=olv) (wlv:=wlv)
  have tail:∀ p ∈ zEm olv wlv l (i+1),i≤p.1∧p.1<i+(a::l).length∧(a::l).getD (p.1 - i) zBo=p.2∧p.2.kind=3∧p.2.n<wlv∧olv≤p.2.n:=fun p hp=>by
   obtain ⟨h1,h2,h3,h4⟩:=ih.at_ p hp
   refine ⟨by omega,by rw [List.length_cons];omega,?_,h4⟩
   rw [show p.1 - i=p.1 - (i+1)+1 by omega,List.getD_cons_succ]
   exact h3
  rw [zEm]
  split
  ·rename_i hx
   unfold zQa at hx
   simp only [Bool.and_eq_true,beq_iff_eq,decide_eq_true_eq] at hx
   refine ⟨fun p hp=>?_,List.pairwise_cons.2 ⟨fun p hp=>(ih.at_ p hp).1,ih.inc⟩⟩
   rcases List.mem_cons.1 hp with rfl|hp
   ·refine ⟨Nat.le_refl _,by rw [List.length_cons];omega,by simp,hx.1,hx.2.1,by show olv≤a.n;omega⟩
   ·exact tail p hp
  ·exact ⟨tail,ih.inc⟩
theorem zZ1 {n:Nat} {keep:List Nat} (h:∀ k ∈ keep,k<n):∀ u ∈ zCm n keep,zHu n u:=by
 intro u hu
 obtain ⟨k,hk,rfl⟩:=List.mem_map.1 hu
 have:=h k hk
 exact ⟨rfl,rfl,fun _=>⟨by show 0≤(n:Int) - 1 - k;omega,by show (n:Int) - 1 - k<n;omega⟩,fun e=>absurd (show (2:Int)=3 from e) (by decide)⟩
theorem zQ6 {n:Nat} {keep:List Nat} (h:keep.Pairwise (·<·)):(zCm n keep).Pairwise (fun b u=>isF u b=false):=by
 unfold zCm
 rw [List.pairwise_map]
 refine h.imp fun {a b} hab=>?_
 rw [zG1]
 right
 show (n:Int) - 1 - b≠(n:Int) - 1 - a
 omega
end Go.Proofs.YthkjmiejaoomcaaGreat.Am
namespace Go.Proofs.YthkjmiejaoomcaaGreat.Am
open Go Go.RowKit Go.Proofs
set_option linter.unusedVariables false
set_option linter.unusedSimpArgs false
theorem bind_ok {α β:Type} {r:Rz α} {f:α→Rz β} {b:β} (h:r.bind f=.ok b):∃ a,r=.ok a∧f a=.ok b:=by
 cases r with
 |ok a=>exact ⟨a,rfl,h⟩
 |clash=>cases h
 |large e=>cases h
theorem zJ1 {s s':Sv} {lv n:Int} {ty:Ty} (h:zE0 s lv ty=.ok (s',n)):s.ms.length<2000∧s'=⟨s.ms++[zJi lv ty],s.wk⟩∧n=(s.ms.length:Int):=by
 unfold zE0 at h
 split at h
 ·cases h
 ·rename_i h2
  injection h with h
  injection h with h3 h4
  simp only [decide_eq_true_eq] at h2
  exact ⟨by omega,h3.symm,h4.symm⟩
theorem zPa {ms:List Va} {w:Va} {n:Int} (h0:0≤n) (h1:n<(ms.length:Int)):zAi (ms++[w]) n=zAi ms n:=by
 unfold zAi
 rw [zE6,if_neg (by omega)]
theorem zVg (ms:List Va) (w:Va):zAi (ms++[w]) (ms.length:Int)=w:=by
 unfold zAi
 rw [zE6,if_pos (by omega)]
theorem zVf {ms:List Va} {n k:Int} {w:Va} (h:k.toNat≠n.toNat):zAi (ms.set n.toNat w) k=zAi ms k:=by
 unfold zAi
 rw [zIn,if_neg (fun e=>h e.1)]
theorem zWv {ms:List Va} (I:Inv ms) {lv:Int} {ty:Ty} (hl:ms.length<2000) (ht:zFf (zJi lv ty)=true):Inv (ms++[zJi lv ty]):=by
 refine ⟨by simp;omega,fun v hv=>?_,z4y rfl I.acc⟩
 rcases List.mem_append.1 hv with hv|hv
 ·exact (I.val v hv).ext (zNl _ _)
 ·rw [List.mem_singleton] at hv
  subst hv
  exact ⟨ht,fun h=>(absurd (show false=true from h) (by decide)),fun _=>(by show (Term.size ⟨0,0,zAr,[]⟩)≤400000;rw [Term.size,sizes];decide)⟩
theorem zUt {ms:List Va} {n k:Nat} (hne:k≠n) (h:(ms.getD k noVa).is=false):Av ms n k:=.mk hne fun j hj=>by have:=hj.1;rw [h] at this;cases this
theorem z0h {lv:Int} {l:List ByteArray} {to:Ty} (hl:∀ a ∈ l,zBn ⟨a,[]⟩=true) (ht:zBn to=true) (hn:l.length≤8) (h0:0≤lv) (h1:lv≤60):zFf (zJi lv (zBp l to))=true∧zBg (zBp l to)=l.length:=by
 have e:=yAr hl ht hn
 refine ⟨?_,by unfold zBg;rw [e];rfl⟩
 unfold zFf zJi
 simp only [e,Option.isSome_some,Bool.true_and,Bool.and_eq_true,Bool.not_eq_true',decide_eq_false_iff_not]
 omega
structure yA4 (c:Int) (s s':Sv) (v:Term) (d:Int) (out:Term):Prop where
 inv:Inv s'.ms
 ext:ExtS s.ms s'.ms
 free:(zAi s'.ms v.n).is=false
 fits:zAv s'.ms out (v.args.length+d)=true
 sees:zEe s'.ms (zAi s.ms v.n).level out=true
 av:AvT s'.ms v.n.toNat out
 mono:∀ k,Av s.ms v.n.toNat k→Av s'.ms v.n.toNat k
 size:(out.size:Int)≤9 * (s'.wk - s.wk)+c
 wk:s.wk≤s'.wk
structure zFn (ms:List Va) (v:Term) (D:Int):Prop where
 n0:0≤v.n
 n1:v.n<(ms.length:Int)
 args:∀ u ∈ v.args,zHu D u
 high:∀ u ∈ v.args,u.kind=3→(zAi ms v.n).level≤u.n
 pair:v.args.Pairwise (fun b u=>isF u b=false)
 ar:zBg (zAi ms v.n).type=v.args.length
theorem zDn {ms:List Va} {v:Term} {D:Int} (hv:zAv ms v D=true) (v4:(v.kind==4)=true):zFn ms v D:=by
 have h:=zHj hv v4
 have hp:=zGb h.2.2
 have hf':=hv
 rw [zCu,Bool.and_eq_true] at hf'
 have hin:inner v.kind D=D:=by
  have:v.kind=4:=by simpa using v4
  unfold inner;rw [this];rfl
 rw [hin] at hf'
 exact ⟨h.1,h.2.1,fun u hu=>zUj (hp.1 u hu).1 ((zCj _ _ _).1 hf'.2 u hu),fun u hu=>(hp.1 u hu).2,hp.2.1,hp.2.2⟩
theorem yGr {s s':Sv} (I:Inv s.ms) {v t out:Term} {D d:Int} (hd:0≤d) (V:zFn s.ms v D) (vu:(zAi s.ms v.n).is=false) (T:zFn s.ms t (D+d)) (tu:(zAi s.ms t.n).is=false) (h:zI6 s v t d=.ok (s',out)) :
  yA4 9 s s' v d out∧out.kind=4:=by
 unfold zI6 at h
 split at h
 ·cases h
 rename_i hne
 have hne:t.n≠v.n:=by simpa using hne
 have hneN:t.n.toNat≠v.n.toNat:=by have:=T.n0;have:=V.n0;omega
 dsimp only at h
 have hsk:∀ y ∈ t.args,y.kind=2∨y.kind=3:=fun y hy=>(zBi (T.args y hy).1).1
 have K:=zUa (lv:=(zAi s.ms v.n).level) (us:=v.args) (d:=d) t.args 0 hsk
 have KP:=zWr (lv:=(zAi s.ms v.n).level) (us:=v.args) (d:=d) t.args 0 hsk T.pair
 have X:=z1v (olv:=(zAi s.ms v.n).level) (wlv:=(zAi s.ms t.n).level) v.args 0
 generalize zGe (zAi s.ms v.n).level v.args d t.args 0=kp at *
 generalize zEm (zAi s.ms v.n).level (zAi s.ms t.n).level v.args 0=ex at *
 have hz:∀ z ∈ kp.2,zHu (v.args.length+d) z∧(z.kind=3→z.n<(zAi s.ms v.n).level∧(zAi s.ms t.n).level≤z.n):=fun z hz=>by
  obtain ⟨y,hy,hp⟩:=K.from_ z hz
  obtain ⟨h1,h2⟩:=hp.ok hd (T.args y hy)
  refine ⟨h1,fun h3=>⟨(h2 h3).1,?_⟩⟩
  have:=T.high y hy (h2 h3).2.1
  rw [(h2 h3).2.2];exact this
 have hxb:∀ e ∈ ex.map (fun p=>sBnd ((v.args.length:Int) - 1 - p.1+d)),zHu (v.args.length+d) e∧e.kind=2:=fun e he=>by
  obtain ⟨p,hp,rfl⟩:=List.mem_map.1 he
  have:=X.at_ p hp
  exact ⟨⟨rfl,rfl,fun _=>⟨by show 0≤(v.args.length:Int) - 1 - p.1+d;omega,by show (v.args.length:Int) - 1 - p.1+d<_;omega⟩,fun e=>absurd (show (2:Int)=3 from e) (by decide)⟩,rfl⟩
 have hxp:(ex.map (fun p=>sBnd ((v.args.length:Int) - 1 - p.1+d))).Pairwise (fun b u=>isF u b=false):=by
  rw [List.pairwise_map]
  refine X.inc.imp fun {p q} hpq=>?_
  rw [zG1]
  right
  show (v.args.length:Int) - 1 - q.1+d≠(v.args.length:Int) - 1 - p.1+d
  omega
 have hcross:∀ z ∈ kp.2,∀ e ∈ ex.map (fun p=>sBnd ((v.args.length:Int) - 1 - p.1+d)),isF e z=false:=fun z hz e he=>by
  obtain ⟨y,hy,hp⟩:=K.from_ z hz
  obtain ⟨p,hp2,rfl⟩:=List.mem_map.1 he
  have hx:=X.at_ p hp2
  rw [zG1]
  cases hp with
  |low h2 hl=>right;show (v.args.length:Int) - 1 - p.1+d≠z.n;omega
  |par h3 hl=>left;show 2≠z.kind;omega
  |seat i hi hk hn h2 h3 =>
   right
   show (v.args.length:Int) - 1 - p.1+d≠(v.args.length:Int) - 1 - i+d
   intro e
   obtain rfl:i=p.1:=by omega
   have hx3:=hx.2.2.1
   rw [Nat.sub_zero] at hx3
   rw [hx3] at hk hn
   have k3:y.kind=3:=by rw [← hk];exact hx.2.2.2.1
   rw [if_neg (by omega)] at hn
   have:=T.high y hy k3
   omega
 have hoA:∀ u ∈ kp.2++ex.map (fun p=>sBnd ((v.args.length:Int) - 1 - p.1+d)),zHu (v.args.length+d) u:=fun u hu=>by
  rcases List.mem_append.1 hu with hu|hu
  ·exact (hz u hu).1
  ·exact (hxb u hu).1
 have hoP:(kp.2++ex.map (fun p=>sBnd ((v.args.length:Int) - 1 - p.1+d))).Pairwise (fun b u=>isF u b=false):=List.pairwise_append.2 ⟨KP,hxp,hcross⟩
 have hoH:∀ u ∈ kp.2++ex.map (fun p=>sBnd ((v.args.length:Int) - 1 - p.1+d)),u.kind=3→u.n<(zAi s.ms v.n).level∧(zAi s.ms t.n).level≤u.n:=fun u hu h3=>by
  rcases List.mem_append.1 hu with hu|hu
  ·exact (hz u hu).2 h3
  ·have:=(hxb u hu).2;omega
 have hoL:(kp.2++ex.map (fun p=>sBnd ((v.args.length:Int) - 1 - p.1+d))).length=kp.1.length+ex.length:=by rw [List.length_append,List.length_map,K.len]
 generalize kp.2++ex.map (fun p=>sBnd ((v.args.length:Int) - 1 - p.1+d))=o at *
 have tyw:=(I.val _ (zLo T.n0 T.n1)).ty
 have tyv:=(I.val _ (zLo V.n0 V.n1)).ty
 have aw8:=zEb (zAi s.ms t.n).type
 have harw:(nmsF (zAi s.ms t.n)).length=t.args.length:=by rw [zKw];exact T.ar
 split at h
 ·rename_i hc
  injection h with h
  injection h with e1 e2
  subst e1;subst e2
  simp only [Bool.and_eq_true,beq_iff_eq,decide_eq_true_eq] at hc
  have hx0:ex=[]:=by
   cases ex with
   |nil=>rfl
   |cons p ps=>have:=X.at_ p List.mem_cons_self;omega
  subst hx0
  simp only [List.length_nil,Nat.add_zero] at hoL
  have hal:zBg (zAi s.ms t.n).type=o.length:=by rw [hoL,T.ar];omega
  refine ⟨⟨I,ExtS.refl _,vu,zJw T.n0 T.n1 hal hoA (fun u hu h3=>(hoH u hu h3).2) hoP,zLl hc.2 (fun u hu=>⟨(hoA u hu).1,fun h3=>(hoH u hu h3).1⟩),?_,fun k hk=>hk,?_,Int.le_refl _⟩,rfl⟩
  ·intro k hk
   rw [zFy (t:=sVar t.n o) rfl,List.mem_singleton] at hk
   subst hk
   exact ⟨T.n0,zUt hneN tu⟩
  ·rw [zLk (fun u hu=>(hoA u hu).1)];omega
 ·split at h
  ·cases h
  rename_i h8
  simp only [decide_eq_true_eq] at h8
  obtain ⟨⟨s1,m⟩,hfr,h⟩:=bind_ok h
  obtain ⟨hlt,e1,e2⟩:=zJ1 hfr
  subst e1;subst e2
  simp only at h
  injection h with h
  injection h with e1 e2
  subst e1;subst e2
  have nbw:=zT4 tyw
  have nbv:=zT4 tyv
  have lw:=zPc tyw
  have lv:=zPc tyv
  have hkw:∀ k ∈ kp.1,k<(nmsF (zAi s.ms t.n)).length:=fun k hk=>by have:=K.ix k hk;omega
  have hkv:∀ k ∈ ex.map (·.1),k<(nmsF (zAi s.ms v.n)).length:=fun k hk=>by
   obtain ⟨p,hp,rfl⟩:=List.mem_map.1 hk
   have:=X.at_ p hp
   rw [zKw,V.ar];omega
  have hnb:∀ a ∈ zA7 (nmsF (zAi s.ms t.n)) kp.1++zA7 (nmsF (zAi s.ms v.n)) (ex.map (·.1)),zBn ⟨a,[]⟩=true:=fun a ha=>by
   rcases List.mem_append.1 ha with ha|ha
   ·exact zNh nbw.1 hkw a ha
   ·exact zNh nbv.1 hkv a ha
  have hnl:(zA7 (nmsF (zAi s.ms t.n)) kp.1++zA7 (nmsF (zAi s.ms v.n)) (ex.map (·.1))).length=kp.1.length+ex.length:=by simp [zA7]
  obtain ⟨hty,har⟩:=z0h (lv:=min (zAi s.ms t.n).level (zAi s.ms v.n).level) hnb nbw.2 (by rw [hnl];omega) (by omega) (by omega)
  rw [hnl] at har
  have I1:=zWv I hlt hty
  have E1:=zNl s.ms (zJi (min (zAi s.ms t.n).level (zAi s.ms v.n).level) (zBp (zA7 (nmsF (zAi s.ms t.n)) kp.1++zA7 (nmsF (zAi s.ms v.n)) (ex.map (·.1))) (zCe (zAi s.ms t.n).type)))
  generalize hNew:zJi (min (zAi s.ms t.n).level (zAi s.ms v.n).level) (zBp (zA7 (nmsF (zAi s.ms t.n)) kp.1++zA7 (nmsF (zAi s.ms v.n)) (ex.map (·.1))) (zCe (zAi s.ms t.n).type))=new at *
  have nlev:new.level=min (zAi s.ms t.n).level (zAi s.ms v.n).level:=by rw [← hNew];rfl
  have ntyp:zBg new.type=kp.1.length+ex.length:=by rw [← hNew];exact har
  have nis:new.is=false:=by rw [← hNew];rfl
  have hm:zAi (s.ms++[new]) (s.ms.length:Int)=new:=zVg _ _
  have hT:zAi (s.ms++[new]) t.n=zAi s.ms t.n:=zPa T.n0 T.n1
  have hV:zAi (s.ms++[new]) v.n=zAi s.ms v.n:=zPa V.n0 V.n1
  have hml:(s.ms++[new]).length=s.ms.length+1:=by simp
  have hba:=zZ1 (n:=(nmsF (zAi s.ms t.n)).length) (keep:=kp.1) hkw
  have hxA:∀ u ∈ ex.map (·.2),u.kind=3∧u.n<(zAi s.ms t.n).level∧(zAi s.ms v.n).level≤u.n∧∀ x:Int,zHu x u:=fun u hu=>by
   obtain ⟨p,hp,rfl⟩:=List.mem_map.1 hu
   obtain ⟨a1,a2,a3,a4,a5,a6⟩:=X.at_ p hp
   rw [Nat.sub_zero] at a3
   have hmem:p.2 ∈ v.args:=by rw [← a3];exact zF2 (by omega)
   have:=V.args _ hmem
   exact ⟨a4,a5,a6,fun x=>⟨this.1,this.2.1,fun e=>by omega,this.2.2.2⟩⟩
  have hiA:∀ u ∈ zCm (nmsF (zAi s.ms t.n)).length kp.1++ex.map (·.2),zHu (nmsF (zAi s.ms t.n)).length u:=fun u hu=>by
   rcases List.mem_append.1 hu with hu|hu
   ·exact hba u hu
   ·exact (hxA u hu).2.2.2 _
  have hb2:∀ u ∈ zCm (nmsF (zAi s.ms t.n)).length kp.1,u.kind=2:=fun u hu=>by
   obtain ⟨k,_,rfl⟩:=List.mem_map.1 hu;rfl
  have hiH:∀ u ∈ zCm (nmsF (zAi s.ms t.n)).length kp.1++ex.map (·.2),u.kind=3→u.n<(zAi s.ms t.n).level∧(zAi s.ms v.n).level≤u.n:=fun u hu h3=>by
   rcases List.mem_append.1 hu with hu|hu
   ·have:=hb2 u hu;omega
   ·exact ⟨(hxA u hu).2.1,(hxA u hu).2.2.1⟩
  have hiP:(zCm (nmsF (zAi s.ms t.n)).length kp.1++ex.map (·.2)).Pairwise (fun b u=>isF u b=false):=by
   refine List.pairwise_append.2 ⟨zQ6 K.inc,?_,fun b hb u hu=>?_⟩
   ·rw [List.pairwise_map]
    refine X.inc.imp_of_mem fun {p q} hp hq hpq=>?_
    obtain ⟨a1,a2,a3,_⟩:=X.at_ p hp
    obtain ⟨b1,b2,b3,_⟩:=X.at_ q hq
    rw [Nat.sub_zero] at a3 b3
    rw [← a3,← b3]
    exact z04 V.pair (by omega) (by omega) (by omega)
   ·rw [zG1]
    left
    rw [(hxA u hu).1,hb2 b hb];decide
  have hiL:(zCm (nmsF (zAi s.ms t.n)).length kp.1++ex.map (·.2)).length=kp.1.length+ex.length:=by simp [zCm]
  generalize zCm (nmsF (zAi s.ms t.n)).length kp.1++ex.map (·.2)=ins at *
  have fin:zAv (s.ms++[new]) (sVar (s.ms.length:Int) ins) (zBg (zAi (s.ms++[new]) t.n).type)=true:=by
   rw [hT,← zKw]
   exact zJw (by omega) (by rw [hml];omega) (by rw [hm,ntyp,hiL]) hiA (fun u hu h3=>by have:=(hiH u hu h3).2;rw [hm,nlev];omega) hiP
  have sin:zEe (s.ms++[new]) (zAi (s.ms++[new]) t.n).level (sVar (s.ms.length:Int) ins)=true:=by
   rw [hT]
   exact zLl (by rw [hm,nlev];omega) (fun u hu=>⟨(hiA u hu).1,fun h3=>(hiH u hu h3).1⟩)
  have gnew:(s.ms++[new]).getD s.ms.length noVa=new:=by rw [zE6,if_pos rfl]
  have hT0:=T.n0
  have hT1:=T.n1
  have hV0:=V.n0
  have hV1:=V.n1
  have ain:AvT (s.ms++[new]) t.n.toNat (sVar (s.ms.length:Int) ins):=by
   intro k hk
   rw [zFy (t:=sVar (s.ms.length:Int) ins) rfl,List.mem_singleton] at hk
   subst hk
   refine ⟨by show (0:Int)≤(s.ms.length:Int);omega,?_⟩
   show Av (s.ms++[new]) t.n.toNat ((s.ms.length:Int)).toNat
   rw [Int.toNat_natCast]
   exact zUt (by omega) (by rw [gnew];exact nis)
  obtain ⟨I2,E2⟩:=zUd (s:=⟨s.ms++[new],s.wk⟩) I1 (n:=t.n) (b:=sVar (s.ms.length:Int) ins) hT0 (by rw [hml];omega) (by rw [hT];exact tu) fin sin (show (4:Int)≠5 by decide) (by rw [zLk (fun u hu=>(hiA u hu).1)];omega) ain
  have avm:Av (zH8 ⟨s.ms++[new],s.wk⟩ t.n (sVar (s.ms.length:Int) ins)).ms v.n.toNat s.ms.length:=by
   refine zUt (by omega) ?_
   show (((s.ms++[new]).set t.n.toNat _).getD _ _).is=false
   rw [zIn,if_neg (by omega),gnew];exact nis
  refine ⟨⟨I2,E1.trans E2,?_,?_,?_,?_,fun k hk=>?_,?_,Int.le_refl _⟩,rfl⟩
  ·show (zAi ((s.ms++[new]).set t.n.toNat _) v.n).is=false
   rw [zVf (by omega),hV];exact vu
  ·exact zEa E2 _ _ (zJw (by omega) (by rw [hml];omega) (by rw [hm,ntyp,hoL]) hoA (fun u hu h3=>by have:=(hoH u hu h3).2;rw [hm,nlev];omega) hoP)
  ·refine zLv E2 _ (v.args.length+d) (zJw (by omega) (by rw [hml];omega) (by rw [hm,ntyp,hoL]) hoA (fun u hu h3=>by have:=(hoH u hu h3).2;rw [hm,nlev];omega) hoP) (zLl (by rw [hm,nlev];omega) (fun u hu=>⟨(hoA u hu).1,fun h3=>(hoH u hu h3).1⟩))
  ·intro k hk
   rw [zFy (t:=sVar (s.ms.length:Int) o) rfl,List.mem_singleton] at hk
   subst hk
   exact ⟨by show (0:Int)≤(s.ms.length:Int);omega,by rw [show (sVar (s.ms.length:Int) o).n.toNat=s.ms.length from Int.toNat_natCast _];exact avm⟩
  ·refine yNb hneN (by rw [hml];omega) (fun j hj=>?_) (yAq nis hk)
   have hj':(j:Int) ∈ zBl (zDh (zBg (zAi (s.ms++[new]) t.n).type) (sVar (s.ms.length:Int) ins)):=hj
   rw [zLa,zFy (t:=sVar (s.ms.length:Int) ins) rfl,List.mem_singleton] at hj'
   obtain rfl:j=s.ms.length:=by have:(j:Int)=(s.ms.length:Int):=hj';omega
   exact avm
  ·rw [zLk (fun u hu=>(hoA u hu).1)]
   show ((o.length+1:Nat):Int)≤9 * (s.wk - s.wk)+9
   omega
end Go.Proofs.YthkjmiejaoomcaaGreat.Am
namespace Go.Proofs.YthkjmiejaoomcaaGreat.Am
open Go Go.RowKit Go.Proofs
set_option linter.unusedVariables false
set_option linter.unusedSimpArgs false
theorem zFn.ext {ms ms':List Va} {v:Term} {D:Int} (V:zFn ms v D) (e:ExtS ms ms'):zFn ms' v D:=by
 have hl:=e.len
 have h0:=V.n0
 have h1:=V.n1
 refine ⟨h0,by omega,V.args,fun u hu h3=>?_,V.pair,?_⟩
 ·rw [e.lev _ h0 h1];exact V.high u hu h3
 ·rw [e.typ _ h0 h1];exact V.ar
theorem zJ6 {s s':Sv} {deep:Int} (h:zGh s deep=.ok s'):s'=⟨s.ms,s.wk+1⟩∧s.wk+1≤40000∧deep≤400:=by
 unfold zGh at h
 split at h
 ·cases h
 ·rename_i h1
  split at h
  ·cases h
  ·rename_i h2
   injection h with h
   simp only [decide_eq_true_eq] at h1 h2
   exact ⟨h.symm,by omega,by omega⟩
theorem yGq {s s':Sv} {v t out:Term} {d:Int} (h:zI6 s v t d=.ok (s',out)):s'.wk=s.wk:=by
 unfold zI6 at h
 split at h
 ·cases h
 dsimp only at h
 split at h
 ·injection h with h;injection h with e1 _;rw [← e1]
 ·split at h
  ·cases h
  ·obtain ⟨⟨s1,m⟩,hfr,h⟩:=bind_ok h
   obtain ⟨_,e1,_⟩:=zJ1 hfr
   subst e1
   injection h with h;injection h with e1 _;rw [← e1];rfl
structure MapOk (s s':Sv) (v:Term) (d:Int) (l outs:List Term):Prop where
 inv:Inv s'.ms
 ext:ExtS s.ms s'.ms
 free:(zAi s'.ms v.n).is=false
 fits:∀ u ∈ outs,zAv s'.ms u (v.args.length+d)=true
 sees:∀ u ∈ outs,zEe s'.ms (zAi s.ms v.n).level u=true
 av:∀ u ∈ outs,AvT s'.ms v.n.toNat u
 mono:∀ k,Av s.ms v.n.toNat k→Av s'.ms v.n.toNat k
 size:(sizes outs:Int)≤9 * (s'.wk - s.wk)
 wk:s.wk≤s'.wk∧s'.wk≤40000
 len:outs.length=l.length
theorem map_ok {g:Sv→Term→Rz (Sv × Term)} {v:Term} {D d:Int}
  (hg:∀ (s:Sv) (t:Term) (s':Sv) (out:Term),Inv s.ms→s.wk≤40000→zFn s.ms v D→(zAi s.ms v.n).is=false→zAv s.ms t (D+d)=true→g s t=.ok (s',out)→yA4 0 s s' v d out∧s'.wk≤40000) :
  ∀ (l:List Term) (s s':Sv) (outs:List Term),Inv s.ms→s.wk≤40000→zFn s.ms v D→(zAi s.ms v.n).is=false→(∀ t ∈ l,zAv s.ms t (D+d)=true)→mapS g s l=.ok (s',outs)→MapOk s s' v d l outs
 |[],s,s',outs,I,hw,V,vu,hf,h=>by
  rw [mapS] at h
  injection h with h;injection h with e1 e2
  subst e1;subst e2
  exact ⟨I,ExtS.refl _,vu,fun u hu=>absurd hu List.not_mem_nil,fun u hu=>absurd hu List.not_mem_nil,fun u hu=>absurd hu List.not_mem_nil,fun k hk=>hk,by rw [sizes];omega,⟨Int.le_refl _,hw⟩,rfl⟩
 |t::l,s,s',outs,I,hw,V,vu,hf,h=>by
  rw [mapS] at h
  obtain ⟨⟨s1,x⟩,h1,h⟩:=bind_ok h
  obtain ⟨⟨s2,xs⟩,h2,h⟩:=bind_ok h
  injection h with h;injection h with e1 e2
  subst e1;subst e2
  obtain ⟨T,hw1⟩:=hg s t s1 x I hw V vu (hf t List.mem_cons_self) h1
  have M:=map_ok hg l s1 s2 xs T.inv hw1 (V.ext T.ext) T.free (fun u hu=>zEa T.ext _ _ (hf u (List.mem_cons_of_mem _ hu))) h2
  have hlev:=T.ext.lev v.n V.n0 V.n1
  have t1:=T.size
  have t2:=M.size
  have t3:=T.wk
  have t4:=M.wk
  refine ⟨M.inv,T.ext.trans M.ext,M.free,fun u hu=>?_,fun u hu=>?_,fun u hu=>?_,fun k hk=>M.mono k (T.mono k hk),?_,⟨by show s.wk≤s2.wk;omega,t4.2⟩,by rw [List.length_cons,List.length_cons,M.len]⟩
  ·rcases List.mem_cons.1 hu with rfl|hu
   ·exact zEa M.ext _ _ T.fits
   ·exact M.fits u hu
  ·rcases List.mem_cons.1 hu with rfl|hu
   ·exact zLv M.ext _ _ T.fits T.sees
   ·have:=M.sees u hu;rw [hlev] at this;exact this
  ·rcases List.mem_cons.1 hu with rfl|hu
   ·exact fun k hk=>⟨(T.av k hk).1,M.mono _ (T.av k hk).2⟩
   ·exact M.av u hu
  ·show ((sizes (x::xs):Nat):Int)≤9 * (s2.wk - s.wk)
   rw [sizes];omega
theorem zD3 {ms:List Va} (I:Inv ms) {t:Term} {d:Int} (hd:0≤d) (hf:zAv ms t d=true):zAv ms (zEx ms t) d=true∧(((zEx ms t).kind==4)=true→(zAi ms (zEx ms t).n).is=false)∧((zEx ms t).size≤t.size∨(zEx ms t).size≤400000)∧∃ k,zMs ms k t (zEx ms t):=by
 obtain ⟨k,h⟩:=z1p I hd hf
 refine ⟨h.fits,fun h4=>?_,h.size,k,h.hs⟩
 have:=h.flex
 rw [h4,Bool.true_and] at this
 exact this
theorem zZu {k n:Int} {s:ByteArray} {l:List Term} (h:k≠4):zBl ⟨k,n,s,l⟩=zBy l:=by
 rw [zBl,if_neg (by simpa using h)]
theorem zQv:∀ (l:List Term) (k:Int),k ∈ zBy l→∃ u ∈ l,k ∈ zBl u
 |[],k,h=>by rw [zBy] at h;exact absurd h List.not_mem_nil
 |t::l,k,h=>by
  rw [zBy] at h
  rcases List.mem_append.1 h with h|h
  ·exact ⟨t,List.mem_cons_self,h⟩
  ·obtain ⟨u,hu,hk⟩:=zQv l k h
   exact ⟨u,List.mem_cons_of_mem _ hu,hk⟩
theorem zI3 {v:Term} {D:Int} (hD:0≤D):∀ (f:Nat) (s:Sv) (t:Term) (d deep:Int) (s':Sv) (out:Term),Inv s.ms→0≤d→zFn s.ms v D→(zAi s.ms v.n).is=false→zAv s.ms t (D+d)=true→zIz f s v t d deep=.ok (s',out) →
  yA4 0 s s' v d out∧s'.wk≤40000∧(out.kind=5→(zEx s.ms t).kind=5):=by
 intro f
 induction f with
 |zero=>intro s t d deep s' out _ _ _ _ _ h;rw [zIz] at h;cases h
 |succ f ih =>
  intro s t d deep s' out I hd V vu hf h
  rw [zIz] at h
  obtain ⟨s1,hc,h⟩:=bind_ok h
  obtain ⟨e1,hw,_⟩:=zJ6 hc
  subst e1
  dsimp only at h
  obtain ⟨hfu,hflex,_,_⟩:=zD3 I (by omega:0≤D+d) hf
  generalize zEx s.ms t=u at *
  generalize hoe:(if zDy u.kind=true then zDe (zAi s.ms v.n).level v.args ⟨u.kind,u.n,zAr,[]⟩ d else (⟨u.kind,u.n,u.name,[]⟩,true))=o at h
  split at h
  ·rename_i h4
   obtain ⟨T,hk⟩:=yGr (s:=⟨s.ms,s.wk+1⟩) I hd V vu (zDn hfu h4) (hflex h4) h
   have hwk:=yGq h
   refine ⟨⟨T.inv,T.ext,T.free,T.fits,T.sees,T.av,T.mono,?_,?_⟩,?_,fun e=>by omega⟩
   ·have:=T.size;simp only at this hwk;omega
   ·simp only at hwk;omega
   ·simp only at hwk;omega
  ·rename_i h4
   have n4:u.kind≠4:=by simpa using h4
   split at h
   case isFalse=>cases h
   rename_i ho
   obtain ⟨⟨s2,outs⟩,hm,h⟩:=bind_ok h
   injection h with h;injection h with e1 e2
   have hfu':=hfu
   rw [zCu,Bool.and_eq_true] at hfu'
   have hin:inner u.kind (D+d)=D+inner u.kind d:=by unfold inner;split <;> omega
   have hin0:0≤inner u.kind d:=zEi hd
   rw [hin] at hfu'
   have M:=map_ok (D:=D) (d:=inner u.kind d) (fun s t s' out I hw V vu hf h=>⟨(ih s t _ _ s' out I hin0 V vu hf h).1,(ih s t _ _ s' out I hin0 V vu hf h).2.1⟩) u.args ⟨s.ms,s.wk+1⟩ s2 outs I hw V vu ((zCj _ _ _).1 hfu'.2) hm
   simp only at e1 e2
   subst e1
   have m1:=M.size
   have m2:=M.wk
   have h8:=zHk hfu
   have hlen:=M.len
   simp only at m1 m2
   have hhead:∃ k n nm,out=⟨k,n,nm,outs⟩∧zBb s2.ms k n nm outs (v.args.length+d)=true∧inner k ((v.args.length:Int)+d)=v.args.length+inner u.kind d∧(k=3→n<(zAi s.ms v.n).level)∧k≠4∧(k=5→u.kind=5):=by
    cases hvp:zDy u.kind
    ·rw [hvp] at hoe
     simp only [Bool.false_eq_true,if_false] at hoe
     subst hoe
     simp only at e2
     unfold zDy at hvp
     rw [Bool.or_eq_false_iff] at hvp
     have n2:u.kind≠2:=by simpa using hvp.1
     have n3:u.kind≠3:=by simpa using hvp.2
     refine ⟨u.kind,u.n,u.name,e2.symm,?_,by unfold inner;split <;> omega,fun e=>absurd e n3,n4,fun e=>e⟩
     have h1:=hfu'.1
     unfold zBb zA4 at h1 ⊢
     rw [hlen]
     simp [n2,n3,n4] at h1 ⊢
     exact h1
    ·rw [hvp] at hoe
     simp only [if_true] at hoe
     subst hoe
     have hk:u.kind=2∨u.kind=3:=by
      unfold zDy at hvp
      simpa using hvp
     have hA:zHu (D+d) ⟨u.kind,u.n,zAr,[]⟩:=by
      refine ⟨?_,rfl,fun e=>(show 0≤u.n∧u.n<D+d from zFv hfu e),fun e=>?_⟩
      ·unfold zAy;rcases hk with e|e <;> · rw [e];rfl
      ·have h1:=hfu'.1
       have e':u.kind=3:=e
       unfold zBb zA4 at h1
       rw [e'] at h1
       simp at h1
       show 0≤u.n∧u.n<60
       omega
     have P:=zNa (y:=⟨u.kind,u.n,zAr,[]⟩) hk ho
     obtain ⟨hz1,hz2⟩:=P.ok (D:=D) hd hA
     generalize (zDe (zAi s.ms v.n).level v.args ⟨u.kind,u.n,zAr,[]⟩ d).1=z at *
     have kz:=(zBi hz1.1).1
     refine ⟨z.kind,z.n,z.name,e2.symm,zUu hz1 outs (by omega),?_,fun e=>(hz2 e).1,by omega,fun e=>by omega⟩
     unfold inner
     rw [if_neg (by simp;omega),if_neg (by simp;omega)]
   obtain ⟨k,n,nm,rfl,hh1,hh2,hh3,hh4,hh5⟩:=hhead
   refine ⟨⟨M.inv,M.ext,M.free,?_,?_,?_,M.mono,?_,by omega⟩,by omega,hh5⟩
   ·rw [zAv,Bool.and_eq_true]
    refine ⟨hh1,(zCj _ _ _).2 fun w hw=>?_⟩
    rw [hh2];exact M.fits w hw
   ·rw [zEe,Bool.and_eq_true]
    refine ⟨?_,(zLw _ _ _).2 M.sees⟩
    unfold zFg
    by_cases e3:k=3
    ·have:=hh3 e3;subst e3;simp;omega
    ·simp [e3,hh4]
   ·intro j hj
    rw [zZu hh4] at hj
    obtain ⟨w,hw,hj⟩:=zQv _ _ hj
    exact M.av w hw j hj
   ·rw [Term.size];omega
structure zIs (s s':Sv):Prop where
 inv:Inv s'.ms
 ext:ExtS s.ms s'.ms
theorem zIs.of {s s1 s':Sv} (S:zIs s1 s') (e:s1.ms=s.ms):zIs s s':=⟨S.inv,by rw [← e];exact S.ext⟩
theorem z8b {s s':Sv} (I:Inv s.ms) {n:Int} {keep:List Nat} (h0:0≤n) (h1:n<(s.ms.length:Int)) (hu:(zAi s.ms n).is=false) (hk:∀ k ∈ keep,k<zBg (zAi s.ms n).type) (hp:keep.Pairwise (·<·)) (h8:keep.length≤8) (h:zFi s n keep=.ok s'):zIs s s':=by
 unfold zFi at h
 dsimp only at h
 obtain ⟨⟨s1,m⟩,hfr,h⟩:=bind_ok h
 obtain ⟨hlt,e1,e2⟩:=zJ1 hfr
 subst e1;subst e2
 simp only at h
 injection h with h
 subst h
 have tyv:=(I.val _ (zLo h0 h1)).ty
 have nb:=zT4 tyv
 have lv:=zPc tyv
 have hnl:(zA7 (nmsF (zAi s.ms n)) keep).length=keep.length:=by simp [zA7]
 obtain ⟨hty,har⟩:=z0h (lv:=(zAi s.ms n).level) (zNh nb.1 hk) nb.2 (by omega) lv.2.1 lv.2.2
 rw [hnl] at har
 have I1:=zWv I hlt hty
 have E1:=zNl s.ms (zJi (zAi s.ms n).level (zBp (zA7 (nmsF (zAi s.ms n)) keep) (zCe (zAi s.ms n).type)))
 generalize hNew:zJi (zAi s.ms n).level (zBp (zA7 (nmsF (zAi s.ms n)) keep) (zCe (zAi s.ms n).type))=new at *
 have nlev:new.level=(zAi s.ms n).level:=by rw [← hNew];rfl
 have ntyp:zBg new.type=keep.length:=by rw [← hNew];exact har
 have nis:new.is=false:=by rw [← hNew];rfl
 have hm:zAi (s.ms++[new]) (s.ms.length:Int)=new:=zVg _ _
 have hT:zAi (s.ms++[new]) n=zAi s.ms n:=zPa h0 h1
 have hml:(s.ms++[new]).length=s.ms.length+1:=by simp
 have hba:=zZ1 (n:=(nmsF (zAi s.ms n)).length) (keep:=keep) hk
 have hb2:∀ u ∈ zCm (nmsF (zAi s.ms n)).length keep,u.kind=2:=fun u hu=>by
  obtain ⟨k,_,rfl⟩:=List.mem_map.1 hu;rfl
 have hbl:(zCm (nmsF (zAi s.ms n)).length keep).length=keep.length:=by simp [zCm]
 have hbp:=zQ6 (n:=(nmsF (zAi s.ms n)).length) hp
 generalize zCm (nmsF (zAi s.ms n)).length keep=ins at *
 have gnew:(s.ms++[new]).getD s.ms.length noVa=new:=by rw [zE6,if_pos rfl]
 obtain ⟨I2,E2⟩:=zUd (s:=⟨s.ms++[new],s.wk⟩) I1 (n:=n) (b:=sVar (s.ms.length:Int) ins) h0 (by rw [hml];omega) (by rw [hT];exact hu)
  (by rw [hT,← zKw];exact zJw (by omega) (by rw [hml];omega) (by rw [hm,ntyp,hbl]) hba (fun u hu h3=>by have:=hb2 u hu;omega) hbp)
  (by rw [hT];exact zLl (by rw [hm,nlev];omega) (fun u hu=>⟨(hba u hu).1,fun h3=>by have:=hb2 u hu;omega⟩))
  (show (4:Int)≠5 by decide) (by rw [zLk (fun u hu=>(hba u hu).1)];omega) (fun k hk=>by
   rw [zFy (t:=sVar (s.ms.length:Int) ins) rfl,List.mem_singleton] at hk
   subst hk
   refine ⟨by show (0:Int)≤(s.ms.length:Int);omega,?_⟩
   show Av (s.ms++[new]) n.toNat ((s.ms.length:Int)).toNat
   rw [Int.toNat_natCast]
   exact zUt (by omega) (by rw [gnew];exact nis))
 exact ⟨I2,E1.trans E2⟩
theorem zYp:∀ (l m:List Term) (i:Nat),(∀ k ∈ zGa l m i,i≤k∧k<i+l.length)∧(zGa l m i).Pairwise (·<·)∧(zGa l m i).length≤l.length
 |[],m,i=>by unfold zGa;exact ⟨fun k hk=>absurd hk List.not_mem_nil,List.Pairwise.nil,Nat.le_refl _⟩
 |a::l,[],i=>by unfold zGa;exact ⟨fun k hk=>absurd hk List.not_mem_nil,List.Pairwise.nil,Nat.zero_le _⟩
 |a::l,b::m,i=>by
  obtain ⟨h1,h2,h3⟩:=zYp l m (i+1)
  rw [zGa]
  split
  ·refine ⟨fun k hk=>?_,List.pairwise_cons.2 ⟨fun k hk=>(h1 k hk).1,h2⟩,by simpa using h3⟩
   rw [List.length_cons]
   rcases List.mem_cons.1 hk with rfl|hk
   ·omega
   ·have:=h1 k hk;omega
  ·refine ⟨fun k hk=>?_,h2,Nat.le_succ_of_le h3⟩
   have:=h1 k hk;rw [List.length_cons];omega
theorem yEq {s s':Sv} (I:Inv s.ms) {a b:Term} {D:Int} (A:zFn s.ms a D) (hu:(zAi s.ms a.n).is=false) (h:zGm s a b=.ok s'):zIs s s':=by
 unfold zGm at h
 split at h
 ·obtain ⟨h1,h2,h3⟩:=zYp a.args b.args 0
  have h8:=zEb (zAi s.ms a.n).type
  have har:=A.ar
  exact z8b I A.n0 A.n1 hu (fun k hk=>by have:=h1 k hk;omega) h2 (by omega) h
 ·injection h with h;subst h;exact ⟨I,ExtS.refl _⟩
theorem zXr {s s':Sv} (I:Inv s.ms) {v t:Term} {D:Int} (hD:0≤D) (hw0:0≤s.wk) (V:zFn s.ms v D) (vu:(zAi s.ms v.n).is=false) (hf:zAv s.ms t D=true) (hflex:((t.kind==4)=true→(zAi s.ms t.n).is=false)) (h:zEy s v t=.ok s'):zIs s s':=by
 unfold zEy at h
 split at h
 ·cases h
 rename_i h5
 obtain ⟨⟨s1,b⟩,ht,h⟩:=bind_ok h
 injection h with h
 subst h
 have hh:zEx s.ms t=t:=head_eq (.done (by
  cases h4:(t.kind==4)
  ·rfl
  ·rw [hflex h4];rfl))
 obtain ⟨T,hw,hk⟩:=zI3 hD 402 s t 0 0 s1 b I (Int.le_refl _) V vu (by rw [Int.add_zero];exact hf) ht
 rw [hh] at hk
 have h0:=V.n0
 have h1:=V.n1
 have hl:=T.ext.len
 have hsz:=T.size
 have hty:=T.ext.typ _ h0 h1
 have hlv:=T.ext.lev _ h0 h1
 have hfit:=T.fits
 rw [Int.add_zero] at hfit
 have hse:=T.sees
 obtain ⟨I2,E2⟩:=zUd (s:=s1) T.inv (n:=v.n) (b:=b) h0 (by omega) T.free (by rw [hty,V.ar];exact hfit) (by rw [hlv];exact hse) (fun e=>by have:=hk e;simp at h5;exact h5 this) (by omega) T.av
 exact ⟨I2,T.ext.trans E2⟩
theorem z9z {g:Sv→Term→Term→Rz Sv} {d:Int} (hg:∀ (s:Sv) (a b:Term) (s':Sv),Inv s.ms→0≤s.wk→zAv s.ms a d=true→zAv s.ms b d=true→g s a b=.ok s'→zIs s s'∧0≤s'.wk) :
  ∀ (l m:List Term) (s s':Sv),Inv s.ms→0≤s.wk→(∀ t ∈ l,zAv s.ms t d=true)→(∀ t ∈ m,zAv s.ms t d=true)→zH4 g s l m=.ok s'→zIs s s'∧0≤s'.wk
 |a::l,b::m,s,s',I,hw,hl,hm,h=>by
  rw [zH4] at h
  obtain ⟨s1,h1,h⟩:=bind_ok h
  obtain ⟨S,hw1⟩:=hg s a b s1 I hw (hl a List.mem_cons_self) (hm b List.mem_cons_self) h1
  obtain ⟨S2,hw2⟩:=z9z hg l m s1 s' S.inv hw1 (fun t ht=>zEa S.ext _ _ (hl t (List.mem_cons_of_mem _ ht))) (fun t ht=>zEa S.ext _ _ (hm t (List.mem_cons_of_mem _ ht))) h
  exact ⟨⟨S2.inv,S.ext.trans S2.ext⟩,hw2⟩
 |[],m,s,s',I,hw,hl,hm,h=>by
  unfold zH4 at h
  injection h with h;subst h;exact ⟨⟨I,ExtS.refl _⟩,hw⟩
 |a::l,[],s,s',I,hw,hl,hm,h=>by
  unfold zH4 at h
  injection h with h;subst h;exact ⟨⟨I,ExtS.refl _⟩,hw⟩
theorem zWd {s s':Sv} {n:Int} {keep:List Nat} (h:zFi s n keep=.ok s'):s'.wk=s.wk:=by
 unfold zFi at h
 dsimp only at h
 obtain ⟨⟨s1,m⟩,hfr,h⟩:=bind_ok h
 obtain ⟨_,e1,_⟩:=zJ1 hfr
 subst e1
 injection h with h;subst h;rfl
theorem zOn:∀ (f:Nat) (s:Sv) (a b:Term) (d deep:Int) (s':Sv),Inv s.ms→0≤s.wk→0≤d→zAv s.ms a d=true→zAv s.ms b d=true→zDo f s a b deep=.ok s'→zIs s s'∧0≤s'.wk:=by
 intro f
 induction f with
 |zero=>intro s a b d deep s' _ _ _ _ _ h;rw [zDo] at h;cases h
 |succ f ih =>
  intro s a b d deep s' I hw hd ha hb h
  rw [zDo] at h
  obtain ⟨s1,hc,h⟩:=bind_ok h
  obtain ⟨e1,hw1,_⟩:=zJ6 hc
  subst e1
  dsimp only at h
  obtain ⟨hfa,hxa,_,_⟩:=zD3 I hd ha
  obtain ⟨hfb,hxb,_,_⟩:=zD3 I hd hb
  generalize zEx s.ms a=a at *
  generalize zEx s.ms b=b at *
  split at h
  ·rename_i hc
   simp only [Bool.and_eq_true] at hc
   refine ⟨(yEq (s:=⟨s.ms,s.wk+1⟩) I (zDn hfa hc.1) (hxa hc.1) h).of rfl,?_⟩
   unfold zGm at h
   split at h
   ·have:=zWd h;simp only at this;omega
   ·injection h with h;subst h;simp only;omega
  ·split at h
   ·rename_i h4
    refine ⟨(zXr (s:=⟨s.ms,s.wk+1⟩) I hd (by show 0≤s.wk+1;omega) (zDn hfa h4) (hxa h4) hfb hxb h).of rfl,?_⟩
    unfold zEy at h
    split at h
    ·cases h
    obtain ⟨⟨s1,x⟩,ht,h⟩:=bind_ok h
    injection h with h
    subst h
    have T:=(zI3 hd 402 ⟨s.ms,s.wk+1⟩ b 0 0 s1 x I (Int.le_refl _) (zDn hfa h4) (hxa h4) (by rw [Int.add_zero];exact hfb) ht).1
    have:=T.wk
    simp only at this
    show 0≤s1.wk
    omega
   ·split at h
    ·rename_i h4
     refine ⟨(zXr (s:=⟨s.ms,s.wk+1⟩) I hd (by show 0≤s.wk+1;omega) (zDn hfb h4) (hxb h4) hfa hxa h).of rfl,?_⟩
     unfold zEy at h
     split at h
     ·cases h
     obtain ⟨⟨s1,x⟩,ht,h⟩:=bind_ok h
     injection h with h
     subst h
     have T:=(zI3 hd 402 ⟨s.ms,s.wk+1⟩ a 0 0 s1 x I (Int.le_refl _) (zDn hfb h4) (hxb h4) (by rw [Int.add_zero];exact hfa) ht).1
     have:=T.wk
     simp only at this
     show 0≤s1.wk
     omega
    ·split at h
     ·cases h
     rename_i hu
     have hkk:a.kind=b.kind:=by
      unfold zF9 at hu
      simp at hu
      exact hu.1
     have ga:=hfa
     have gb:=hfb
     rw [zCu,Bool.and_eq_true] at ga gb
     rw [← hkk] at gb
     have E:=z9z (d:=inner a.kind d) (fun s a b s' I hw ha hb h=>ih s a b _ _ s' I hw (zEi hd) ha hb h) a.args b.args ⟨s.ms,s.wk+1⟩ s' I (by show 0≤s.wk+1;omega) ((zCj _ _ _).1 ga.2) ((zCj _ _ _).1 gb.2) h
     exact ⟨E.1.of rfl,E.2⟩
end Go.Proofs.YthkjmiejaoomcaaGreat.Am
namespace Go.Proofs.YthkjmiejaoomcaaGreat.Am
open Go Go.RowKit Go.Proofs
set_option linter.unusedVariables false
set_option linter.unusedSimpArgs false
theorem zXq {t:Ty} (h:zBn t=true):t.size=1:=by
 unfold zBn at h
 simp only [Bool.and_eq_true,beq_iff_eq] at h
 obtain ⟨n,l⟩:=t
 have:l=[]:=List.eq_nil_of_length_eq_zero (by have:=h.1.1.1;simp only at this;omega)
 subst this
 rw [Ty.size,zI5]
theorem yAs:∀ (s:Nat) (t:Ty) (out l:List ByteArray),t.size≤s→out.length≤8→zFc t out=some l→t.size≤2 * (8 - out.length)+1:=by
 intro s
 induction s with
 |zero=>intro t out l ht;obtain ⟨a,b⟩:=t;rw [Ty.size] at ht;omega
 |succ s ih =>
  intro t out l ht ho hg
  cases h:(zFl t.name&&(t.args.length:Int)==2)
  ·rw [zEs out h,zFm] at hg
   split at hg
   ·rename_i hb
    have:=zXq hb;omega
   ·cases hg
  ·rw [Bool.and_eq_true] at h
   obtain ⟨a,b,hab,he,hlt⟩:=zH9 out h.1 h.2
   rw [he] at hg
   split at hg
   ·cases hg
   ·rename_i hn
    simp only [Bool.or_eq_true,not_or,Bool.not_eq_true',Bool.not_eq_false,beq_iff_eq] at hn
    have h8:out.length<8:=by
     have:=hn.2
     omega
    have h1:=ih b (out++[a.name]) l (by omega) (by simp;omega) hg
    have h2:=zXq hn.1
    obtain ⟨n,m⟩:=t
    simp only at hab
    subst hab
    rw [Ty.size,zI5,zI5,zI5,h2]
    simp only [List.length_append,List.length_singleton] at h1
    omega
theorem zVi {t:Ty} (h:(zD2 t).isSome=true):t.size≤17:=by
 cases ha:zD2 t with
 |none=>rw [ha] at h;cases h
 |some l =>
  have:=yAs t.size t [] l (Nat.le_refl _) (by decide) ha
  simp only [List.length_nil] at this
  omega
theorem z5c {t:Term} (h:zIm t=true):t.size=1:=by
 unfold zIm at h
 simp only [Bool.and_eq_true,beq_iff_eq] at h
 obtain ⟨k,n,s,l⟩:=t
 have:l=[]:=List.eq_nil_of_length_eq_zero (by have:=h.2;simp only at this;omega)
 subst this
 rw [Term.size,sizes]
theorem zQz {vs:List Va} (h:(zA1 vs==0)=true):∀ v ∈ vs,v.type.size≤1000000000∧v.t.size≤1000000000:=by
 have h0:zA1 vs=0:=by simpa using h
 unfold zA1 at h0
 split at h0
 ·cases h0
 ·split at h0
  ·cases h0
  ·rename_i hl
   have hl':zKc vs 4000=false:=by simpa using hl
   split at h0
   ·rename_i hall
    intro v hv
    rw [List.all_eq_true] at hall
    have hva:=hall v hv
    unfold zFe zFf at hva
    simp only [Bool.and_eq_true] at hva
    have h1:=zVi hva.1.1
    refine ⟨by omega,?_⟩
    have h2:=hva.2
    cases hi:v.is
    ·rw [hi] at h2
     have:=z5c (by simpa using h2);omega
    ·have:=zGr vs 4000 hl' v hv hi;omega
   ·cases h0
end Go.Proofs.YthkjmiejaoomcaaGreat.Am
namespace Go.Proofs.YthkjmiejaoomcaaGreat.Am
open Go Go.RowKit Go.Proofs
set_option linter.unusedVariables false
set_option linter.unusedSimpArgs false
end Go.Proofs.YthkjmiejaoomcaaGreat.Am
namespace Go.Proofs.YthkjmiejaoomcaaGreat.Am
open Go Go.RowKit Go.Proofs
set_option linter.unusedVariables false
set_option linter.unusedSimpArgs false
end Go.Proofs.YthkjmiejaoomcaaGreat.Am
