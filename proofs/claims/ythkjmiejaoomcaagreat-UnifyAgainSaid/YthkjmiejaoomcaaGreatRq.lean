/- Part of the proof of a law of layer 5: own texts, joined. -/
import Derived.Test.YthkjmiejaoomcaaGreatRo
import Derived.Test.YthkjmiejaoomcaaGreatRp
import Derived.Test.YthkjmiejaoomcaaGreatRi
import Derived.Laws.Strings
set_option linter.unusedVariables false
set_option linter.unusedSimpArgs false
set_option linter.unnecessarySimpa false
namespace Go.Proofs.YthkjmiejaoomcaaGreat.Am
open Go Go.RowKit Go.Proofs
set_option linter.unusedVariables false
set_option linter.unusedSimpArgs false
inductive Rz (α:Type) where
 |ok (a:α)
 |clash
 |large (e:Int)
def Rz.bind {α β:Type} (r:Rz α) (f:α→Rz β):Rz β:=match r with
 |.ok a=>f a
 |.clash=>.clash
 |.large e=>.large e
structure Sv where
 ms:List Va
 wk:Int
abbrev sBnd (n:Int):Term:=⟨2,n,zAr,[]⟩
abbrev sVar (n:Int) (l:List Term):Term:=⟨4,n,zAr,l⟩
def nmsF (v:Va):List ByteArray:=(zDu v.type).getD []
theorem zJg (v:Va):(nmsF v).length=zBj v.type:=rfl
inductive zS8 (ms:List Va):Nat→Term→Term→Prop
 |done {t:Term} (h:(t.kind==4&&(zAi ms t.n).is)=false):zS8 ms 0 t t
 |step {t u:Term} {k:Nat} (h4:(t.kind==4)=true) (hi:(zAi ms t.n).is=true) (hs:zS8 ms k (zBi (zCp ms t) t.args 0) u):zS8 ms (k+1) t u
theorem zS8.det {ms:List Va} {t u:Term} {k:Nat} (h:zS8 ms k t u):∀ {w:Term} {j:Nat},zS8 ms j t w→u=w:=by
 induction h with
 |done h =>
  intro w j k
  cases k with
  |done _=>rfl
  |step h4 hi _=>rw [h4,hi] at h;cases h
 |step h4 hi _ ih =>
  intro w j k
  cases k with
  |done h=>rw [h4,hi] at h;cases h
  |step _ _ hs=>exact ih hs
noncomputable def zDx (ms:List Va) (t:Term):Term:=@dite _ (∃ u k,zS8 ms k t u) (Classical.propDecidable _) (fun h=>Classical.choose h) (fun _=>t)
theorem head_eq {ms:List Va} {t u:Term} {k:Nat} (h:zS8 ms k t u):zDx ms t=u:=by
 have hx:∃ u k,zS8 ms k t u:=⟨u,k,h⟩
 unfold zDx
 rw [dif_pos hx]
 obtain ⟨j,hj⟩:=Classical.choose_spec hx
 exact hj.det h
def zGh (s:Sv) (deep:Int):Rz Sv:=if decide (s.wk+1>40000) then .large 2 else if decide (deep>400) then .large 5 else .ok ⟨s.ms,s.wk+1⟩
def zF8 (s:Sv) (lv:Int) (ty:Ty):Rz (Sv × Int):=if decide ((s.ms.length:Int)≥2000) then .large 2 else .ok (⟨s.ms++[zMb lv ty],s.wk⟩,s.ms.length)
def zEs:Nat→Term→Term
 |0,t=>t
 |n+1,t=>zEs n ⟨5,0,zAr,[t]⟩
def zLk (v:Va) (b:Term):Va:=⟨v.level,v.type,true,zEs (zBj v.type) b⟩
def zIm (s:Sv) (n:Int) (b:Term):Sv:=⟨s.ms.set n.toNat (zLk (zAi s.ms n) b),s.wk⟩
def zBs:List ByteArray→Ty→Ty
 |[],to=>to
 |a::l,to=>⟨⟨#[45,62]⟩,[⟨a,[]⟩,zBs l to]⟩
def zMv:List Term→Term→Nat→Option Nat
 |[],_,_=>none
 |a::l,y,i=>if isF a y then some i else zMv l y (i+1)
def zJd (us:List Term) (y:Term) (d:Int):Term × Bool:=match zMv us y 0 with
 |some i=>(sBnd ((us.length:Int) - 1 - i+d),true)
 |none=>(y,false)
def zDo (lv:Int) (us:List Term) (y:Term) (d:Int):Term × Bool :=
 if y.kind==2 then (if decide (y.n<d) then (y,true) else zJd us ⟨y.kind,y.n - d,y.name,y.args⟩ d)
 else if y.kind==3&&decide (y.n<lv) then (y,true) else zJd us y d
def zF7 (lv:Int) (us:List Term) (d:Int):List Term→Nat→List Nat × List Term
 |[],_=>([],[])
 |y::l,i=>if (zDo lv us y d).2 then (i::(zF7 lv us d l (i+1)).1,(zDo lv us y d).1::(zF7 lv us d l (i+1)).2) else zF7 lv us d l (i+1)
def zWo (olv wlv:Int) (a:Term):Bool:=a.kind==3&&(decide (a.n<wlv)&&decide (a.n≥olv))
def zI0 (olv wlv:Int):List Term→Nat→List (Nat × Term)
 |[],_=>[]
 |a::l,i=>if zWo olv wlv a then (i,a)::zI0 olv wlv l (i+1) else zI0 olv wlv l (i+1)
def zCn (n:Nat) (keep:List Nat):List Term:=keep.map fun (k:Nat)=>sBnd ((n:Int) - 1 - (k:Int))
def zA9 (l:List ByteArray) (keep:List Nat):List ByteArray:=keep.map fun k=>l.getD k zAr
def zMa (s:Sv) (v t:Term) (d:Int):Rz (Sv × Term) :=
 if t.n==v.n then .clash else
 let own:=zAi s.ms v.n
 let w:=zAi s.ms t.n
 let kp:=zF7 own.level v.args d t.args 0
 let ex:=zI0 own.level w.level v.args 0
 let out:=kp.2++ex.map fun p=>sBnd ((v.args.length:Int) - 1 - p.1+d)
 if (kp.1.length:Int)==(nmsF w).length&&decide (w.level≤own.level) then .ok (s,sVar t.n out)
 else if decide ((kp.1.length:Int)+ex.length>8) then .large 2
 else (zF8 s (min w.level own.level) (zBs (zA9 (nmsF w) kp.1++zA9 (nmsF own) (ex.map (·.1))) (zCb w.type))).bind fun r =>
  .ok (zIm r.1 t.n (sVar r.2 (zCn (nmsF w).length kp.1++ex.map (·.2))),sVar r.2 out)
def mapS (g:Sv→Term→Rz (Sv × Term)):Sv→List Term→Rz (Sv × List Term)
 |s,[]=>.ok (s,[])
 |s,t::ts=>(g s t).bind fun r=>(mapS g r.1 ts).bind fun q=>.ok (q.1,r.2::q.2)
def zDf (k:Int):Bool:=k==2||k==3
noncomputable def zKw:Nat→Sv→Term→Term→Int→Int→Rz (Sv × Term)
 |0,_,_,_,_,_=>.large 5
 |f+1,s,v,t,d,deep=>(zGh s deep).bind fun s =>
  let t:=zDx s.ms t
  if t.kind==4 then zMa s v t d
  else
   let o:=if zDf t.kind then zDo (zAi s.ms v.n).level v.args ⟨t.kind,t.n,zAr,[]⟩ d else (⟨t.kind,t.n,t.name,[]⟩,true)
   if o.2 then (mapS (fun s a=>zKw f s v a (inner t.kind d) (deep+1)) s t.args).bind fun r=>.ok (r.1,⟨o.1.kind,o.1.n,o.1.name,r.2⟩)
   else .clash
def zGa (s:Sv) (n:Int) (keep:List Nat):Rz Sv :=
 let v:=zAi s.ms n
 (zF8 s v.level (zBs (zA9 (nmsF v) keep) (zCb v.type))).bind fun r=>.ok (zIm r.1 n (sVar r.2 (zCn (nmsF v).length keep)))
def zDj:List Term→List Term→Nat→List Nat
 |a::l,b::m,i=>if isF a b then i::zDj l m (i+1) else zDj l m (i+1)
 |_,_,_=>[]
def zGi (s:Sv) (a b:Term):Rz Sv:=if decide (((zDj a.args b.args 0).length:Int)<a.args.length) then zGa s a.n (zDj a.args b.args 0) else .ok s
noncomputable def zE3 (s:Sv) (v t:Term):Rz Sv:=if t.kind==5 then .clash else (zKw 402 s v t 0 0).bind fun r=>.ok (zIm r.1 v.n r.2)
def zI2 (g:Sv→Term→Term→Rz Sv):Sv→List Term→List Term→Rz Sv
 |s,a::l,b::m=>(g s a b).bind fun s=>zI2 g s l m
 |s,_,_=>.ok s
def zGf (a b:Term):Bool:=!(a.kind==b.kind)||(!(a.n==b.n)||(!(a.name.toList==b.name.toList)||!((a.args.length:Int)==b.args.length)))
noncomputable def zDi:Nat→Sv→Term→Term→Int→Rz Sv
 |0,_,_,_,_=>.large 5
 |f+1,s,a,b,deep=>(zGh s deep).bind fun s =>
  let a:=zDx s.ms a
  let b:=zDx s.ms b
  if a.kind==4&&(b.kind==4&&a.n==b.n) then zGi s a b
  else if a.kind==4 then zE3 s a b
  else if b.kind==4 then zE3 s b a
  else if zGf a b then .clash
  else zI2 (fun s a b=>zDi f s a b (deep+1)) s a.args b.args
end Go.Proofs.YthkjmiejaoomcaaGreat.Am
namespace Go.Proofs.YthkjmiejaoomcaaGreat.Am
open Go Go.RowKit Go.Proofs
set_option linter.unusedVariables false
set_option linter.unusedSimpArgs false
structure ExtS (ms ms':List Va):Prop where
 len:ms.length≤ms'.length
 lev:∀ n:Int,0≤n→n<(ms.length:Int)→(zAi ms' n).level=(zAi ms n).level
 typ:∀ n:Int,0≤n→n<(ms.length:Int)→(zAi ms' n).type=(zAi ms n).type
 kept:∀ n:Int,0≤n→n<(ms.length:Int)→(zAi ms n).is=true→zAi ms' n=zAi ms n
theorem ExtS.refl (ms:List Va):ExtS ms ms:=⟨Nat.le_refl _,fun _ _ _=>rfl,fun _ _ _=>rfl,fun _ _ _ _=>rfl⟩
theorem ExtS.trans {a b c:List Va} (h:ExtS a b) (k:ExtS b c):ExtS a c:=by
 have hl:=h.len
 refine ⟨Nat.le_trans h.len k.len,fun n h0 h1=>?_,fun n h0 h1=>?_,fun n h0 h1 hi=>?_⟩
 ·rw [k.lev n h0 (by omega),h.lev n h0 h1]
 ·rw [k.typ n h0 (by omega),h.typ n h0 h1]
 ·have:=h.kept n h0 h1 hi
  rw [k.kept n h0 (by omega) (by rw [this];exact hi),this]
theorem yJ0 {ms ms':List Va} (e:ExtS ms ms') {k n:Int} {s:ByteArray} {l:List Term} {d:Int} (h:zA4 ms k n s l d=true):zA4 ms' k n s l d=true:=by
 unfold zA4 zA1 at h ⊢
 by_cases h4:k=4
 ·subst h4
  have hl:=e.len
  simp only [Bool.and_eq_true,Bool.not_eq_true',decide_eq_false_iff_not] at h ⊢
  simp at h ⊢
  have a:=e.lev n (by omega) (by omega)
  have b:=e.typ n (by omega) (by omega)
  refine ⟨h.1,h.2.1,h.2.2.1,h.2.2.2.1,by omega,?_⟩
  have h5:=h.2.2.2.2.2
  unfold zB4 at h5 ⊢
  rw [a,b];exact h5
 ·have:(k==4)=false:=by simpa using h4
  simp only [this] at h ⊢
  exact h
mutual
theorem zBw {ms ms':List Va} (e:ExtS ms ms'):∀ (t:Term) (d:Int),zAw ms t d=true→zAw ms' t d=true
 |⟨k,n,s,l⟩,d,h=>by
  rw [zAw,Bool.and_eq_true] at h ⊢
  exact ⟨yJ0 e h.1,z6p e l _ h.2⟩
theorem z6p {ms ms':List Va} (e:ExtS ms ms'):∀ (l:List Term) (d:Int),zD3 ms l d=true→zD3 ms' l d=true
 |[],d,h=>by rw [zD3]
 |t::l,d,h=>by
  rw [zD3,Bool.and_eq_true] at h ⊢
  exact ⟨zBw e t d h.1,z6p e l d h.2⟩
end
theorem yGt {ms:List Va} {k n:Int} {s:ByteArray} {l:List Term} {d:Int} (h:zA4 ms k n s l d=true) (h4:k=4):0≤n∧n<(ms.length:Int):=by
 subst h4
 unfold zA4 zA1 at h
 simp at h
 omega
mutual
theorem zLt {ms ms':List Va} (e:ExtS ms ms') {lv:Int}:∀ (t:Term) (d:Int),zAw ms t d=true→zFn ms lv t=true→zFn ms' lv t=true
 |⟨k,n,s,l⟩,d,hf,h=>by
  rw [zAw,Bool.and_eq_true] at hf
  rw [zFn,Bool.and_eq_true] at h ⊢
  refine ⟨?_,z5d e l _ hf.2 h.2⟩
  have h1:=h.1
  unfold zFr at h1 ⊢
  by_cases h4:k=4
  ·have:=yGt hf.1 h4
   rw [e.lev n this.1 this.2];exact h1
  ·have:(k==4)=false:=by simpa using h4
   simp only [this] at h1 ⊢
   exact h1
theorem z5d {ms ms':List Va} (e:ExtS ms ms') {lv:Int}:∀ (l:List Term) (d:Int),zD3 ms l d=true→zM0 ms lv l=true→zM0 ms' lv l=true
 |[],d,_,h=>by rw [zM0]
 |t::l,d,hf,h=>by
  rw [zD3,Bool.and_eq_true] at hf
  rw [zM0,Bool.and_eq_true] at h ⊢
  exact ⟨zLt e t d hf.1 h.1,z5d e l d hf.2 h.2⟩
end
structure yKr (ms:List Va) (v:Va):Prop where
 ty:zFd v=true
 val:v.is=true→(zDe (zBj v.type) v.t).2=true∧zAw ms (zDe (zBj v.type) v.t).1 (zBj v.type)=true∧zFn ms v.level (zDe (zBj v.type) v.t).1=true∧v.t.size≤400000
 no:v.is=false→v.t.size≤400000
theorem yKr.ext {ms ms':List Va} (e:ExtS ms ms') {v:Va} (h:yKr ms v):yKr ms' v :=
 ⟨h.ty,fun hi=>⟨(h.val hi).1,zBw e _ _ (h.val hi).2.1,zLt e _ _ (h.val hi).2.1 (h.val hi).2.2.1,(h.val hi).2.2.2⟩,h.no⟩
def En (ms:List Va) (k n:Nat):Prop:=(ms.getD n noVa).is=true∧(k:Int) ∈ zBu (ms.getD n noVa).t
structure Inv (ms:List Va):Prop where
 len:ms.length≤2000
 val:∀ v ∈ ms,yKr ms v
 acc:∀ n,Acc (En ms) n
inductive Av (ms:List Va) (n:Nat):Nat→Prop
 |mk {k:Nat} (h:k≠n) (hs:∀ j,En ms j k→Av ms n j):Av ms n k
def AvT (ms:List Va) (n:Nat) (t:Term):Prop:=∀ k ∈ zBu t,0≤k∧Av ms n k.toNat
theorem zJl (ms:List Va) (n:Nat) (w:Va) (k:Nat):(ms.set n w).getD k noVa=if k=n∧n<ms.length then w else ms.getD k noVa:=by
 rw [List.getD_eq_getElem?_getD,List.getD_eq_getElem?_getD,List.getElem?_set]
 by_cases h:n=k
 ·subst h
  by_cases h2:n<ms.length
  ·simp [h2]
  ·simp [h2]
 ·rw [if_neg h,if_neg (fun e=>h e.1.symm)]
theorem zFw (ms:List Va) (w:Va) (k:Nat):(ms++[w]).getD k noVa=if k=ms.length then w else ms.getD k noVa:=by
 rw [List.getD_eq_getElem?_getD,List.getD_eq_getElem?_getD]
 by_cases h:k<ms.length
 ·rw [List.getElem?_append_left h,if_neg (by omega)]
 ·rw [List.getElem?_append_right (by omega)]
  by_cases h2:k=ms.length
  ·subst h2;simp
  ·rw [if_neg h2,List.getElem?_eq_none (by simp;omega),List.getElem?_eq_none (by omega)]
theorem yGw {ms:List Va} {n:Int} {w:Va} (h0:0≤n) (h1:n<(ms.length:Int)) (hu:(zAi ms n).is=false) (hl:w.level=(zAi ms n).level) (ht:w.type=(zAi ms n).type):ExtS ms (ms.set n.toNat w):=by
 have key:∀ m:Int,zAi (ms.set n.toNat w) m=if m.toNat=n.toNat∧n.toNat<ms.length then w else zAi ms m:=fun m=>zJl ms n.toNat w m.toNat
 refine ⟨by rw [List.length_set];exact Nat.le_refl _,fun m m0 m1=>?_,fun m m0 m1=>?_,fun m m0 m1 hi=>?_⟩
 ·rw [key]
  split
  ·rename_i h;obtain rfl:m=n:=by omega
   exact hl
  ·rfl
 ·rw [key]
  split
  ·rename_i h;obtain rfl:m=n:=by omega
   exact ht
  ·rfl
 ·rw [key]
  split
  ·rename_i h;obtain rfl:m=n:=by omega
   rw [hu] at hi;cases hi
  ·rfl
theorem zTz (ms:List Va) (w:Va):ExtS ms (ms++[w]):=by
 have key:∀ m:Int,0≤m→m<(ms.length:Int)→zAi (ms++[w]) m=zAi ms m:=fun m h0 h1=>by
  show (ms++[w]).getD m.toNat noVa=ms.getD m.toNat noVa
  rw [zFw,if_neg (by omega)]
 exact ⟨by simp,fun m h0 h1=>by rw [key m h0 h1],fun m h0 h1=>by rw [key m h0 h1],fun m h0 h1 _=>key m h0 h1⟩
theorem z6y {ms:List Va} {w:Va} (hw:w.is=false) {k n:Nat}:En (ms++[w]) k n↔En ms k n:=by
 unfold En
 rw [zFw]
 by_cases h:n=ms.length
 ·rw [if_pos h,hw]
  subst h
  rw [List.getD_eq_getElem?_getD,List.getElem?_eq_none (Nat.le_refl _)]
  exact Iff.intro (fun h=>absurd h.1 (by decide)) (fun h=>absurd h.1 (by simp [noVa]))
 ·rw [if_neg h]
theorem yD1 {ms:List Va} {w:Va} (hw:w.is=false) (h:∀ n,Acc (En ms) n):∀ n,Acc (En (ms++[w])) n:=fun n=>by
 induction h n with
 |intro n _ ih=>exact .intro _ fun j hj=>ih j ((z6y hw).1 hj)
theorem yHv {ms:List Va} {w:Va} (hw:w.is=false) {n k:Nat} (h:Av ms n k):Av (ms++[w]) n k:=by
 induction h with
 |mk h _ ih=>exact .mk h fun j hj=>ih j ((z6y hw).1 hj)
theorem zW5 {ms:List Va} {n:Nat} {w:Va} {j k:Nat} (h:k≠n):En (ms.set n w) j k↔En ms j k:=by
 unfold En
 rw [zJl,if_neg (fun e=>h e.1)]
theorem yNe {ms:List Va} {n:Nat} {w:Va} (hn:n<ms.length) (hb:∀ k:Nat,(k:Int) ∈ zBu w.t→Av ms n k) (h:∀ k,Acc (En ms) k):∀ k,Acc (En (ms.set n w)) k:=by
 have s1:∀ k,Av ms n k→Acc (En (ms.set n w)) k:=fun k hk=>by
  induction hk with
  |mk hne _ ih=>exact .intro _ fun j hj=>ih j ((zW5 hne).1 hj)
 have s2:Acc (En (ms.set n w)) n:=.intro _ fun j hj=>by
  unfold En at hj
  rw [zJl,if_pos ⟨rfl,hn⟩] at hj
  exact s1 j (hb j hj.2)
 intro k
 induction h k with
 |intro k _ ih =>
  by_cases e:k=n
  ·subst e;exact s2
  ·exact .intro _ fun j hj=>ih j ((zW5 e).1 hj)
theorem yN6 {ms:List Va} {v n:Nat} {w:Va} (hne:n≠v) (hn:n<ms.length) (hb:∀ k:Nat,(k:Int) ∈ zBu w.t→Av (ms.set n w) v k) {k:Nat} (h:Av ms v k):Av (ms.set n w) v k:=by
 induction h with
 |@mk k h _ ih =>
  by_cases e:k=n
  ·subst e
   refine .mk h fun j hj=>?_
   unfold En at hj
   rw [zJl,if_pos ⟨rfl,hn⟩] at hj
   exact hb j hj.2
  ·exact .mk h fun j hj=>ih j ((zW5 e).1 hj)
theorem yBf:∀ (n:Nat) (t:Term),zEs n ⟨5,0,zAr,[t]⟩=⟨5,0,zAr,[zEs n t]⟩
 |0,t=>rfl
 |n+1,t=>by rw [zEs,zEs,yBf n]
theorem zXg:∀ (n:Nat) (t:Term),zDe n (zEs n t)=(t,t.kind != 5)
 |0,t=>rfl
 |n+1,t=>by
  rw [zEs,yBf,zDe]
  have:zUu ⟨5,0,zAr,[zEs n t]⟩=false:=by simp [zUu]
  rw [this]
  simp only [Bool.false_eq_true,if_false,List.headD_cons]
  exact zXg n t
theorem z5a:∀ (n:Nat) (t:Term),(zEs n t).size=t.size+n
 |0,t=>rfl
 |n+1,t=>by rw [zEs,z5a n,Term.size,sizes,sizes];omega
theorem zNe:∀ (n:Nat) (t:Term),zBu (zEs n t)=zBu t
 |0,t=>rfl
 |n+1,t=>by
  rw [zEs,zNe n,zBu,zCl,zCl]
  simp
theorem zOe {ms:List Va} {n:Int} (h0:0≤n) (h1:n<(ms.length:Int)):zAi ms n ∈ ms:=by
 unfold zAi
 rw [List.getD_eq_getElem?_getD,List.getElem?_eq_getElem (by omega)]
 exact List.getElem_mem _
theorem z19 {s:Sv} (I:Inv s.ms) {n:Int} {b:Term} (h0:0≤n) (h1:n<(s.ms.length:Int)) (hu:(zAi s.ms n).is=false) (hf:zAw s.ms b (zBj (zAi s.ms n).type)=true) (hs:zFn s.ms (zAi s.ms n).level b=true)
  (h5:b.kind≠5) (hz:b.size≤399000) (ha:AvT s.ms n.toNat b):Inv (zIm s n b).ms∧ExtS s.ms (zIm s n b).ms:=by
 have e:ExtS s.ms (zIm s n b).ms:=yGw h0 h1 hu rfl rfl
 refine ⟨⟨by show (s.ms.set _ _).length≤_;rw [List.length_set];exact I.len,fun v hv=>?_,?_⟩,e⟩
 ·rcases List.mem_or_eq_of_mem_set hv with hv|rfl
  ·exact (I.val v hv).ext e
  ·have hty:=(I.val _ (zOe h0 h1)).ty
   have hal:=zEl (zAi s.ms n).type
   refine ⟨hty,fun _=>?_,fun h=>absurd (show true=false from h) (by decide)⟩
   show (zDe (zBj (zAi s.ms n).type) (zEs (zBj (zAi s.ms n).type) b)).2=true∧_
   have eb:=zXg (zBj (zAi s.ms n).type) b
   refine ⟨by rw [eb];simpa using h5,?_,?_,?_⟩
   ·show zAw _ (zDe (zBj (zAi s.ms n).type) (zEs (zBj (zAi s.ms n).type) b)).1 (zBj (zAi s.ms n).type)=true
    rw [eb];exact zBw e _ _ hf
   ·show zFn _ (zAi s.ms n).level (zDe (zBj (zAi s.ms n).type) (zEs (zBj (zAi s.ms n).type) b)).1=true
    rw [eb];exact zLt e _ _ hf hs
   ·show (zEs (zBj (zAi s.ms n).type) b).size≤_
    rw [z5a];omega
 ·refine yNe (by omega) (fun k hk=>?_) I.acc
  have hk':(k:Int) ∈ zBu (zEs (zBj (zAi s.ms n).type) b):=hk
  rw [zNe] at hk'
  have:=(ha _ hk').2
  simpa using this
end Go.Proofs.YthkjmiejaoomcaaGreat.Am
namespace Go.Proofs.YthkjmiejaoomcaaGreat.Am
open Go Go.RowKit Go.Proofs
set_option linter.unusedVariables false
set_option linter.unusedSimpArgs false
mutual
theorem zVw:∀ (t:Term) (us:List Term) (d:Int),(zBi t us d).size=t.size
 |⟨k,n,s,l⟩,us,d=>by rw [zBi,Term.size,Term.size,zUh]
theorem zUh:∀ (l us:List Term) (d:Int),sizes (zBc l us d)=sizes l
 |[],us,d=>by rw [zBc]
 |t::l,us,d=>by rw [zBc,sizes,sizes,zVw,zUh]
end
theorem z3d:∀ (n:Nat) (t:Term),(zDe n t).1.size≤t.size
 |0,t=>Nat.le_refl _
 |n+1,t=>by
  rw [zDe]
  split
  ·exact Nat.le_refl _
  ·rename_i h
   obtain ⟨u,hu⟩:=zIv (by simpa using h)
   have:=z3d n u
   obtain ⟨a,b,c,l⟩:=t
   simp only at hu
   subst hu
   simp only [List.headD_cons]
   rw [Term.size,sizes,sizes];omega
theorem z08 {ms:List Va} (I:Inv ms) {t:Term} {d:Int} (hd:0≤d) (hf:zAw ms t d=true) (h4:(t.kind==4)=true) (hi:(zAi ms t.n).is=true) :
  zXu ms (zAi ms t.n).level d t.args∧zAw ms (zCp ms t) t.args.length=true∧zFn ms (zAi ms t.n).level (zCp ms t)=true∧(zDe t.args.length (zAi ms t.n).t).2=true∧zQu (zCp ms t) t.args.length 0=true∧(zAi ms t.n).t.size≤400000∧0≤t.n∧t.n<(ms.length:Int):=by
 have hv:=zLy hf h4
 have hpat:=zH9 hv.2.2
 obtain ⟨h1,h2,h3,h5⟩:=(I.val _ (zOe hv.1 hv.2.1)).val hi
 rw [hpat.2.2] at h1 h2 h3
 have hf':=hf
 rw [zCh,Bool.and_eq_true] at hf'
 have hin:inner t.kind d=d:=by
  have:t.kind=4:=by simpa using h4
  unfold inner;rw [this];rfl
 rw [hin] at hf'
 have hargs:∀ u ∈ t.args,zEv d u:=fun u hu=>z2f (hpat.1 u hu).1 ((zBr _ _ _).1 hf'.2 u hu)
 exact ⟨⟨hd,hargs,fun u hu=>(hpat.1 u hu).2,hpat.2.1⟩,h2,h3,h1,zWx _ _ 0 (by rw [Int.add_zero];exact h2),h5,hv.1,hv.2.1⟩
theorem zFy {t:Term} (h4:(t.kind==4)=true):zBu t=[t.n]:=by
 obtain ⟨a,b,c,l⟩:=t
 rw [zBu]
 simp only at h4
 rw [h4];rfl
theorem z9o {ms:List Va} {t:Term} {d:Int} (hf:zAw ms t d=true):∀ k ∈ zBu t,0≤k∧k<(ms.length:Int):=zJa _ _ ((zQs ms _).1 t d (Nat.le_refl _) hf)
structure yH7 (ms:List Va) (t:Term) (d:Int) (k:Nat) (u:Term):Prop where
 hs:zS8 ms k t u
 fits:zAw ms u d=true
 flex:(u.kind==4&&(zAi ms u.n).is)=false
 size:u.size≤t.size∨u.size≤400000
 av:∀ v,AvT ms v t→AvT ms v u
theorem yMw {ms:List Va} (I:Inv ms) {t:Term} {d:Int} (hd:0≤d) (hf:zAw ms t d=true):∃ k u,yH7 ms t d k u:=by
 have key:∀ n:Nat,Acc (En ms) n→∀ t:Term,t.n.toNat=n→zAw ms t d=true→(t.kind==4)=true→(zAi ms t.n).is=true→∃ k u,yH7 ms t d k u:=by
  intro n hn
  induction hn with
  |intro n _ ih =>
   intro t htn hf h4 hi
   obtain ⟨hp,h2,h3,h1,h6,h5,hn0,hn1⟩:=z08 I hd hf h4 hi
   have hff:=zEb hp (zCp ms t) 0 (Int.le_refl _) (by rw [Int.add_zero];exact h2) h3
   rw [Int.add_zero] at hff
   have hdir:∀ k ∈ zBu (zBi (zCp ms t) t.args 0),0≤k∧En ms k.toNat n:=fun k hk=>by
    have h7:=zKh hp (zCp ms t) 0 (by rw [Int.add_zero];exact h2) k hk
    have h8:=(z9o h2 k h7).1
    refine ⟨h8,?_⟩
    unfold En
    rw [← htn]
    refine ⟨hi,?_⟩
    rw [Int.toNat_of_nonneg h8]
    exact zNh _ _ h1 k h7
   have hav:∀ v,AvT ms v t→AvT ms v (zBi (zCp ms t) t.args 0):=fun v hv k hk=>by
    have h9:=(hv t.n (by rw [zFy h4];exact List.mem_singleton.2 rfl)).2
    cases h9 with
    |mk _ hs=>exact ⟨(hdir k hk).1,hs _ (by rw [htn];exact (hdir k hk).2)⟩
   have hsz:(zBi (zCp ms t) t.args 0).size≤400000:=by
    rw [zVw]
    have:=z3d t.args.length (zAi ms t.n).t
    have e:(zCp ms t).size≤(zAi ms t.n).t.size:=this
    omega
   by_cases hb:((zBi (zCp ms t) t.args 0).kind==4&&(zAi ms (zBi (zCp ms t) t.args 0).n).is)=true
   ·rw [Bool.and_eq_true] at hb
    obtain ⟨k,u,hk⟩:=ih _ (hdir _ (by rw [zFy hb.1];exact List.mem_singleton.2 rfl)).2 _ rfl hff hb.1 hb.2
    refine ⟨k+1,u,.step h4 hi hk.hs,hk.fits,hk.flex,?_,fun v hv=>hk.av v (hav v hv)⟩
    rcases hk.size with h|h <;> omega
   ·exact ⟨1,_,.step h4 hi (.done (by simpa using hb)),hff,by simpa using hb,.inr hsz,hav⟩
 by_cases hb:(t.kind==4&&(zAi ms t.n).is)=true
 ·rw [Bool.and_eq_true] at hb
  exact key _ (I.acc _) t rfl hf hb.1 hb.2
 ·exact ⟨0,t,.done (by simpa using hb),hf,by simpa using hb,.inl (Nat.le_refl _),fun v hv=>hv⟩
theorem yJ1 {ms:List Va} (I:Inv ms) {t:Term} {d:Int} (hd:0≤d) (hf:zAw ms t d=true):∃ k,yH7 ms t d k (zDx ms t):=by
 obtain ⟨k,u,h⟩:=yMw I hd hf
 rw [← head_eq h.hs] at h
 exact ⟨k,h⟩
theorem zWz:∀ (us:List Term) (y:Term) (i j:Nat),zMv us y i=some j→i≤j∧j - i<us.length∧isF (us.getD (j - i) zA7) y=true
 |[],y,i,j,h=>by cases h
 |a::l,y,i,j,h=>by
  rw [zMv] at h
  cases ha:isF a y
  ·rw [ha] at h
   simp only [Bool.false_eq_true,if_false] at h
   obtain ⟨h1,h2,h3⟩:=zWz l y (i+1) j h
   refine ⟨by omega,by rw [List.length_cons];omega,?_⟩
   rw [show j - i=j - (i+1)+1 by omega,List.getD_cons_succ]
   exact h3
  ·rw [ha] at h
   simp only [if_true,Option.some.injEq] at h
   subst h
   exact ⟨Nat.le_refl _,by simp,by simpa using ha⟩
inductive zLp (lv:Int) (us:List Term) (d:Int) (y:Term):Term→Prop
 |low (h2:y.kind=2) (hl:y.n<d):zLp lv us d y y
 |par (h3:y.kind=3) (hl:y.n<lv):zLp lv us d y y
 |seat (i:Nat) (hi:i<us.length) (hk:(us.getD i zA7).kind=y.kind) (hn:(us.getD i zA7).n=if y.kind=2 then y.n - d else y.n) (h2:y.kind=2→d≤y.n) (h3:y.kind=3→lv≤y.n):zLp lv us d y (sBnd ((us.length:Int) - 1 - i+d))
theorem zU9 {a b:Term} (h:isF a b=true):a.kind=b.kind∧a.n=b.n:=by
 unfold isF at h
 rw [Bool.and_eq_true] at h
 exact ⟨by simpa using h.1,by simpa using h.2⟩
theorem zHi {lv:Int} {us:List Term} {y:Term} {d:Int} (hy:y.kind=2∨y.kind=3) (h:(zDo lv us y d).2=true):zLp lv us d y (zDo lv us y d).1:=by
 unfold zDo at h ⊢
 cases h2:(y.kind==2)
 ·rw [h2] at h
  simp only [Bool.false_eq_true,if_false] at h ⊢
  have n2:y.kind≠2:=by simpa using h2
  have k3:y.kind=3:=hy.resolve_left n2
  by_cases hl:y.n<lv
  ·rw [k3,decide_eq_true hl] at h ⊢
   exact .par k3 hl
  ·rw [decide_eq_false hl,Bool.and_false] at h ⊢
   simp only [Bool.false_eq_true,if_false] at h ⊢
   unfold zJd at h ⊢
   cases hf:zMv us y 0 with
   |none=>rw [hf] at h;cases h
   |some i =>
    obtain ⟨_,h5,h6⟩:=zWz us y 0 i hf
    have h7:=zU9 h6
    rw [Nat.sub_zero] at h5 h7
    exact .seat i h5 h7.1 (by rw [if_neg n2];exact h7.2) (fun e=>absurd e n2) (fun _=>by omega)
 ·rw [h2] at h
  simp only [if_true] at h ⊢
  have k2:y.kind=2:=by simpa using h2
  by_cases hl:y.n<d
  ·rw [decide_eq_true hl]
   exact .low k2 hl
  ·rw [decide_eq_false hl] at h ⊢
   simp only [Bool.false_eq_true,if_false] at h ⊢
   unfold zJd at h ⊢
   cases hf:zMv us ⟨y.kind,y.n - d,y.name,y.args⟩ 0 with
   |none=>rw [hf] at h;cases h
   |some i =>
    obtain ⟨_,h5,h6⟩:=zWz us _ 0 i hf
    have h7:=zU9 h6
    rw [Nat.sub_zero] at h5 h7
    exact .seat i h5 h7.1 (by rw [if_pos k2];exact h7.2) (fun _=>by omega) (fun e=>by omega)
theorem zLp.ok {lv:Int} {us:List Term} {d D:Int} {y z:Term} (h:zLp lv us d y z) (hd:0≤d) (hy:zEv (D+d) y):zEv (us.length+d) z∧(z.kind=3→z.n<lv∧y.kind=3∧z.n=y.n):=by
 cases h with
 |low h2 hl=>exact ⟨⟨hy.1,hy.2.1,fun _=>⟨(hy.2.2.1 h2).1,by omega⟩,hy.2.2.2⟩,fun e=>by omega⟩
 |par h3 hl=>exact ⟨⟨hy.1,hy.2.1,fun e=>by omega,hy.2.2.2⟩,fun _=>⟨hl,h3,rfl⟩⟩
 |seat i hi hk hn h2 h3=>exact ⟨⟨rfl,rfl,fun _=>⟨by show 0≤(us.length:Int) - 1 - i+d;omega,by show (us.length:Int) - 1 - i+d<_;omega⟩,fun e=>absurd (show (2:Int)=3 from e) (by decide)⟩,fun e=>absurd (show (2:Int)=3 from e) (by decide)⟩
theorem zLp.inj {lv:Int} {us:List Term} {d:Int} {y z y' z':Term} (h:zLp lv us d y z) (h':zLp lv us d y' z') (hne:isF y y'=false):isF z z'=false:=by
 rw [zHx] at hne ⊢
 cases h with
 |low h2 hl =>
  cases h' with
  |low h2' hl'=>exact hne
  |par h3' hl'=>exact hne
  |seat i hi hk hn g2 g3=>right;show y.n≠(us.length:Int) - 1 - i+d;omega
 |par h3 hl =>
  cases h' with
  |low h2' hl'=>exact hne
  |par h3' hl'=>exact hne
  |seat i hi hk hn g2 g3=>left;show y.kind≠2;omega
 |seat i hi hk hn g2 g3 =>
  cases h' with
  |low h2' hl'=>right;show (us.length:Int) - 1 - i+d≠y'.n;omega
  |par h3' hl'=>left;show 2≠y'.kind;omega
  |seat i' hi' hk' hn' g2' g3' =>
   right
   show (us.length:Int) - 1 - i+d≠(us.length:Int) - 1 - i'+d
   intro e
   obtain rfl:i=i':=by omega
   have ek:y.kind=y'.kind:=by rw [← hk,hk']
   rcases hne with h|h
   ·exact h ek
   ·rw [hn,ek] at hn'
    split at hn' <;> omega
end Go.Proofs.YthkjmiejaoomcaaGreat.Am
namespace Go.Proofs.YthkjmiejaoomcaaGreat.Am
open Go Go.RowKit Go.Proofs
set_option linter.unusedVariables false
set_option linter.unusedSimpArgs false
theorem yHt {t:Ty} (h:zBp t=true):zBp ⟨t.name,[]⟩=true:=by
 unfold zBp at h ⊢
 simp only [Bool.and_eq_true] at h ⊢
 exact ⟨⟨⟨rfl,h.1.1.2⟩,h.1.2⟩,h.2⟩
theorem yB6 {t:Ty} (h:zBp t=true):((t.args.length:Int)==2)=false∧(zFj t.name&&(t.args.length:Int)==2)=false:=by
 unfold zBp at h
 simp only [Bool.and_eq_true] at h
 have h1:t.args.length=0:=by have:=h.1.1.1;simp at this;simp [this]
 rw [h1]
 exact ⟨rfl,by simp⟩
theorem yDw:∀ (s:Nat) (t:Ty) (out l:List ByteArray),t.size≤s→(∀ a ∈ out,zBp ⟨a,[]⟩=true)→zFa t out=some l→(∀ a ∈ l,zBp ⟨a,[]⟩=true)∧zBp (zCb t)=true:=by
 intro s
 induction s with
 |zero=>intro t out l ht;obtain ⟨a,b⟩:=t;rw [Ty.size] at ht;omega
 |succ s ih =>
  intro t out l ht ho hg
  cases h:(zFj t.name&&(t.args.length:Int)==2)
  ·rw [zEm out h,zFm] at hg
   split at hg
   ·rename_i hb
    injection hg with hg;subst hg
    exact ⟨ho,by rw [zVs (yB6 hb).1];exact hb⟩
   ·cases hg
  ·rw [Bool.and_eq_true] at h
   obtain ⟨a,b,hab,he,hs⟩:=zI5 out h.1 h.2
   obtain ⟨a',b',hab',ht',_⟩:=zVr h.2
   rw [hab] at hab'
   injection hab' with e1 e2
   injection e2 with e2
   subst e1;subst e2
   rw [he] at hg
   split at hg
   ·cases hg
   ·rename_i hb
    rw [Bool.or_eq_true,not_or] at hb
    have hba:zBp a=true:=by simpa using hb.1
    rw [ht']
    refine ih b (out++[a.name]) l (by omega) (fun x hx=>?_) hg
    rcases List.mem_append.1 hx with hx|hx
    ·exact ho x hx
    ·rw [List.mem_singleton] at hx;subst hx;exact yHt hba
theorem zZd:∀ (l:List ByteArray) (to:Ty) (out:List ByteArray),(∀ a ∈ l,zBp ⟨a,[]⟩=true)→zBp to=true→out.length+l.length≤8→zFa (zBs l to) out=some (out++l)
 |[],to,out,_,ht,_=>by rw [zBs,zEm out (yB6 ht).2,zFm,if_pos ht,List.append_nil]
 |a::l,to,out,hl,ht,hn=>by
  rw [List.length_cons] at hn
  rw [zBs,zFa]
  have h1:zFj ⟨#[45,62]⟩=true:=by unfold zFj;exact beq_self_eq_true _
  have h2:(!zBp ⟨a,[]⟩||(out.length:Int)==8)=false:=by
   rw [hl a List.mem_cons_self]
   have:¬ (out.length:Int)=8:=by omega
   simpa using this
  rw [if_pos h1,h2]
  simp only [Bool.false_eq_true,if_false]
  rw [zZd l to (out++[a]) (fun x hx=>hl x (List.mem_cons_of_mem _ hx)) ht (by rw [List.length_append,List.length_singleton];omega)]
  simp
theorem yHw {l:List ByteArray} {to:Ty} (hl:∀ a ∈ l,zBp ⟨a,[]⟩=true) (ht:zBp to=true) (hn:l.length≤8):zDu (zBs l to)=some l:=by
 unfold zDu
 rw [zZd l to [] hl ht (by simpa using hn)]
 rfl
theorem zVp {v:Va} (h:zFd v=true):(zDu v.type).isSome=true∧0≤v.level∧v.level≤60:=by
 unfold zFd at h
 simp only [Bool.and_eq_true,Bool.not_eq_true',decide_eq_false_iff_not] at h
 exact ⟨h.1,by omega,by omega⟩
theorem z1z {v:Va} (h:zFd v=true):(∀ a ∈ nmsF v,zBp ⟨a,[]⟩=true)∧zBp (zCb v.type)=true:=by
 have h1:=(zVp h).1
 cases hs:zDu v.type with
 |none=>rw [hs] at h1;cases h1
 |some l =>
  have:=yDw v.type.size v.type [] l (Nat.le_refl _) (fun a ha=>absurd ha List.not_mem_nil) hs
  unfold nmsF
  rw [hs]
  exact this
theorem zTt {l:List ByteArray} (hl:∀ a ∈ l,zBp ⟨a,[]⟩=true) {keep:List Nat} (hk:∀ k ∈ keep,k<l.length):∀ a ∈ zA9 l keep,zBp ⟨a,[]⟩=true:=by
 intro a ha
 obtain ⟨k,hk1,rfl⟩:=List.mem_map.1 ha
 rw [List.getD_eq_getElem?_getD,List.getElem?_eq_getElem (hk k hk1)]
 exact hl _ (List.getElem_mem _)
theorem yKn {ms:List Va} {d:Int} {u:Term} (h:zEv d u):zAw ms u d=true:=by
 rw [zCh,(zA2 h.1).2,z3h h [] (by decide),zD3];rfl
theorem zOb {ms:List Va} {n:Int} {l:List Term} {d:Int} (h0:0≤n) (h1:n<(ms.length:Int)) (har:zBj (zAi ms n).type=l.length) (ha:∀ u ∈ l,zEv d u) (hlv:∀ u ∈ l,u.kind=3→(zAi ms n).level≤u.n) (hp:l.Pairwise (fun b u=>isF u b=false)) :
  zAw ms (sVar n l) d=true:=by
 have h8:=zEl (zAi ms n).type
 have hpat:zB4 (zAi ms n) l=true:=by
  unfold zB4
  rw [Bool.and_eq_true]
  exact ⟨by rw [har];simp,(zH6 _ _ _).2 ⟨fun u hu=>⟨(ha u hu).1,hlv u hu⟩,fun u _ b hb=>absurd hb List.not_mem_nil,hp⟩⟩
 rw [zCh,Bool.and_eq_true]
 refine ⟨?_,(zBr _ _ _).2 fun u hu=>yKn (ha u hu)⟩
 unfold zA4 zA1
 rw [hpat]
 have hz:(zAr.size:Int)=0:=rfl
 simp
 omega
theorem zU0 {ms:List Va} {n:Int} {l:List Term} {lv:Int} (h:(zAi ms n).level≤lv) (ha:∀ u ∈ l,zBm u=true∧(u.kind=3→u.n<lv)):zFn ms lv (sVar n l)=true:=by
 rw [zU2,Bool.and_eq_true]
 refine ⟨?_,(zP7 _ _ _).2 fun u hu=>?_⟩
 ·unfold zFr;simp;omega
 ·obtain ⟨h1,h2⟩:=ha u hu
  have hk:=zA2 h1
  rw [zU2,hk.2,zM0,Bool.and_true]
  unfold zFr
  rcases hk.1 with e|e
  ·rw [e];simp
  ·have:=h2 e;rw [e];simp;omega
theorem zVx:∀ l:List Term,(∀ u ∈ l,zBm u=true)→sizes l=l.length
 |[],_=>by rw [sizes];rfl
 |u::l,h=>by
  have hk:=(zA2 (h u List.mem_cons_self)).2
  rw [sizes,zVx l (fun w hw=>h w (List.mem_cons_of_mem _ hw)),List.length_cons]
  obtain ⟨a,b,c,m⟩:=u
  simp only at hk
  subst hk
  rw [Term.size,sizes];omega
theorem zUz {n:Int} {l:List Term} (h:∀ u ∈ l,zBm u=true):(sVar n l).size=l.length+1:=by
 rw [Term.size,zVx l h]
structure yOa (lv:Int) (us:List Term) (d:Int) (l:List Term) (i:Nat) (r:List Nat × List Term):Prop where
 len:r.1.length=r.2.length
 le:r.1.length≤l.length
 ix:∀ k ∈ r.1,i≤k∧k<i+l.length
 inc:r.1.Pairwise (·<·)
 from_:∀ z ∈ r.2,∃ y ∈ l,zLp lv us d y z
theorem zTu {lv:Int} {us:List Term} {d:Int}:∀ (l:List Term) (i:Nat),(∀ y ∈ l,y.kind=2∨y.kind=3)→yOa lv us d l i (zF7 lv us d l i)
 |[],i,_=>⟨rfl,Nat.le_refl _,fun k hk=>absurd hk List.not_mem_nil,List.Pairwise.nil,fun z hz=>absurd hz List.not_mem_nil⟩
 |y::l,i,h=>by
  have ih:=zTu l (i+1) (fun w hw=>h w (List.mem_cons_of_mem _ hw)) (lv:=lv) (us:=us) (d:=d)
  rw [zF7]
  split
  ·rename_i hp
   refine ⟨by simp [ih.len],by simpa using ih.le,fun k hk=>?_,List.pairwise_cons.2 ⟨fun k hk=>(ih.ix k hk).1,ih.inc⟩,fun z hz=>?_⟩
   ·rw [List.length_cons]
    rcases List.mem_cons.1 hk with rfl|hk
    ·omega
    ·have:=ih.ix k hk;omega
   ·rcases List.mem_cons.1 hz with rfl|hz
    ·exact ⟨y,List.mem_cons_self,zHi (h y List.mem_cons_self) hp⟩
    ·obtain ⟨w,hw,hz⟩:=ih.from_ z hz
     exact ⟨w,List.mem_cons_of_mem _ hw,hz⟩
  ·refine ⟨ih.len,Nat.le_succ_of_le ih.le,fun k hk=>?_,ih.inc,fun z hz=>?_⟩
   ·have:=ih.ix k hk;rw [List.length_cons];omega
   ·obtain ⟨w,hw,hz⟩:=ih.from_ z hz
    exact ⟨w,List.mem_cons_of_mem _ hw,hz⟩
theorem z6f {lv:Int} {us:List Term} {d:Int}:∀ (l:List Term) (i:Nat),(∀ y ∈ l,y.kind=2∨y.kind=3)→l.Pairwise (fun b u=>isF u b=false)→(zF7 lv us d l i).2.Pairwise (fun b u=>isF u b=false)
 |[],i,_,_=>List.Pairwise.nil
 |y::l,i,h,hp=>by
  rw [List.pairwise_cons] at hp
  have hl:=fun w hw=>h w (List.mem_cons_of_mem _ hw)
  have ih:=z6f l (i+1) hl hp.2 (lv:=lv) (us:=us) (d:=d)
  rw [zF7]
  split
  ·rename_i hpl
   refine List.pairwise_cons.2 ⟨fun z hz=>?_,ih⟩
   obtain ⟨w,hw,hz⟩:=(zTu l (i+1) hl (lv:=lv) (us:=us) (d:=d)).from_ z hz
   exact hz.inj (zHi (h y List.mem_cons_self) hpl) (hp.1 w hw)
  ·exact ih
theorem yBg {lv:Int} {us:List Term} {d:Int}:∀ (l:List Term) (i:Nat),(zF7 lv us d l i).1.length≤l.length
 |[],i=>Nat.le_refl _
 |y::l,i=>by
  have ih:=yBg l (i+1) (lv:=lv) (us:=us) (d:=d)
  rw [zF7]
  split
  ·simpa using ih
  ·exact Nat.le_succ_of_le ih
structure yNh (olv wlv:Int) (l:List Term) (i:Nat) (r:List (Nat × Term)):Prop where
 at_:∀ p ∈ r,i≤p.1∧p.1<i+l.length∧l.getD (p.1 - i) zA7=p.2∧p.2.kind=3∧p.2.n<wlv∧olv≤p.2.n
 inc:r.Pairwise (fun p q=>p.1<q.1)
theorem z2i {olv wlv:Int}:∀ (l:List Term) (i:Nat),yNh olv wlv l i (zI0 olv wlv l i)
 |[],i=>⟨fun p hp=>absurd hp List.not_mem_nil,List.Pairwise.nil⟩
 |a::l,i=>by
  have ih:=z2i l (i+1) (olv:=olv) (wlv:=wlv)
  have tail:∀ p ∈ zI0 olv wlv l (i+1),i≤p.1∧p.1<i+(a::l).length∧(a::l).getD (p.1 - i) zA7=p.2∧p.2.kind=3∧p.2.n<wlv∧olv≤p.2.n:=fun p hp=>by
   obtain ⟨h1,h2,h3,h4⟩:=ih.at_ p hp
   refine ⟨by omega,by rw [List.length_cons];omega,?_,h4⟩
   rw [show p.1 - i=p.1 - (i+1)+1 by omega,List.getD_cons_succ]
   exact h3
  rw [zI0]
  split
  ·rename_i hx
   unfold zWo at hx
   simp only [Bool.and_eq_true,beq_iff_eq,decide_eq_true_eq] at hx
   refine ⟨fun p hp=>?_,List.pairwise_cons.2 ⟨fun p hp=>(ih.at_ p hp).1,ih.inc⟩⟩
   rcases List.mem_cons.1 hp with rfl|hp
   ·refine ⟨Nat.le_refl _,by rw [List.length_cons];omega,by simp,hx.1,hx.2.1,by show olv≤a.n;omega⟩
   ·exact tail p hp
  ·exact ⟨tail,ih.inc⟩
theorem yHu {n:Nat} {keep:List Nat} (h:∀ k ∈ keep,k<n):∀ u ∈ zCn n keep,zEv n u:=by
 intro u hu
 obtain ⟨k,hk,rfl⟩:=List.mem_map.1 hu
 have:=h k hk
 exact ⟨rfl,rfl,fun _=>⟨by show 0≤(n:Int) - 1 - k;omega,by show (n:Int) - 1 - k<n;omega⟩,fun e=>absurd (show (2:Int)=3 from e) (by decide)⟩
theorem z7k {n:Nat} {keep:List Nat} (h:keep.Pairwise (·<·)):(zCn n keep).Pairwise (fun b u=>isF u b=false):=by
 unfold zCn
 rw [List.pairwise_map]
 refine h.imp fun {a b} hab=>?_
 rw [zHx]
 right
 show (n:Int) - 1 - b≠(n:Int) - 1 - a
 omega
end Go.Proofs.YthkjmiejaoomcaaGreat.Am
namespace Go.Proofs.YthkjmiejaoomcaaGreat.Am
open Go Go.RowKit Go.Proofs
set_option linter.unusedVariables false
set_option linter.unusedSimpArgs false
theorem bind_ok {α β:Type} {r:Rz α} {f:α→Rz β} {b:β} (h:r.bind f=.ok b):∃ a,r=.ok a∧f a=.ok b:=by
 cases r with
 |ok a=>exact ⟨a,rfl,h⟩
 |clash=>cases h
 |large e=>cases h
theorem zIc {s s':Sv} {lv n:Int} {ty:Ty} (h:zF8 s lv ty=.ok (s',n)):s.ms.length<2000∧s'=⟨s.ms++[zMb lv ty],s.wk⟩∧n=(s.ms.length:Int):=by
 unfold zF8 at h
 split at h
 ·cases h
 ·rename_i h2
  injection h with h
  injection h with h3 h4
  simp only [decide_eq_true_eq] at h2
  exact ⟨by omega,h3.symm,h4.symm⟩
theorem zKy {ms:List Va} {w:Va} {n:Int} (h0:0≤n) (h1:n<(ms.length:Int)):zAi (ms++[w]) n=zAi ms n:=by
 unfold zAi
 rw [zFw,if_neg (by omega)]
theorem z4u (ms:List Va) (w:Va):zAi (ms++[w]) (ms.length:Int)=w:=by
 unfold zAi
 rw [zFw,if_pos (by omega)]
theorem z4t {ms:List Va} {n k:Int} {w:Va} (h:k.toNat≠n.toNat):zAi (ms.set n.toNat w) k=zAi ms k:=by
 unfold zAi
 rw [zJl,if_neg (fun e=>h e.1)]
theorem z6j {ms:List Va} (I:Inv ms) {lv:Int} {ty:Ty} (hl:ms.length<2000) (ht:zFd (zMb lv ty)=true):Inv (ms++[zMb lv ty]):=by
 refine ⟨by simp;omega,fun v hv=>?_,yD1 rfl I.acc⟩
 rcases List.mem_append.1 hv with hv|hv
 ·exact (I.val v hv).ext (zTz _ _)
 ·rw [List.mem_singleton] at hv
  subst hv
  exact ⟨ht,fun h=>(absurd (show false=true from h) (by decide)),fun _=>(by show (Term.size ⟨0,0,zAr,[]⟩)≤400000;rw [Term.size,sizes];decide)⟩
theorem z3g {ms:List Va} {n k:Nat} (hne:k≠n) (h:(ms.getD k noVa).is=false):Av ms n k:=.mk hne fun j hj=>by have:=hj.1;rw [h] at this;cases this
theorem yAl {lv:Int} {l:List ByteArray} {to:Ty} (hl:∀ a ∈ l,zBp ⟨a,[]⟩=true) (ht:zBp to=true) (hn:l.length≤8) (h0:0≤lv) (h1:lv≤60):zFd (zMb lv (zBs l to))=true∧zBj (zBs l to)=l.length:=by
 have e:=yHw hl ht hn
 refine ⟨?_,by unfold zBj;rw [e];rfl⟩
 unfold zFd zMb
 simp only [e,Option.isSome_some,Bool.true_and,Bool.and_eq_true,Bool.not_eq_true',decide_eq_false_iff_not]
 omega
structure yH5 (c:Int) (s s':Sv) (v:Term) (d:Int) (out:Term):Prop where
 inv:Inv s'.ms
 ext:ExtS s.ms s'.ms
 free:(zAi s'.ms v.n).is=false
 fits:zAw s'.ms out (v.args.length+d)=true
 sees:zFn s'.ms (zAi s.ms v.n).level out=true
 av:AvT s'.ms v.n.toNat out
 mono:∀ k,Av s.ms v.n.toNat k→Av s'.ms v.n.toNat k
 size:(out.size:Int)≤9 * (s'.wk - s.wk)+c
 wk:s.wk≤s'.wk
structure zGe (ms:List Va) (v:Term) (D:Int):Prop where
 n0:0≤v.n
 n1:v.n<(ms.length:Int)
 args:∀ u ∈ v.args,zEv D u
 high:∀ u ∈ v.args,u.kind=3→(zAi ms v.n).level≤u.n
 pair:v.args.Pairwise (fun b u=>isF u b=false)
 ar:zBj (zAi ms v.n).type=v.args.length
theorem zDy {ms:List Va} {v:Term} {D:Int} (hv:zAw ms v D=true) (v4:(v.kind==4)=true):zGe ms v D:=by
 have h:=zLy hv v4
 have hp:=zH9 h.2.2
 have hf':=hv
 rw [zCh,Bool.and_eq_true] at hf'
 have hin:inner v.kind D=D:=by
  have:v.kind=4:=by simpa using v4
  unfold inner;rw [this];rfl
 rw [hin] at hf'
 exact ⟨h.1,h.2.1,fun u hu=>z2f (hp.1 u hu).1 ((zBr _ _ _).1 hf'.2 u hu),fun u hu=>(hp.1 u hu).2,hp.2.1,hp.2.2⟩
theorem yEy {s s':Sv} (I:Inv s.ms) {v t out:Term} {D d:Int} (hd:0≤d) (V:zGe s.ms v D) (vu:(zAi s.ms v.n).is=false) (T:zGe s.ms t (D+d)) (tu:(zAi s.ms t.n).is=false) (h:zMa s v t d=.ok (s',out)) :
  yH5 9 s s' v d out∧out.kind=4:=by
 unfold zMa at h
 split at h
 ·cases h
 rename_i hne
 have hne:t.n≠v.n:=by simpa using hne
 have hneN:t.n.toNat≠v.n.toNat:=by have:=T.n0;have:=V.n0;omega
 dsimp only at h
 have hsk:∀ y ∈ t.args,y.kind=2∨y.kind=3:=fun y hy=>(zA2 (T.args y hy).1).1
 have K:=zTu (lv:=(zAi s.ms v.n).level) (us:=v.args) (d:=d) t.args 0 hsk
 have KP:=z6f (lv:=(zAi s.ms v.n).level) (us:=v.args) (d:=d) t.args 0 hsk T.pair
 have X:=z2i (olv:=(zAi s.ms v.n).level) (wlv:=(zAi s.ms t.n).level) v.args 0
 generalize zF7 (zAi s.ms v.n).level v.args d t.args 0=kp at *
 generalize zI0 (zAi s.ms v.n).level (zAi s.ms t.n).level v.args 0=ex at *
 have hz:∀ z ∈ kp.2,zEv (v.args.length+d) z∧(z.kind=3→z.n<(zAi s.ms v.n).level∧(zAi s.ms t.n).level≤z.n):=fun z hz=>by
  obtain ⟨y,hy,hp⟩:=K.from_ z hz
  obtain ⟨h1,h2⟩:=hp.ok hd (T.args y hy)
  refine ⟨h1,fun h3=>⟨(h2 h3).1,?_⟩⟩
  have:=T.high y hy (h2 h3).2.1
  rw [(h2 h3).2.2];exact this
 have hxb:∀ e ∈ ex.map (fun p=>sBnd ((v.args.length:Int) - 1 - p.1+d)),zEv (v.args.length+d) e∧e.kind=2:=fun e he=>by
  obtain ⟨p,hp,rfl⟩:=List.mem_map.1 he
  have:=X.at_ p hp
  exact ⟨⟨rfl,rfl,fun _=>⟨by show 0≤(v.args.length:Int) - 1 - p.1+d;omega,by show (v.args.length:Int) - 1 - p.1+d<_;omega⟩,fun e=>absurd (show (2:Int)=3 from e) (by decide)⟩,rfl⟩
 have hxp:(ex.map (fun p=>sBnd ((v.args.length:Int) - 1 - p.1+d))).Pairwise (fun b u=>isF u b=false):=by
  rw [List.pairwise_map]
  refine X.inc.imp fun {p q} hpq=>?_
  rw [zHx]
  right
  show (v.args.length:Int) - 1 - q.1+d≠(v.args.length:Int) - 1 - p.1+d
  omega
 have hcross:∀ z ∈ kp.2,∀ e ∈ ex.map (fun p=>sBnd ((v.args.length:Int) - 1 - p.1+d)),isF e z=false:=fun z hz e he=>by
  obtain ⟨y,hy,hp⟩:=K.from_ z hz
  obtain ⟨p,hp2,rfl⟩:=List.mem_map.1 he
  have hx:=X.at_ p hp2
  rw [zHx]
  cases hp with
  |low h2 hl=>right;show (v.args.length:Int) - 1 - p.1+d≠z.n;omega
  |par h3 hl=>left;show 2≠z.kind;omega
  |seat i hi hk hn h2 h3 =>
   right
   show (v.args.length:Int) - 1 - p.1+d≠(v.args.length:Int) - 1 - i+d
   intro e
   obtain rfl:i=p.1:=by omega
   have hx3:=hx.2.2.1
   rw [Nat.sub_zero] at hx3
   rw [hx3] at hk hn
   have k3:y.kind=3:=by rw [← hk];exact hx.2.2.2.1
   rw [if_neg (by omega)] at hn
   have:=T.high y hy k3
   omega
 have hoA:∀ u ∈ kp.2++ex.map (fun p=>sBnd ((v.args.length:Int) - 1 - p.1+d)),zEv (v.args.length+d) u:=fun u hu=>by
  rcases List.mem_append.1 hu with hu|hu
  ·exact (hz u hu).1
  ·exact (hxb u hu).1
 have hoP:(kp.2++ex.map (fun p=>sBnd ((v.args.length:Int) - 1 - p.1+d))).Pairwise (fun b u=>isF u b=false):=List.pairwise_append.2 ⟨KP,hxp,hcross⟩
 have hoH:∀ u ∈ kp.2++ex.map (fun p=>sBnd ((v.args.length:Int) - 1 - p.1+d)),u.kind=3→u.n<(zAi s.ms v.n).level∧(zAi s.ms t.n).level≤u.n:=fun u hu h3=>by
  rcases List.mem_append.1 hu with hu|hu
  ·exact (hz u hu).2 h3
  ·have:=(hxb u hu).2;omega
 have hoL:(kp.2++ex.map (fun p=>sBnd ((v.args.length:Int) - 1 - p.1+d))).length=kp.1.length+ex.length:=by rw [List.length_append,List.length_map,K.len]
 generalize kp.2++ex.map (fun p=>sBnd ((v.args.length:Int) - 1 - p.1+d))=o at *
 have tyw:=(I.val _ (zOe T.n0 T.n1)).ty
 have tyv:=(I.val _ (zOe V.n0 V.n1)).ty
 have aw8:=zEl (zAi s.ms t.n).type
 have harw:(nmsF (zAi s.ms t.n)).length=t.args.length:=by rw [zJg];exact T.ar
 split at h
 ·rename_i hc
  injection h with h
  injection h with e1 e2
  subst e1;subst e2
  simp only [Bool.and_eq_true,beq_iff_eq,decide_eq_true_eq] at hc
  have hx0:ex=[]:=by
   cases ex with
   |nil=>rfl
   |cons p ps=>have:=X.at_ p List.mem_cons_self;omega
  subst hx0
  simp only [List.length_nil,Nat.add_zero] at hoL
  have hal:zBj (zAi s.ms t.n).type=o.length:=by rw [hoL,T.ar];omega
  refine ⟨⟨I,ExtS.refl _,vu,zOb T.n0 T.n1 hal hoA (fun u hu h3=>(hoH u hu h3).2) hoP,zU0 hc.2 (fun u hu=>⟨(hoA u hu).1,fun h3=>(hoH u hu h3).1⟩),?_,fun k hk=>hk,?_,Int.le_refl _⟩,rfl⟩
  ·intro k hk
   rw [zFy (t:=sVar t.n o) rfl,List.mem_singleton] at hk
   subst hk
   exact ⟨T.n0,z3g hneN tu⟩
  ·rw [zUz (fun u hu=>(hoA u hu).1)];omega
 ·split at h
  ·cases h
  rename_i h8
  simp only [decide_eq_true_eq] at h8
  obtain ⟨⟨s1,m⟩,hfr,h⟩:=bind_ok h
  obtain ⟨hlt,e1,e2⟩:=zIc hfr
  subst e1;subst e2
  simp only at h
  injection h with h
  injection h with e1 e2
  subst e1;subst e2
  have nbw:=z1z tyw
  have nbv:=z1z tyv
  have lw:=zVp tyw
  have lv:=zVp tyv
  have hkw:∀ k ∈ kp.1,k<(nmsF (zAi s.ms t.n)).length:=fun k hk=>by have:=K.ix k hk;omega
  have hkv:∀ k ∈ ex.map (·.1),k<(nmsF (zAi s.ms v.n)).length:=fun k hk=>by
   obtain ⟨p,hp,rfl⟩:=List.mem_map.1 hk
   have:=X.at_ p hp
   rw [zJg,V.ar];omega
  have hnb:∀ a ∈ zA9 (nmsF (zAi s.ms t.n)) kp.1++zA9 (nmsF (zAi s.ms v.n)) (ex.map (·.1)),zBp ⟨a,[]⟩=true:=fun a ha=>by
   rcases List.mem_append.1 ha with ha|ha
   ·exact zTt nbw.1 hkw a ha
   ·exact zTt nbv.1 hkv a ha
  have hnl:(zA9 (nmsF (zAi s.ms t.n)) kp.1++zA9 (nmsF (zAi s.ms v.n)) (ex.map (·.1))).length=kp.1.length+ex.length:=by simp [zA9]
  obtain ⟨hty,har⟩:=yAl (lv:=min (zAi s.ms t.n).level (zAi s.ms v.n).level) hnb nbw.2 (by rw [hnl];omega) (by omega) (by omega)
  rw [hnl] at har
  have I1:=z6j I hlt hty
  have E1:=zTz s.ms (zMb (min (zAi s.ms t.n).level (zAi s.ms v.n).level) (zBs (zA9 (nmsF (zAi s.ms t.n)) kp.1++zA9 (nmsF (zAi s.ms v.n)) (ex.map (·.1))) (zCb (zAi s.ms t.n).type)))
  generalize hNew:zMb (min (zAi s.ms t.n).level (zAi s.ms v.n).level) (zBs (zA9 (nmsF (zAi s.ms t.n)) kp.1++zA9 (nmsF (zAi s.ms v.n)) (ex.map (·.1))) (zCb (zAi s.ms t.n).type))=new at *
  have nlev:new.level=min (zAi s.ms t.n).level (zAi s.ms v.n).level:=by rw [← hNew];rfl
  have ntyp:zBj new.type=kp.1.length+ex.length:=by rw [← hNew];exact har
  have nis:new.is=false:=by rw [← hNew];rfl
  have hm:zAi (s.ms++[new]) (s.ms.length:Int)=new:=z4u _ _
  have hT:zAi (s.ms++[new]) t.n=zAi s.ms t.n:=zKy T.n0 T.n1
  have hV:zAi (s.ms++[new]) v.n=zAi s.ms v.n:=zKy V.n0 V.n1
  have hml:(s.ms++[new]).length=s.ms.length+1:=by simp
  have hba:=yHu (n:=(nmsF (zAi s.ms t.n)).length) (keep:=kp.1) hkw
  have hxA:∀ u ∈ ex.map (·.2),u.kind=3∧u.n<(zAi s.ms t.n).level∧(zAi s.ms v.n).level≤u.n∧∀ x:Int,zEv x u:=fun u hu=>by
   obtain ⟨p,hp,rfl⟩:=List.mem_map.1 hu
   obtain ⟨a1,a2,a3,a4,a5,a6⟩:=X.at_ p hp
   rw [Nat.sub_zero] at a3
   have hmem:p.2 ∈ v.args:=by rw [← a3];exact zDg (by omega)
   have:=V.args _ hmem
   exact ⟨a4,a5,a6,fun x=>⟨this.1,this.2.1,fun e=>by omega,this.2.2.2⟩⟩
  have hiA:∀ u ∈ zCn (nmsF (zAi s.ms t.n)).length kp.1++ex.map (·.2),zEv (nmsF (zAi s.ms t.n)).length u:=fun u hu=>by
   rcases List.mem_append.1 hu with hu|hu
   ·exact hba u hu
   ·exact (hxA u hu).2.2.2 _
  have hb2:∀ u ∈ zCn (nmsF (zAi s.ms t.n)).length kp.1,u.kind=2:=fun u hu=>by
   obtain ⟨k,_,rfl⟩:=List.mem_map.1 hu;rfl
  have hiH:∀ u ∈ zCn (nmsF (zAi s.ms t.n)).length kp.1++ex.map (·.2),u.kind=3→u.n<(zAi s.ms t.n).level∧(zAi s.ms v.n).level≤u.n:=fun u hu h3=>by
   rcases List.mem_append.1 hu with hu|hu
   ·have:=hb2 u hu;omega
   ·exact ⟨(hxA u hu).2.1,(hxA u hu).2.2.1⟩
  have hiP:(zCn (nmsF (zAi s.ms t.n)).length kp.1++ex.map (·.2)).Pairwise (fun b u=>isF u b=false):=by
   refine List.pairwise_append.2 ⟨z7k K.inc,?_,fun b hb u hu=>?_⟩
   ·rw [List.pairwise_map]
    refine X.inc.imp_of_mem fun {p q} hp hq hpq=>?_
    obtain ⟨a1,a2,a3,_⟩:=X.at_ p hp
    obtain ⟨b1,b2,b3,_⟩:=X.at_ q hq
    rw [Nat.sub_zero] at a3 b3
    rw [← a3,← b3]
    exact yA5 V.pair (by omega) (by omega) (by omega)
   ·rw [zHx]
    left
    rw [(hxA u hu).1,hb2 b hb];decide
  have hiL:(zCn (nmsF (zAi s.ms t.n)).length kp.1++ex.map (·.2)).length=kp.1.length+ex.length:=by simp [zCn]
  generalize zCn (nmsF (zAi s.ms t.n)).length kp.1++ex.map (·.2)=ins at *
  have fin:zAw (s.ms++[new]) (sVar (s.ms.length:Int) ins) (zBj (zAi (s.ms++[new]) t.n).type)=true:=by
   rw [hT,← zJg]
   exact zOb (by omega) (by rw [hml];omega) (by rw [hm,ntyp,hiL]) hiA (fun u hu h3=>by have:=(hiH u hu h3).2;rw [hm,nlev];omega) hiP
  have sin:zFn (s.ms++[new]) (zAi (s.ms++[new]) t.n).level (sVar (s.ms.length:Int) ins)=true:=by
   rw [hT]
   exact zU0 (by rw [hm,nlev];omega) (fun u hu=>⟨(hiA u hu).1,fun h3=>(hiH u hu h3).1⟩)
  have gnew:(s.ms++[new]).getD s.ms.length noVa=new:=by rw [zFw,if_pos rfl]
  have hT0:=T.n0
  have hT1:=T.n1
  have hV0:=V.n0
  have hV1:=V.n1
  have ain:AvT (s.ms++[new]) t.n.toNat (sVar (s.ms.length:Int) ins):=by
   intro k hk
   rw [zFy (t:=sVar (s.ms.length:Int) ins) rfl,List.mem_singleton] at hk
   subst hk
   refine ⟨by show (0:Int)≤(s.ms.length:Int);omega,?_⟩
   show Av (s.ms++[new]) t.n.toNat ((s.ms.length:Int)).toNat
   rw [Int.toNat_natCast]
   exact z3g (by omega) (by rw [gnew];exact nis)
  obtain ⟨I2,E2⟩:=z19 (s:=⟨s.ms++[new],s.wk⟩) I1 (n:=t.n) (b:=sVar (s.ms.length:Int) ins) hT0 (by rw [hml];omega) (by rw [hT];exact tu) fin sin (show (4:Int)≠5 by decide) (by rw [zUz (fun u hu=>(hiA u hu).1)];omega) ain
  have avm:Av (zIm ⟨s.ms++[new],s.wk⟩ t.n (sVar (s.ms.length:Int) ins)).ms v.n.toNat s.ms.length:=by
   refine z3g (by omega) ?_
   show (((s.ms++[new]).set t.n.toNat _).getD _ _).is=false
   rw [zJl,if_neg (by omega),gnew];exact nis
  refine ⟨⟨I2,E1.trans E2,?_,?_,?_,?_,fun k hk=>?_,?_,Int.le_refl _⟩,rfl⟩
  ·show (zAi ((s.ms++[new]).set t.n.toNat _) v.n).is=false
   rw [z4t (by omega),hV];exact vu
  ·exact zBw E2 _ _ (zOb (by omega) (by rw [hml];omega) (by rw [hm,ntyp,hoL]) hoA (fun u hu h3=>by have:=(hoH u hu h3).2;rw [hm,nlev];omega) hoP)
  ·refine zLt E2 _ (v.args.length+d) (zOb (by omega) (by rw [hml];omega) (by rw [hm,ntyp,hoL]) hoA (fun u hu h3=>by have:=(hoH u hu h3).2;rw [hm,nlev];omega) hoP) (zU0 (by rw [hm,nlev];omega) (fun u hu=>⟨(hoA u hu).1,fun h3=>(hoH u hu h3).1⟩))
  ·intro k hk
   rw [zFy (t:=sVar (s.ms.length:Int) o) rfl,List.mem_singleton] at hk
   subst hk
   exact ⟨by show (0:Int)≤(s.ms.length:Int);omega,by rw [show (sVar (s.ms.length:Int) o).n.toNat=s.ms.length from Int.toNat_natCast _];exact avm⟩
  ·refine yN6 hneN (by rw [hml];omega) (fun j hj=>?_) (yHv nis hk)
   have hj':(j:Int) ∈ zBu (zEs (zBj (zAi (s.ms++[new]) t.n).type) (sVar (s.ms.length:Int) ins)):=hj
   rw [zNe,zFy (t:=sVar (s.ms.length:Int) ins) rfl,List.mem_singleton] at hj'
   obtain rfl:j=s.ms.length:=by have:(j:Int)=(s.ms.length:Int):=hj';omega
   exact avm
  ·rw [zUz (fun u hu=>(hoA u hu).1)]
   show ((o.length+1:Nat):Int)≤9 * (s.wk - s.wk)+9
   omega
end Go.Proofs.YthkjmiejaoomcaaGreat.Am
namespace Go.Proofs.YthkjmiejaoomcaaGreat.Am
open Go Go.RowKit Go.Proofs
set_option linter.unusedVariables false
set_option linter.unusedSimpArgs false
theorem zGe.ext {ms ms':List Va} {v:Term} {D:Int} (V:zGe ms v D) (e:ExtS ms ms'):zGe ms' v D:=by
 have hl:=e.len
 have h0:=V.n0
 have h1:=V.n1
 refine ⟨h0,by omega,V.args,fun u hu h3=>?_,V.pair,?_⟩
 ·rw [e.lev _ h0 h1];exact V.high u hu h3
 ·rw [e.typ _ h0 h1];exact V.ar
theorem zKi {s s':Sv} {deep:Int} (h:zGh s deep=.ok s'):s'=⟨s.ms,s.wk+1⟩∧s.wk+1≤40000∧deep≤400:=by
 unfold zGh at h
 split at h
 ·cases h
 ·rename_i h1
  split at h
  ·cases h
  ·rename_i h2
   injection h with h
   simp only [decide_eq_true_eq] at h1 h2
   exact ⟨h.symm,by omega,by omega⟩
theorem yL4 {s s':Sv} {v t out:Term} {d:Int} (h:zMa s v t d=.ok (s',out)):s'.wk=s.wk:=by
 unfold zMa at h
 split at h
 ·cases h
 dsimp only at h
 split at h
 ·injection h with h;injection h with e1 _;rw [← e1]
 ·split at h
  ·cases h
  ·obtain ⟨⟨s1,m⟩,hfr,h⟩:=bind_ok h
   obtain ⟨_,e1,_⟩:=zIc hfr
   subst e1
   injection h with h;injection h with e1 _;rw [← e1];rfl
structure MapOk (s s':Sv) (v:Term) (d:Int) (l outs:List Term):Prop where
 inv:Inv s'.ms
 ext:ExtS s.ms s'.ms
 free:(zAi s'.ms v.n).is=false
 fits:∀ u ∈ outs,zAw s'.ms u (v.args.length+d)=true
 sees:∀ u ∈ outs,zFn s'.ms (zAi s.ms v.n).level u=true
 av:∀ u ∈ outs,AvT s'.ms v.n.toNat u
 mono:∀ k,Av s.ms v.n.toNat k→Av s'.ms v.n.toNat k
 size:(sizes outs:Int)≤9 * (s'.wk - s.wk)
 wk:s.wk≤s'.wk∧s'.wk≤40000
 len:outs.length=l.length
theorem map_ok {g:Sv→Term→Rz (Sv × Term)} {v:Term} {D d:Int}
  (hg:∀ (s:Sv) (t:Term) (s':Sv) (out:Term),Inv s.ms→s.wk≤40000→zGe s.ms v D→(zAi s.ms v.n).is=false→zAw s.ms t (D+d)=true→g s t=.ok (s',out)→yH5 0 s s' v d out∧s'.wk≤40000) :
  ∀ (l:List Term) (s s':Sv) (outs:List Term),Inv s.ms→s.wk≤40000→zGe s.ms v D→(zAi s.ms v.n).is=false→(∀ t ∈ l,zAw s.ms t (D+d)=true)→mapS g s l=.ok (s',outs)→MapOk s s' v d l outs
 |[],s,s',outs,I,hw,V,vu,hf,h=>by
  rw [mapS] at h
  injection h with h;injection h with e1 e2
  subst e1;subst e2
  exact ⟨I,ExtS.refl _,vu,fun u hu=>absurd hu List.not_mem_nil,fun u hu=>absurd hu List.not_mem_nil,fun u hu=>absurd hu List.not_mem_nil,fun k hk=>hk,by rw [sizes];omega,⟨Int.le_refl _,hw⟩,rfl⟩
 |t::l,s,s',outs,I,hw,V,vu,hf,h=>by
  rw [mapS] at h
  obtain ⟨⟨s1,x⟩,h1,h⟩:=bind_ok h
  obtain ⟨⟨s2,xs⟩,h2,h⟩:=bind_ok h
  injection h with h;injection h with e1 e2
  subst e1;subst e2
  obtain ⟨T,hw1⟩:=hg s t s1 x I hw V vu (hf t List.mem_cons_self) h1
  have M:=map_ok hg l s1 s2 xs T.inv hw1 (V.ext T.ext) T.free (fun u hu=>zBw T.ext _ _ (hf u (List.mem_cons_of_mem _ hu))) h2
  have hlev:=T.ext.lev v.n V.n0 V.n1
  have t1:=T.size
  have t2:=M.size
  have t3:=T.wk
  have t4:=M.wk
  refine ⟨M.inv,T.ext.trans M.ext,M.free,fun u hu=>?_,fun u hu=>?_,fun u hu=>?_,fun k hk=>M.mono k (T.mono k hk),?_,⟨by show s.wk≤s2.wk;omega,t4.2⟩,by rw [List.length_cons,List.length_cons,M.len]⟩
  ·rcases List.mem_cons.1 hu with rfl|hu
   ·exact zBw M.ext _ _ T.fits
   ·exact M.fits u hu
  ·rcases List.mem_cons.1 hu with rfl|hu
   ·exact zLt M.ext _ _ T.fits T.sees
   ·have:=M.sees u hu;rw [hlev] at this;exact this
  ·rcases List.mem_cons.1 hu with rfl|hu
   ·exact fun k hk=>⟨(T.av k hk).1,M.mono _ (T.av k hk).2⟩
   ·exact M.av u hu
  ·show ((sizes (x::xs):Nat):Int)≤9 * (s2.wk - s.wk)
   rw [sizes];omega
theorem zCy {ms:List Va} (I:Inv ms) {t:Term} {d:Int} (hd:0≤d) (hf:zAw ms t d=true):zAw ms (zDx ms t) d=true∧(((zDx ms t).kind==4)=true→(zAi ms (zDx ms t).n).is=false)∧((zDx ms t).size≤t.size∨(zDx ms t).size≤400000)∧∃ k,zS8 ms k t (zDx ms t):=by
 obtain ⟨k,h⟩:=yJ1 I hd hf
 refine ⟨h.fits,fun h4=>?_,h.size,k,h.hs⟩
 have:=h.flex
 rw [h4,Bool.true_and] at this
 exact this
theorem z9y {k n:Int} {s:ByteArray} {l:List Term} (h:k≠4):zBu ⟨k,n,s,l⟩=zCl l:=by
 rw [zBu,if_neg (by simpa using h)]
theorem zW6:∀ (l:List Term) (k:Int),k ∈ zCl l→∃ u ∈ l,k ∈ zBu u
 |[],k,h=>by rw [zCl] at h;exact absurd h List.not_mem_nil
 |t::l,k,h=>by
  rw [zCl] at h
  rcases List.mem_append.1 h with h|h
  ·exact ⟨t,List.mem_cons_self,h⟩
  ·obtain ⟨u,hu,hk⟩:=zW6 l k h
   exact ⟨u,List.mem_cons_of_mem _ hu,hk⟩
theorem zHo {v:Term} {D:Int} (hD:0≤D):∀ (f:Nat) (s:Sv) (t:Term) (d deep:Int) (s':Sv) (out:Term),Inv s.ms→0≤d→zGe s.ms v D→(zAi s.ms v.n).is=false→zAw s.ms t (D+d)=true→zKw f s v t d deep=.ok (s',out) →
  yH5 0 s s' v d out∧s'.wk≤40000∧(out.kind=5→(zDx s.ms t).kind=5):=by
 intro f
 induction f with
 |zero=>intro s t d deep s' out _ _ _ _ _ h;rw [zKw] at h;cases h
 |succ f ih =>
  intro s t d deep s' out I hd V vu hf h
  rw [zKw] at h
  obtain ⟨s1,hc,h⟩:=bind_ok h
  obtain ⟨e1,hw,_⟩:=zKi hc
  subst e1
  dsimp only at h
  obtain ⟨hfu,hflex,_,_⟩:=zCy I (by omega:0≤D+d) hf
  generalize zDx s.ms t=u at *
  generalize hoe:(if zDf u.kind=true then zDo (zAi s.ms v.n).level v.args ⟨u.kind,u.n,zAr,[]⟩ d else (⟨u.kind,u.n,u.name,[]⟩,true))=o at h
  split at h
  ·rename_i h4
   obtain ⟨T,hk⟩:=yEy (s:=⟨s.ms,s.wk+1⟩) I hd V vu (zDy hfu h4) (hflex h4) h
   have hwk:=yL4 h
   refine ⟨⟨T.inv,T.ext,T.free,T.fits,T.sees,T.av,T.mono,?_,?_⟩,?_,fun e=>by omega⟩
   ·have:=T.size;simp only at this hwk;omega
   ·simp only at hwk;omega
   ·simp only at hwk;omega
  ·rename_i h4
   have n4:u.kind≠4:=by simpa using h4
   split at h
   case isFalse=>cases h
   rename_i ho
   obtain ⟨⟨s2,outs⟩,hm,h⟩:=bind_ok h
   injection h with h;injection h with e1 e2
   have hfu':=hfu
   rw [zCh,Bool.and_eq_true] at hfu'
   have hin:inner u.kind (D+d)=D+inner u.kind d:=by unfold inner;split <;> omega
   have hin0:0≤inner u.kind d:=zEw hd
   rw [hin] at hfu'
   have M:=map_ok (D:=D) (d:=inner u.kind d) (fun s t s' out I hw V vu hf h=>⟨(ih s t _ _ s' out I hin0 V vu hf h).1,(ih s t _ _ s' out I hin0 V vu hf h).2.1⟩) u.args ⟨s.ms,s.wk+1⟩ s2 outs I hw V vu ((zBr _ _ _).1 hfu'.2) hm
   simp only at e1 e2
   subst e1
   have m1:=M.size
   have m2:=M.wk
   have h8:=zId hfu
   have hlen:=M.len
   simp only at m1 m2
   have hhead:∃ k n nm,out=⟨k,n,nm,outs⟩∧zA4 s2.ms k n nm outs (v.args.length+d)=true∧inner k ((v.args.length:Int)+d)=v.args.length+inner u.kind d∧(k=3→n<(zAi s.ms v.n).level)∧k≠4∧(k=5→u.kind=5):=by
    cases hvp:zDf u.kind
    ·rw [hvp] at hoe
     simp only [Bool.false_eq_true,if_false] at hoe
     subst hoe
     simp only at e2
     unfold zDf at hvp
     rw [Bool.or_eq_false_iff] at hvp
     have n2:u.kind≠2:=by simpa using hvp.1
     have n3:u.kind≠3:=by simpa using hvp.2
     refine ⟨u.kind,u.n,u.name,e2.symm,?_,by unfold inner;split <;> omega,fun e=>absurd e n3,n4,fun e=>e⟩
     have h1:=hfu'.1
     unfold zA4 zA1 at h1 ⊢
     rw [hlen]
     simp [n2,n3,n4] at h1 ⊢
     exact h1
    ·rw [hvp] at hoe
     simp only [if_true] at hoe
     subst hoe
     have hk:u.kind=2∨u.kind=3:=by
      unfold zDf at hvp
      simpa using hvp
     have hA:zEv (D+d) ⟨u.kind,u.n,zAr,[]⟩:=by
      refine ⟨?_,rfl,fun e=>(show 0≤u.n∧u.n<D+d from zE6 hfu e),fun e=>?_⟩
      ·unfold zBm;rcases hk with e|e <;> · rw [e];rfl
      ·have h1:=hfu'.1
       have e':u.kind=3:=e
       unfold zA4 zA1 at h1
       rw [e'] at h1
       simp at h1
       show 0≤u.n∧u.n<60
       omega
     have P:=zHi (y:=⟨u.kind,u.n,zAr,[]⟩) hk ho
     obtain ⟨hz1,hz2⟩:=P.ok (D:=D) hd hA
     generalize (zDo (zAi s.ms v.n).level v.args ⟨u.kind,u.n,zAr,[]⟩ d).1=z at *
     have kz:=(zA2 hz1.1).1
     refine ⟨z.kind,z.n,z.name,e2.symm,z3h hz1 outs (by omega),?_,fun e=>(hz2 e).1,by omega,fun e=>by omega⟩
     unfold inner
     rw [if_neg (by simp;omega),if_neg (by simp;omega)]
   obtain ⟨k,n,nm,rfl,hh1,hh2,hh3,hh4,hh5⟩:=hhead
   refine ⟨⟨M.inv,M.ext,M.free,?_,?_,?_,M.mono,?_,by omega⟩,by omega,hh5⟩
   ·rw [zAw,Bool.and_eq_true]
    refine ⟨hh1,(zBr _ _ _).2 fun w hw=>?_⟩
    rw [hh2];exact M.fits w hw
   ·rw [zFn,Bool.and_eq_true]
    refine ⟨?_,(zP7 _ _ _).2 M.sees⟩
    unfold zFr
    by_cases e3:k=3
    ·have:=hh3 e3;subst e3;simp;omega
    ·simp [e3,hh4]
   ·intro j hj
    rw [z9y hh4] at hj
    obtain ⟨w,hw,hj⟩:=zW6 _ _ hj
    exact M.av w hw j hj
   ·rw [Term.size];omega
structure zKm (s s':Sv):Prop where
 inv:Inv s'.ms
 ext:ExtS s.ms s'.ms
theorem zKm.of {s s1 s':Sv} (S:zKm s1 s') (e:s1.ms=s.ms):zKm s s':=⟨S.inv,by rw [← e];exact S.ext⟩
theorem yFz {s s':Sv} (I:Inv s.ms) {n:Int} {keep:List Nat} (h0:0≤n) (h1:n<(s.ms.length:Int)) (hu:(zAi s.ms n).is=false) (hk:∀ k ∈ keep,k<zBj (zAi s.ms n).type) (hp:keep.Pairwise (·<·)) (h8:keep.length≤8) (h:zGa s n keep=.ok s'):zKm s s':=by
 unfold zGa at h
 dsimp only at h
 obtain ⟨⟨s1,m⟩,hfr,h⟩:=bind_ok h
 obtain ⟨hlt,e1,e2⟩:=zIc hfr
 subst e1;subst e2
 simp only at h
 injection h with h
 subst h
 have tyv:=(I.val _ (zOe h0 h1)).ty
 have nb:=z1z tyv
 have lv:=zVp tyv
 have hnl:(zA9 (nmsF (zAi s.ms n)) keep).length=keep.length:=by simp [zA9]
 obtain ⟨hty,har⟩:=yAl (lv:=(zAi s.ms n).level) (zTt nb.1 hk) nb.2 (by omega) lv.2.1 lv.2.2
 rw [hnl] at har
 have I1:=z6j I hlt hty
 have E1:=zTz s.ms (zMb (zAi s.ms n).level (zBs (zA9 (nmsF (zAi s.ms n)) keep) (zCb (zAi s.ms n).type)))
 generalize hNew:zMb (zAi s.ms n).level (zBs (zA9 (nmsF (zAi s.ms n)) keep) (zCb (zAi s.ms n).type))=new at *
 have nlev:new.level=(zAi s.ms n).level:=by rw [← hNew];rfl
 have ntyp:zBj new.type=keep.length:=by rw [← hNew];exact har
 have nis:new.is=false:=by rw [← hNew];rfl
 have hm:zAi (s.ms++[new]) (s.ms.length:Int)=new:=z4u _ _
 have hT:zAi (s.ms++[new]) n=zAi s.ms n:=zKy h0 h1
 have hml:(s.ms++[new]).length=s.ms.length+1:=by simp
 have hba:=yHu (n:=(nmsF (zAi s.ms n)).length) (keep:=keep) hk
 have hb2:∀ u ∈ zCn (nmsF (zAi s.ms n)).length keep,u.kind=2:=fun u hu=>by
  obtain ⟨k,_,rfl⟩:=List.mem_map.1 hu;rfl
 have hbl:(zCn (nmsF (zAi s.ms n)).length keep).length=keep.length:=by simp [zCn]
 have hbp:=z7k (n:=(nmsF (zAi s.ms n)).length) hp
 generalize zCn (nmsF (zAi s.ms n)).length keep=ins at *
 have gnew:(s.ms++[new]).getD s.ms.length noVa=new:=by rw [zFw,if_pos rfl]
 obtain ⟨I2,E2⟩:=z19 (s:=⟨s.ms++[new],s.wk⟩) I1 (n:=n) (b:=sVar (s.ms.length:Int) ins) h0 (by rw [hml];omega) (by rw [hT];exact hu)
  (by rw [hT,← zJg];exact zOb (by omega) (by rw [hml];omega) (by rw [hm,ntyp,hbl]) hba (fun u hu h3=>by have:=hb2 u hu;omega) hbp)
  (by rw [hT];exact zU0 (by rw [hm,nlev];omega) (fun u hu=>⟨(hba u hu).1,fun h3=>by have:=hb2 u hu;omega⟩))
  (show (4:Int)≠5 by decide) (by rw [zUz (fun u hu=>(hba u hu).1)];omega) (fun k hk=>by
   rw [zFy (t:=sVar (s.ms.length:Int) ins) rfl,List.mem_singleton] at hk
   subst hk
   refine ⟨by show (0:Int)≤(s.ms.length:Int);omega,?_⟩
   show Av (s.ms++[new]) n.toNat ((s.ms.length:Int)).toNat
   rw [Int.toNat_natCast]
   exact z3g (by omega) (by rw [gnew];exact nis))
 exact ⟨I2,E1.trans E2⟩
theorem zTk:∀ (l m:List Term) (i:Nat),(∀ k ∈ zDj l m i,i≤k∧k<i+l.length)∧(zDj l m i).Pairwise (·<·)∧(zDj l m i).length≤l.length
 |[],m,i=>by unfold zDj;exact ⟨fun k hk=>absurd hk List.not_mem_nil,List.Pairwise.nil,Nat.le_refl _⟩
 |a::l,[],i=>by unfold zDj;exact ⟨fun k hk=>absurd hk List.not_mem_nil,List.Pairwise.nil,Nat.zero_le _⟩
 |a::l,b::m,i=>by
  obtain ⟨h1,h2,h3⟩:=zTk l m (i+1)
  rw [zDj]
  split
  ·refine ⟨fun k hk=>?_,List.pairwise_cons.2 ⟨fun k hk=>(h1 k hk).1,h2⟩,by simpa using h3⟩
   rw [List.length_cons]
   rcases List.mem_cons.1 hk with rfl|hk
   ·omega
   ·have:=h1 k hk;omega
  ·refine ⟨fun k hk=>?_,h2,Nat.le_succ_of_le h3⟩
   have:=h1 k hk;rw [List.length_cons];omega
theorem yCc {s s':Sv} (I:Inv s.ms) {a b:Term} {D:Int} (A:zGe s.ms a D) (hu:(zAi s.ms a.n).is=false) (h:zGi s a b=.ok s'):zKm s s':=by
 unfold zGi at h
 split at h
 ·obtain ⟨h1,h2,h3⟩:=zTk a.args b.args 0
  have h8:=zEl (zAi s.ms a.n).type
  have har:=A.ar
  exact yFz I A.n0 A.n1 hu (fun k hk=>by have:=h1 k hk;omega) h2 (by omega) h
 ·injection h with h;subst h;exact ⟨I,ExtS.refl _⟩
theorem zXi {s s':Sv} (I:Inv s.ms) {v t:Term} {D:Int} (hD:0≤D) (hw0:0≤s.wk) (V:zGe s.ms v D) (vu:(zAi s.ms v.n).is=false) (hf:zAw s.ms t D=true) (hflex:((t.kind==4)=true→(zAi s.ms t.n).is=false)) (h:zE3 s v t=.ok s'):zKm s s':=by
 unfold zE3 at h
 split at h
 ·cases h
 rename_i h5
 obtain ⟨⟨s1,b⟩,ht,h⟩:=bind_ok h
 injection h with h
 subst h
 have hh:zDx s.ms t=t:=head_eq (.done (by
  cases h4:(t.kind==4)
  ·rfl
  ·rw [hflex h4];rfl))
 obtain ⟨T,hw,hk⟩:=zHo hD 402 s t 0 0 s1 b I (Int.le_refl _) V vu (by rw [Int.add_zero];exact hf) ht
 rw [hh] at hk
 have h0:=V.n0
 have h1:=V.n1
 have hl:=T.ext.len
 have hsz:=T.size
 have hty:=T.ext.typ _ h0 h1
 have hlv:=T.ext.lev _ h0 h1
 have hfit:=T.fits
 rw [Int.add_zero] at hfit
 have hse:=T.sees
 obtain ⟨I2,E2⟩:=z19 (s:=s1) T.inv (n:=v.n) (b:=b) h0 (by omega) T.free (by rw [hty,V.ar];exact hfit) (by rw [hlv];exact hse) (fun e=>by have:=hk e;simp at h5;exact h5 this) (by omega) T.av
 exact ⟨I2,T.ext.trans E2⟩
theorem z9x {g:Sv→Term→Term→Rz Sv} {d:Int} (hg:∀ (s:Sv) (a b:Term) (s':Sv),Inv s.ms→0≤s.wk→zAw s.ms a d=true→zAw s.ms b d=true→g s a b=.ok s'→zKm s s'∧0≤s'.wk) :
  ∀ (l m:List Term) (s s':Sv),Inv s.ms→0≤s.wk→(∀ t ∈ l,zAw s.ms t d=true)→(∀ t ∈ m,zAw s.ms t d=true)→zI2 g s l m=.ok s'→zKm s s'∧0≤s'.wk
 |a::l,b::m,s,s',I,hw,hl,hm,h=>by
  rw [zI2] at h
  obtain ⟨s1,h1,h⟩:=bind_ok h
  obtain ⟨S,hw1⟩:=hg s a b s1 I hw (hl a List.mem_cons_self) (hm b List.mem_cons_self) h1
  obtain ⟨S2,hw2⟩:=z9x hg l m s1 s' S.inv hw1 (fun t ht=>zBw S.ext _ _ (hl t (List.mem_cons_of_mem _ ht))) (fun t ht=>zBw S.ext _ _ (hm t (List.mem_cons_of_mem _ ht))) h
  exact ⟨⟨S2.inv,S.ext.trans S2.ext⟩,hw2⟩
 |[],m,s,s',I,hw,hl,hm,h=>by
  unfold zI2 at h
  injection h with h;subst h;exact ⟨⟨I,ExtS.refl _⟩,hw⟩
 |a::l,[],s,s',I,hw,hl,hm,h=>by
  unfold zI2 at h
  injection h with h;subst h;exact ⟨⟨I,ExtS.refl _⟩,hw⟩
theorem z5u {s s':Sv} {n:Int} {keep:List Nat} (h:zGa s n keep=.ok s'):s'.wk=s.wk:=by
 unfold zGa at h
 dsimp only at h
 obtain ⟨⟨s1,m⟩,hfr,h⟩:=bind_ok h
 obtain ⟨_,e1,_⟩:=zIc hfr
 subst e1
 injection h with h;subst h;rfl
theorem zLs:∀ (f:Nat) (s:Sv) (a b:Term) (d deep:Int) (s':Sv),Inv s.ms→0≤s.wk→0≤d→zAw s.ms a d=true→zAw s.ms b d=true→zDi f s a b deep=.ok s'→zKm s s'∧0≤s'.wk:=by
 intro f
 induction f with
 |zero=>intro s a b d deep s' _ _ _ _ _ h;rw [zDi] at h;cases h
 |succ f ih =>
  intro s a b d deep s' I hw hd ha hb h
  rw [zDi] at h
  obtain ⟨s1,hc,h⟩:=bind_ok h
  obtain ⟨e1,hw1,_⟩:=zKi hc
  subst e1
  dsimp only at h
  obtain ⟨hfa,hxa,_,_⟩:=zCy I hd ha
  obtain ⟨hfb,hxb,_,_⟩:=zCy I hd hb
  generalize zDx s.ms a=a at *
  generalize zDx s.ms b=b at *
  split at h
  ·rename_i hc
   simp only [Bool.and_eq_true] at hc
   refine ⟨(yCc (s:=⟨s.ms,s.wk+1⟩) I (zDy hfa hc.1) (hxa hc.1) h).of rfl,?_⟩
   unfold zGi at h
   split at h
   ·have:=z5u h;simp only at this;omega
   ·injection h with h;subst h;simp only;omega
  ·split at h
   ·rename_i h4
    refine ⟨(zXi (s:=⟨s.ms,s.wk+1⟩) I hd (by show 0≤s.wk+1;omega) (zDy hfa h4) (hxa h4) hfb hxb h).of rfl,?_⟩
    unfold zE3 at h
    split at h
    ·cases h
    obtain ⟨⟨s1,x⟩,ht,h⟩:=bind_ok h
    injection h with h
    subst h
    have T:=(zHo hd 402 ⟨s.ms,s.wk+1⟩ b 0 0 s1 x I (Int.le_refl _) (zDy hfa h4) (hxa h4) (by rw [Int.add_zero];exact hfb) ht).1
    have:=T.wk
    simp only at this
    show 0≤s1.wk
    omega
   ·split at h
    ·rename_i h4
     refine ⟨(zXi (s:=⟨s.ms,s.wk+1⟩) I hd (by show 0≤s.wk+1;omega) (zDy hfb h4) (hxb h4) hfa hxa h).of rfl,?_⟩
     unfold zE3 at h
     split at h
     ·cases h
     obtain ⟨⟨s1,x⟩,ht,h⟩:=bind_ok h
     injection h with h
     subst h
     have T:=(zHo hd 402 ⟨s.ms,s.wk+1⟩ a 0 0 s1 x I (Int.le_refl _) (zDy hfb h4) (hxb h4) (by rw [Int.add_zero];exact hfa) ht).1
     have:=T.wk
     simp only at this
     show 0≤s1.wk
     omega
    ·split at h
     ·cases h
     rename_i hu
     have hkk:a.kind=b.kind:=by
      unfold zGf at hu
      simp at hu
      exact hu.1
     have ga:=hfa
     have gb:=hfb
     rw [zCh,Bool.and_eq_true] at ga gb
     rw [← hkk] at gb
     have E:=z9x (d:=inner a.kind d) (fun s a b s' I hw ha hb h=>ih s a b _ _ s' I hw (zEw hd) ha hb h) a.args b.args ⟨s.ms,s.wk+1⟩ s' I (by show 0≤s.wk+1;omega) ((zBr _ _ _).1 ga.2) ((zBr _ _ _).1 gb.2) h
     exact ⟨E.1.of rfl,E.2⟩
end Go.Proofs.YthkjmiejaoomcaaGreat.Am
namespace Go.Proofs.YthkjmiejaoomcaaGreat.Am
open Go Go.RowKit Go.Proofs
set_option linter.unusedVariables false
set_option linter.unusedSimpArgs false
theorem z7j {t:Ty} (h:zBp t=true):t.size=1:=by
 unfold zBp at h
 simp only [Bool.and_eq_true,beq_iff_eq] at h
 obtain ⟨n,l⟩:=t
 have:l=[]:=List.eq_nil_of_length_eq_zero (by have:=h.1.1.1;simp only at this;omega)
 subst this
 rw [Ty.size,zK0]
theorem yHx:∀ (s:Nat) (t:Ty) (out l:List ByteArray),t.size≤s→out.length≤8→zFa t out=some l→t.size≤2 * (8 - out.length)+1:=by
 intro s
 induction s with
 |zero=>intro t out l ht;obtain ⟨a,b⟩:=t;rw [Ty.size] at ht;omega
 |succ s ih =>
  intro t out l ht ho hg
  cases h:(zFj t.name&&(t.args.length:Int)==2)
  ·rw [zEm out h,zFm] at hg
   split at hg
   ·rename_i hb
    have:=z7j hb;omega
   ·cases hg
  ·rw [Bool.and_eq_true] at h
   obtain ⟨a,b,hab,he,hlt⟩:=zI5 out h.1 h.2
   rw [he] at hg
   split at hg
   ·cases hg
   ·rename_i hn
    simp only [Bool.or_eq_true,not_or,Bool.not_eq_true',Bool.not_eq_false,beq_iff_eq] at hn
    have h8:out.length<8:=by
     have:=hn.2
     omega
    have h1:=ih b (out++[a.name]) l (by omega) (by simp;omega) hg
    have h2:=z7j hn.1
    obtain ⟨n,m⟩:=t
    simp only at hab
    subst hab
    rw [Ty.size,zK0,zK0,zK0,h2]
    simp only [List.length_append,List.length_singleton] at h1
    omega
theorem z4v {t:Ty} (h:(zDu t).isSome=true):t.size≤17:=by
 cases ha:zDu t with
 |none=>rw [ha] at h;cases h
 |some l =>
  have:=yHx t.size t [] l (Nat.le_refl _) (by decide) ha
  simp only [List.length_nil] at this
  omega
theorem yD5 {t:Term} (h:zTv t=true):t.size=1:=by
 unfold zTv at h
 simp only [Bool.and_eq_true,beq_iff_eq] at h
 obtain ⟨k,n,s,l⟩:=t
 have:l=[]:=List.eq_nil_of_length_eq_zero (by have:=h.2;simp only at this;omega)
 subst this
 rw [Term.size,sizes]
theorem zXa {vs:List Va} (h:(zBd vs==0)=true):∀ v ∈ vs,v.type.size≤1000000000∧v.t.size≤1000000000:=by
 have h0:zBd vs=0:=by simpa using h
 unfold zBd at h0
 split at h0
 ·cases h0
 ·split at h0
  ·cases h0
  ·rename_i hl
   have hl':zM7 vs 4000=false:=by simpa using hl
   split at h0
   ·rename_i hall
    intro v hv
    rw [List.all_eq_true] at hall
    have hva:=hall v hv
    unfold zIp zFd at hva
    simp only [Bool.and_eq_true] at hva
    have h1:=z4v hva.1.1
    refine ⟨by omega,?_⟩
    have h2:=hva.2
    cases hi:v.is
    ·rw [hi] at h2
     have:=yD5 (by simpa using h2);omega
    ·have:=zHk vs 4000 hl' v hv hi;omega
   ·cases h0
end Go.Proofs.YthkjmiejaoomcaaGreat.Am
namespace Go.Proofs.YthkjmiejaoomcaaGreat.Am
open Go Go.RowKit Go.Proofs
set_option linter.unusedVariables false
set_option linter.unusedSimpArgs false
theorem z10 {a b:ByteArray} (h:a.toList=b.toList):a=b:=by
 rw [ByteArray.toList_eq,ByteArray.toList_eq] at h
 have:=Array.toList_inj.1 h
 cases a;cases b
 simp only at this
 rw [this]
theorem zR9 {d:Int} {u:Term} (h:zEv d u):u=⟨u.kind,u.n,zAr,[]⟩:=by
 obtain ⟨k,n,s,l⟩:=u
 have h1:=z10 h.2.1
 have h2:=(zA2 h.1).2
 simp only at h1 h2
 rw [h1,h2]
theorem z6o {vs:List Va} {t:Term} {d:Int} (h:zAw vs t d=true) (hk:t.kind≠1):t.name=zAr:=by
 rw [zCh,Bool.and_eq_true] at h
 have h1:=h.1
 unfold zA4 at h1
 have hk1:(t.kind==1)=false:=by simpa using hk
 rw [hk1] at h1
 simp only [Bool.and_eq_true] at h1
 have h2:=h1.1
 refine z10 ?_
 simpa using h2
def EqV (F:List Va) (d:Int) (a b:Term):Prop:=∃ v,Good F d a v∧Good F d b v
theorem EqV.symm {F:List Va} {d:Int} {a b:Term} (h:EqV F d a b):EqV F d b a:=by
 obtain ⟨v,h1,h2⟩:=h;exact ⟨v,h2,h1⟩
theorem zQz {F:List Va} (hc:zBd F=0) {d:Int} (hd:0≤d) {t:Term} (hf:zAw F t d=true):EqV F d t t:=by
 obtain ⟨v,hv⟩:=zQo hc hd hf
 exact ⟨v,hv,hv⟩
theorem good_step {F:List Va} (hc:zBd F=0) {d:Int} (hd:0≤d) {t v:Term} (hf:zAw F t d=true) (h4:(t.kind==4)=true) (hi:(zAi F t.n).is=true) (h:Good F d (zBi (zCp F t) t.args 0) v):Good F d t v :=
 ⟨yAj h4 hi (step_ok hc hd hf h4 hi).1 h.1,h.2⟩
theorem zWp {ms F:List Va} (hc:zBd F=0) (I:Inv ms) (E:ExtS ms F) {d:Int} (hd:0≤d) {t u v:Term} {k:Nat} (h:zS8 ms k t u):zAw ms t d=true→Good F d u v→Good F d t v:=by
 induction h with
 |done _=>exact fun _ hg=>hg
 |@step t u k h4 hi hs ih =>
  intro hf hg
  obtain ⟨hp,h2,h3,h1,h6,h5,hn0,hn1⟩:=z08 I hd hf h4 hi
  have hff:=zEb hp (zCp ms t) 0 (Int.le_refl _) (by rw [Int.add_zero];exact h2) h3
  rw [Int.add_zero] at hff
  have hk:=E.kept t.n hn0 hn1 hi
  have hb:zCp F t=zCp ms t:=by unfold zCp;rw [hk]
  refine good_step hc hd (zBw E _ _ hf) h4 (by rw [hk];exact hi) ?_
  rw [hb]
  exact ih hff hg
theorem yG0 {ms F:List Va} (hc:zBd F=0) (I:Inv ms) (E:ExtS ms F) {d:Int} (hd:0≤d) {a b:Term} (ha:zAw ms a d=true) (hb:zAw ms b d=true) (h:EqV F d (zDx ms a) (zDx ms b)):EqV F d a b:=by
 obtain ⟨v,h1,h2⟩:=h
 obtain ⟨_,_,_,k,hk⟩:=zCy I hd ha
 obtain ⟨_,_,_,j,hj⟩:=zCy I hd hb
 exact ⟨v,zWp hc I E hd hk ha h1,zWp hc I E hd hj hb h2⟩
theorem yG1 {ms F:List Va} (hc:zBd F=0) (I:Inv ms) (E:ExtS ms F) {d:Int} (hd:0≤d) {a b:Term} (hb:zAw ms b d=true) (h:EqV F d a (zDx ms b)):EqV F d a b:=by
 obtain ⟨v,h1,h2⟩:=h
 obtain ⟨_,_,_,j,hj⟩:=zCy I hd hb
 exact ⟨v,h1,zWp hc I E hd hj hb h2⟩
theorem yDh {F:List Va} {d:Int} {t u:Term} {k:Nat} (h:yAg F d t k u) (hu:(u.kind==4&&(zAi F u.n).is)=false):zS8 F k t u:=by
 induction h with
 |zero=>exact .done hu
 |succ h4 hi ok hs ih=>exact .step h4 hi (ih hu)
theorem yDi {F:List Va} (hc:zBd F=0) {d:Int} (hd:0≤d) {t u:Term} {k:Nat} (h:yAg F d t k u):zAw F t d=true→zAw F u d=true:=by
 induction h with
 |zero=>exact fun hf=>hf
 |@succ t k u h4 hi ok hs ih =>
  intro hf
  obtain ⟨ok2,hp,hfb,hsb⟩:=step_ok hc hd hf h4 hi
  have hff:=zEb hp (zCp F t) 0 (Int.le_refl _) (by rw [Int.add_zero];exact hfb) hsb
  rw [Int.add_zero] at hff
  exact ih hff
theorem yAk {F:List Va} (hc:zBd F=0) {d:Int} (hd:0≤d) {t v:Term} (hf:zAw F t d=true) (h:Val F d t v) :
  ∃ l,v=⟨(zDx F t).kind,(zDx F t).n,(zDx F t).name,l⟩∧l.length=(zDx F t).args.length∧zAw F (zDx F t) d=true∧∀ (i:Nat) (a w:Term),(zDx F t).args[i]?=some a→l[i]?=some w→Val F (inner (zDx F t).kind d) a w:=by
 cases h with
 |@mk _ _ k u l hs hn hl ha =>
  have hu:(u.kind==4&&(zAi F u.n).is)=false:=by
   cases h4:(u.kind==4)
   ·rfl
   ·rw [(hn.var h4).2.2];rfl
  have he:=head_eq (yDh hs hu)
  rw [he]
  exact ⟨l,rfl,hl,yDi hc hd hs hf,ha⟩
theorem zYf {F:List Va} {d:Int} {u w:Term} (hs:zBm u=true) (h:Val F d u w):w.kind=u.kind∧w.n=u.n:=by
 have hk:=(zA2 hs).1
 cases h with
 |@mk _ _ k x l hs2 hn hl ha =>
  cases hs2 with
  |zero=>exact ⟨rfl,rfl⟩
  |succ h4 hi ok hs =>
   have:u.kind=4:=by simpa using h4
   omega
theorem zVy:∀ (l m:List Term) (i:Nat),l.length=m.length→(∀ (j:Nat) (x y:Term),l[j]?=some x→m[j]?=some y→isF x y=true)→(zDj l m i).length=l.length
 |[],[],i,_,_=>rfl
 |a::l,b::m,i,hl,h=>by
  have h0:=h 0 a b rfl rfl
  rw [zDj,h0,if_pos rfl,List.length_cons,List.length_cons,zVy l m (i+1) (by simpa using hl) fun j x y hx hy=>h (j+1) x y (by simpa using hx) (by simpa using hy)]
def NoCh (F:List Va) (r:Rz Sv):Prop:=(∃ w,r=.ok ⟨F,w⟩)∨∃ e,r=.large e
theorem z7a {F:List Va} {g:Sv→Term→Term→Rz Sv}:∀ (l m:List Term) (wk:Int),l.length=m.length→(∀ (j:Nat) (x y:Term) (wk:Int),l[j]?=some x→m[j]?=some y→NoCh F (g ⟨F,wk⟩ x y))→NoCh F (zI2 g ⟨F,wk⟩ l m)
 |[],[],wk,_,_=>.inl ⟨wk,rfl⟩
 |a::l,b::m,wk,hl,h=>by
  rw [zI2]
  rcases h 0 a b wk rfl rfl with ⟨w,e⟩|⟨x,e⟩
  ·rw [e]
   exact z7a l m w (by simpa using hl) fun j x y k hx hy=>h (j+1) x y k (by simpa using hx) (by simpa using hy)
  ·rw [e]
   exact .inr ⟨x,rfl⟩
theorem yCq {F:List Va} (hc:zBd F=0):∀ (f:Nat) (wk d deep:Int) (a b:Term),0≤d→zAw F a d=true→zAw F b d=true→EqV F d a b→NoCh F (zDi f ⟨F,wk⟩ a b deep):=by
 intro f
 induction f with
 |zero=>intro wk d deep a b _ _ _ _;exact .inr ⟨5,rfl⟩
 |succ f ih =>
  intro wk d deep a b hd ha hb ⟨v,⟨va,va2,va3⟩,⟨vb,_,_⟩⟩
  rw [zDi]
  cases hcnt:zGh ⟨F,wk⟩ deep with
  |clash=>unfold zGh at hcnt;split at hcnt <;> first|cases hcnt|(split at hcnt <;> cases hcnt)
  |large e=>exact .inr ⟨e,rfl⟩
  |ok s =>
   obtain ⟨e1,_,_⟩:=zKi hcnt
   subst e1
   show NoCh F (if _ then _ else _)
   dsimp only
   obtain ⟨l,e,hl,hfu,hu⟩:=yAk hc hd ha va
   obtain ⟨m,e2,hm,hfw,hw⟩:=yAk hc hd hb vb
   rw [e] at e2
   injection e2 with k1 k2 k3 k4
   subst k4
   subst e
   generalize zDx F a=u at *
   generalize zDx F b=w at *
   rw [zCh,Bool.and_eq_true] at va2
   have hlen:u.args.length=w.args.length:=by omega
   have hpos:=zEw (k:=u.kind) hd
   have hfu':=hfu
   have hfw':=hfw
   rw [zCh,Bool.and_eq_true] at hfu' hfw'
   have hargs:∀ (j:Nat) (x y:Term),u.args[j]?=some x→w.args[j]?=some y→∃ z,l[j]?=some z∧Val F (inner u.kind d) x z∧Val F (inner u.kind d) y z:=fun j x y hx hy=>by
    have hj:=(List.getElem?_eq_some_iff.1 hx).1
    obtain ⟨z,hz⟩:∃ z,l[j]?=some z:=⟨_,List.getElem?_eq_getElem (by omega)⟩
    have:=hw j y z hy hz
    rw [← k1] at this
    exact ⟨z,hz,hu j x z hx hz,this⟩
   cases h4:(u.kind==4)
   ·have h4w:(w.kind==4)=false:=by rw [← k1];exact h4
    rw [if_neg (by simp),if_neg (by simp),h4w,if_neg (by simp)]
    have hun:zGf u w=false:=by
     unfold zGf
     rw [k1,k2,k3,hlen]
     simp
    rw [hun,if_neg (by simp)]
    refine z7a _ _ _ hlen fun j x y wk hx hy=>?_
    obtain ⟨z,hz,z1,z2⟩:=hargs j x y hx hy
    refine ih wk _ _ x y hpos ((zBr _ _ _).1 hfu'.2 x (List.mem_of_getElem? hx)) ?_ ⟨z,⟨z1,?_,?_⟩,⟨z2,?_,?_⟩⟩
    ·have:=(zBr _ _ _).1 hfw'.2 y (List.mem_of_getElem? hy)
     rw [← k1] at this;exact this
    ·exact (zBr _ _ _).1 va2.2 z (List.mem_of_getElem? hz)
    ·rw [zM5,Bool.and_eq_true] at va3;exact (zHj _ _).1 va3.2 z (List.mem_of_getElem? hz)
    ·exact (zBr _ _ _).1 va2.2 z (List.mem_of_getElem? hz)
    ·rw [zM5,Bool.and_eq_true] at va3;exact (zHj _ _).1 va3.2 z (List.mem_of_getElem? hz)
   ·have h4w:(w.kind==4)=true:=by rw [← k1];exact h4
    have hn:(u.n==w.n)=true:=by rw [k2];simp
    rw [h4w,hn,if_pos (by rfl)]
    unfold zGi
    have U:=zDy hfu h4
    have W:=zDy hfw h4w
    rw [zVy _ _ 0 hlen fun j x y hx hy=>?_]
    ·rw [if_neg (by simp)]
     exact .inl ⟨_,rfl⟩
    ·obtain ⟨z,hz,z1,z2⟩:=hargs j x y hx hy
     have s1:=zYf (U.args x (List.mem_of_getElem? hx)).1 z1
     have s2:=zYf (W.args y (List.mem_of_getElem? hy)).1 z2
     unfold isF
     rw [← s1.1,← s1.2,s2.1,s2.2]
     simp
end Go.Proofs.YthkjmiejaoomcaaGreat.Am
namespace Go.Proofs.YthkjmiejaoomcaaGreat.Am
open Go Go.RowKit Go.Proofs
set_option linter.unusedVariables false
set_option linter.unusedSimpArgs false
theorem z0p (u:Term):u=⟨u.kind,u.n,u.name,u.args⟩:=by cases u;rfl
def EqVL (F:List Va) (d:Int) (l m:List Term):Prop:=∃ ls:List Term,ls.length=l.length∧l.length=m.length∧∀ (i:Nat) (x y w:Term),l[i]?=some x→m[i]?=some y→ls[i]?=some w→Good F d x w∧Good F d y w
theorem yBp (F:List Va) (d:Int):EqVL F d [] []:=⟨[],rfl,rfl,fun i x y w h=>by simp at h⟩
theorem z6t {F:List Va} {d:Int} {a b:Term} {l m:List Term} (h:EqV F d a b) (hl:EqVL F d l m):EqVL F d (a::l) (b::m):=by
 obtain ⟨v,h1,h2⟩:=h
 obtain ⟨ls,e1,e2,h3⟩:=hl
 refine ⟨v::ls,by simp [e1],by simp [e2],fun i x y w hx hy hw=>?_⟩
 cases i with
 |zero =>
  simp only [List.getElem?_cons_zero,Option.some.injEq] at hx hy hw
  subst hx;subst hy;subst hw
  exact ⟨h1,h2⟩
 |succ i =>
  simp only [List.getElem?_cons_succ] at hx hy hw
  exact h3 i x y w hx hy hw
theorem yBk {F:List Va} {k n:Int} {s:ByteArray} {l m:List Term} {d:Int} (hk:k≠4) (hl:l.length=m.length) (h:zA4 F k n s l d=true):zA4 F k n s m d=true:=by
 unfold zA4 zA1 at h ⊢
 rw [hl] at h
 have:(k==4)=false:=by simpa using hk
 rw [this] at h ⊢
 exact h
theorem yBq {F:List Va} {d:Int} {k n:Int} {s:ByteArray} {l m:List Term} (hk:k≠4) (hf:zA4 F k n s l d=true) (h:EqVL F (inner k d) l m):EqV F d ⟨k,n,s,l⟩ ⟨k,n,s,m⟩:=by
 obtain ⟨ls,e1,e2,h3⟩:=h
 have h8:l.length≤8:=by
  unfold zA4 at hf
  simp only [Bool.and_eq_true,Bool.not_eq_true',decide_eq_false_iff_not] at hf
  have:=hf.2.2.1;omega
 have hk4:(k==4)=false:=by simpa using hk
 have hmem:∀ w ∈ ls,zAw F w (inner k d)=true∧zM5 F w=true:=fun w hw=>by
  obtain ⟨i,hi⟩:=List.getElem?_of_mem hw
  have hil:=(List.getElem?_eq_some_iff.1 hi).1
  exact (h3 i _ _ w (List.getElem?_eq_getElem (by omega)) (List.getElem?_eq_getElem (by omega)) hi).1.2
 have hfv:zAw F ⟨k,n,s,ls⟩ d=true:=by
  rw [zAw,Bool.and_eq_true]
  exact ⟨yBk hk e1.symm hf,(zBr _ _ _).2 fun w hw=>(hmem w hw).1⟩
 have hnv:zM5 F ⟨k,n,s,ls⟩=true:=by
  rw [zM5,hk4,Bool.false_and,Bool.not_false,Bool.true_and]
  exact (zHj _ _).2 fun w hw=>(hmem w hw).2
 refine ⟨⟨k,n,s,ls⟩,⟨?_,hfv,hnv⟩,⟨?_,hfv,hnv⟩⟩
 ·refine Val.mk (t:=⟨k,n,s,l⟩) (u:=⟨k,n,s,l⟩) .zero ⟨fun h=>?_,h8⟩ e1 fun i a w ha hw=>?_
  ·have:(k==4)=true:=h
   rw [hk4] at this;cases this
  ·have hil:i<l.length:=(List.getElem?_eq_some_iff.1 ha).1
   exact (h3 i a _ w ha (List.getElem?_eq_getElem (by omega)) hw).1.1
 ·refine Val.mk (t:=⟨k,n,s,m⟩) (u:=⟨k,n,s,m⟩) .zero ⟨fun h=>?_,by show m.length≤8;omega⟩ (by show ls.length=m.length;omega) fun i a w ha hw=>?_
  ·have:(k==4)=true:=h
   rw [hk4] at this;cases this
  ·have hil:i<m.length:=(List.getElem?_eq_some_iff.1 ha).1
   exact (h3 i _ a w (List.getElem?_eq_getElem (by omega)) ha hw).2.1
theorem zQb {k n:Int} {s:ByteArray} {us:List Term} {d:Int} (h:(k==2&&decide (n≥d))=false):zCc k n s us d=(k,n,s):=by unfold zCc;rw [if_neg (by simp [h])]
theorem zYw {us:List Term} {d D:Int} {a:Term} (h:zEv D a) (h3:a.kind=3):zBi a us d=a:=by
 rw [zR9 h,zBi,zQb (by rw [h3];rfl),zBc]
theorem zTy {us:List Term} {d:Int} {i:Nat} (hi:i<us.length) (hd:0≤d):zBi (sBnd ((us.length:Int) - 1 - i+d)) us d=⟨(us.getD i zA7).kind,if (us.getD i zA7).kind==2 then (us.getD i zA7).n+d else (us.getD i zA7).n,(us.getD i zA7).name,[]⟩:=by
 have e:zCc 2 ((us.length:Int) - 1 - i+d) zAr us d=((us.getD i zA7).kind,(if (us.getD i zA7).kind==2 then (us.getD i zA7).n+d else (us.getD i zA7).n),(us.getD i zA7).name):=by
  unfold zCc
  rw [decide_eq_true (show (us.length:Int) - 1 - i+d≥d by omega),show ((us.length:Int) - 1 - ((us.length:Int) - 1 - i+d - d))=(i:Int) by omega,Int.toNat_natCast]
  rfl
 rw [zBi,e,zBc]
theorem zJn {lv d D:Int} {us:List Term} {y z:Term} (hd:0≤d) (hus:∀ u ∈ us,zEv D u) (hy:zEv (D+d) y) (h:zLp lv us d y z):zBi z us d=y:=by
 have hye:=zR9 hy
 cases h with
 |low h2 hl =>
  rw [hye,zBi,zQb (by rw [h2,decide_eq_false (by omega)];rfl),zBc]
 |par h3 hl=>exact zYw hy h3
 |seat i hi hk hn h2 h3 =>
  rw [zTy hi hd,hye]
  have hu:=zR9 (hus _ (zDg hi))
  have hname:(us.getD i zA7).name=zAr:=by rw [hu]
  rw [hname,hk,hn]
  congr 1
  by_cases e:y.kind=2
  ·rw [e];simp
  ·have:(y.kind==2)=false:=by simpa using e
   rw [this,if_neg e];simp
theorem zWm {lv d D:Int} {us:List Term} (hd:0≤d) (hus:∀ u ∈ us,zEv D u):∀ (l:List Term) (i:Nat),(∀ y ∈ l,zEv (D+d) y)→zBc (zF7 lv us d l i).2 us d=(zF7 lv us d l i).1.map fun k=>l.getD (k - i) zA7
 |[],i,_=>rfl
 |y::l,i,h=>by
  have ht:=fun w hw=>h w (List.mem_cons_of_mem _ hw)
  have ih:=zWm hd hus l (i+1) ht (lv:=lv)
  have K:=zTu (lv:=lv) (us:=us) (d:=d) l (i+1) fun w hw=>(zA2 (ht w hw).1).1
  have e:((zF7 lv us d l (i+1)).1.map fun k=>(y::l).getD (k - i) zA7)=(zF7 lv us d l (i+1)).1.map fun k=>l.getD (k - (i+1)) zA7:=by
   refine List.map_congr_left fun k hk=>?_
   have:=K.ix k hk
   rw [show k - i=k - (i+1)+1 by omega,List.getD_cons_succ]
  rw [zF7]
  split
  ·rename_i hp
   rw [zBc,List.map_cons,e,ih,zJn hd hus (h y List.mem_cons_self) (zHi (zA2 (h y List.mem_cons_self).1).1 hp)]
   simp
  ·rw [ih];exact e.symm
theorem z6g {lv d D:Int} {us:List Term} (hd:0≤d) (hus:∀ u ∈ us,zEv D u):∀ (l:List Term) (i:Nat),(∀ y ∈ l,zEv (D+d) y)→(zF7 lv us d l i).1.length=l.length→zBc (zF7 lv us d l i).2 us d=l
 |[],i,_,_=>rfl
 |y::l,i,h,hl=>by
  have ht:=fun w hw=>h w (List.mem_cons_of_mem _ hw)
  rw [zF7] at hl ⊢
  split at hl
  ·rename_i hp
   rw [if_pos hp]
   rw [List.length_cons,List.length_cons] at hl
   rw [zBc,z6g hd hus l (i+1) ht (by omega),zJn hd hus (h y List.mem_cons_self) (zHi (zA2 (h y List.mem_cons_self).1).1 hp)]
  ·have:=yBg (lv:=lv) (us:=us) (d:=d) l (i+1)
   rw [List.length_cons] at hl
   omega
theorem zIz (n:Int) (l us:List Term) (d:Int):zBi (sVar n l) us d=sVar n (zBc l us d):=by
 rw [zBi,zQb rfl];rfl
theorem zW0 (us:List Term) (d:Int) (l m:List Term):zBc (l++m) us d=zBc l us d++zBc m us d:=by
 rw [zDt,zDt,zDt,List.map_append]
theorem zNj {us:List Term} {D:Int} (hus:∀ u ∈ us,zEv D u) {keep:List Nat} (hk:∀ k ∈ keep,k<us.length):zBc (zCn us.length keep) us 0=keep.map fun k=>us.getD k zA7:=by
 rw [zDt]
 unfold zCn
 rw [List.map_map]
 refine List.map_congr_left fun k hkk=>?_
 have hi:=hk k hkk
 have h:=zTy (us:=us) (d:=0) hi (Int.le_refl _)
 rw [Int.add_zero] at h
 show zBi (sBnd ((us.length:Int) - 1 - k)) us 0=_
 rw [h]
 have hu:=zR9 (hus _ (zDg hi))
 generalize us.getD k zA7=u at *
 rw [hu]
 simp
theorem zIr {ms:List Va} {n:Int} {w:Va} (h0:0≤n) (h1:n<(ms.length:Int)):zAi (ms.set n.toNat w) n=w:=by
 unfold zAi
 rw [zJl,if_pos ⟨rfl,by omega⟩]
theorem zZb {F:List Va} {t b:Term} {w:Va} (h:zAi F t.n=zLk w b) (ha:zBj w.type=t.args.length):zCp F t=b:=by
 unfold zCp
 rw [h]
 show (zDe t.args.length (zEs (zBj w.type) b)).1=b
 rw [ha,zXg]
theorem zQ0 {F:List Va} (hc:zBd F=0) {d:Int} (hd:0≤d) {t x T:Term} {w:Va} {b:Term} (hf:zAw F t d=true) (h4:(t.kind==4)=true) (h:zAi F t.n=zLk w b) (ha:zBj w.type=t.args.length) (hT:zBi b t.args 0=T) (hx:EqV F d x T):EqV F d x t:=by
 obtain ⟨v,h1,h2⟩:=hx
 refine ⟨v,h1,good_step hc hd hf h4 (by rw [h];rfl) ?_⟩
 rw [zZb h ha,hT]
 exact h2
theorem zZ5 {F:List Va} {t:Term} {d:Int} (hf:zAw F t d=true) (h4:(t.kind==4)=true):t=sVar t.n t.args:=by
 have k4:t.kind=4:=by simpa using h4
 have hn:=z6o hf (by omega)
 obtain ⟨k,n,s,l⟩:=t
 simp only at k4 hn
 rw [k4,hn]
theorem yCo {F:List Va} (hc:zBd F=0) {s s':Sv} (I:Inv s.ms) {v t out:Term} {D d:Int} (hD:0≤D) (hd:0≤d) (V:zGe s.ms v D) (vu:(zAi s.ms v.n).is=false) (hft:zAw s.ms t (D+d)=true) (h4:(t.kind==4)=true) (tu:(zAi s.ms t.n).is=false) (h:zMa s v t d=.ok (s',out)) (E:ExtS s'.ms F) :
  EqV F (D+d) (zBi out v.args d) t:=by
 have T:=zDy hft h4
 obtain ⟨TO,_⟩:=yEy I hd V vu T tu h
 have EF:=TO.ext.trans E
 have hV0:=V.n0
 have hV1:=V.n1
 have hp:zXu F (zAi s.ms v.n).level D v.args:=⟨hD,V.args,V.high,V.pair⟩
 have hff:=zEb hp out d hd (zBw E _ _ TO.fits) (zLt E _ _ TO.fits TO.sees)
 unfold zMa at h
 split at h
 ·cases h
 dsimp only at h
 have K:=zTu (lv:=(zAi s.ms v.n).level) (us:=v.args) (d:=d) t.args 0 fun y hy=>(zA2 (T.args y hy).1).1
 have KF:=zWm (lv:=(zAi s.ms v.n).level) hd V.args t.args 0 T.args
 have KU:=z6g (lv:=(zAi s.ms v.n).level) hd V.args t.args 0 T.args
 have X:=z2i (olv:=(zAi s.ms v.n).level) (wlv:=(zAi s.ms t.n).level) v.args 0
 generalize zF7 (zAi s.ms v.n).level v.args d t.args 0=kp at *
 generalize zI0 (zAi s.ms v.n).level (zAi s.ms t.n).level v.args 0=ex at *
 have harw:(nmsF (zAi s.ms t.n)).length=t.args.length:=by rw [zJg];exact T.ar
 split at h
 ·rename_i hcd
  injection h with h;injection h with e1 e2
  subst e1;subst e2
  simp only [Bool.and_eq_true,beq_iff_eq,decide_eq_true_eq] at hcd
  have hx0:ex=[]:=by
   cases ex with
   |nil=>rfl
   |cons p ps=>have:=X.at_ p List.mem_cons_self;omega
  subst hx0
  rw [List.map_nil,List.append_nil,zIz,KU (by omega),← zZ5 hft h4]
  exact zQz hc (by omega) (zBw EF _ _ hft)
 ·split at h
  ·cases h
  obtain ⟨⟨s1,m⟩,hfr,h⟩:=bind_ok h
  obtain ⟨hlt,e1,e2⟩:=zIc hfr
  subst e1;subst e2
  simp only at h
  injection h with h;injection h with e1 e2
  subst e1;subst e2
  have hex:zBc (ex.map fun p=>sBnd ((v.args.length:Int) - 1 - p.1+d)) v.args d=ex.map (·.2):=by
   rw [zDt,List.map_map]
   refine List.map_congr_left fun p hp=>?_
   obtain ⟨_,h2,h3,h5,_⟩:=X.at_ p hp
   rw [Nat.zero_add] at h2
   rw [Nat.sub_zero] at h3
   show zBi (sBnd ((v.args.length:Int) - 1 - p.1+d)) v.args d=p.2
   rw [zTy h2 hd,h3,h5]
   have hm:p.2 ∈ v.args:=by rw [← h3];exact zDg h2
   have:=zR9 (V.args _ hm)
   rw [this,h5]
   rfl
  have hL:zBc (kp.2++ex.map fun p=>sBnd ((v.args.length:Int) - 1 - p.1+d)) v.args d=(kp.1.map fun k=>t.args.getD k zA7)++ex.map (·.2):=by
   rw [zW0,hex,KF]
   simp only [Nat.sub_zero]
  rw [zIz,hL] at hff ⊢
  have hxt:zBc (ex.map (·.2)) t.args 0=ex.map (·.2):=by
   rw [zDt,List.map_map]
   refine List.map_congr_left fun p hp=>?_
   obtain ⟨_,h2,h3,h5,_⟩:=X.at_ p hp
   rw [Nat.zero_add] at h2
   rw [Nat.sub_zero] at h3
   have hm:p.2 ∈ v.args:=by rw [← h3];exact zDg h2
   exact zYw (V.args _ hm) h5
  have h0:=T.n0
  have h1:=T.n1
  have hval:zAi F t.n=zLk (zAi s.ms t.n) (sVar (s.ms.length:Int) (zCn (nmsF (zAi s.ms t.n)).length kp.1++ex.map (·.2))):=by
   rw [E.kept t.n h0 (by simp only [zIm,List.length_set,List.length_append,List.length_singleton];omega)]
   ·simp only [zIm]
    rw [zIr h0 (by simp;omega),zKy h0 h1]
   ·simp only [zIm]
    rw [zIr h0 (by simp;omega)];rfl
  refine zQ0 hc (by omega) (zBw EF _ _ hft) h4 hval T.ar ?_ (zQz hc (by omega) hff)
  rw [zIz,zW0,hxt,harw,zNj T.args fun k hk=>by have:=K.ix k hk;omega]
theorem yCk {F:List Va} (hc:zBd F=0) {v:Term} {D:Int} (hD:0≤D):∀ (f:Nat) (s:Sv) (t:Term) (d deep:Int) (s':Sv) (out:Term),Inv s.ms→0≤d→zGe s.ms v D→(zAi s.ms v.n).is=false→zAw s.ms t (D+d)=true→zKw f s v t d deep=.ok (s',out)→ExtS s'.ms F →
  EqV F (D+d) (zBi out v.args d) t:=by
 intro f
 induction f with
 |zero=>intro s t d deep s' out _ _ _ _ _ h;rw [zKw] at h;cases h
 |succ f ih =>
  intro s t d deep s' out I hd V vu hf h E
  have TO:=(zHo hD (f+1) s t d deep s' out I hd V vu hf h).1
  have EF:=TO.ext.trans E
  rw [zKw] at h
  obtain ⟨s1,hcn,h⟩:=bind_ok h
  obtain ⟨e1,hw,_⟩:=zKi hcn
  subst e1
  dsimp only at h
  refine yG1 hc I EF (by omega) hf ?_
  obtain ⟨hfu,hflex,_,_⟩:=zCy I (by omega:0≤D+d) hf
  generalize zDx s.ms t=u at *
  generalize hoe:(if zDf u.kind=true then zDo (zAi s.ms v.n).level v.args ⟨u.kind,u.n,zAr,[]⟩ d else (⟨u.kind,u.n,u.name,[]⟩,true))=o at h
  split at h
  ·rename_i h4
   exact yCo (s:=⟨s.ms,s.wk+1⟩) hc I hD hd V vu hfu h4 (hflex h4) h E
  ·rename_i h4
   have n4:u.kind≠4:=by simpa using h4
   split at h
   case isFalse=>cases h
   rename_i ho
   obtain ⟨⟨s2,outs⟩,hm,h⟩:=bind_ok h
   injection h with h;injection h with e1 e2
   have hfu':=zBw EF _ _ hfu
   have hfu2:=hfu
   rw [zCh,Bool.and_eq_true] at hfu' hfu2
   have hin:inner u.kind (D+d)=D+inner u.kind d:=by unfold inner;split <;> omega
   have hin0:0≤inner u.kind d:=zEw hd
   rw [hin] at hfu2
   simp only at e1
   subst e1
   have hmap:∀ (l:List Term) (s s':Sv) (outs:List Term),Inv s.ms→s.wk≤40000→zGe s.ms v D→(zAi s.ms v.n).is=false→(∀ t ∈ l,zAw s.ms t (D+inner u.kind d)=true)→mapS (fun s a=>zKw f s v a (inner u.kind d) (deep+1)) s l=.ok (s',outs)→ExtS s'.ms F→EqVL F (D+inner u.kind d) (zBc outs v.args (inner u.kind d)) l:=by
    intro l
    induction l with
    |nil =>
     intro s s' outs I hw V vu hf h E
     rw [mapS] at h
     injection h with h;injection h with e1 e2
     subst e2
     rw [zBc]
     exact yBp _ _
    |cons t l ihl =>
     intro s s' outs I hw V vu hf h E
     rw [mapS] at h
     obtain ⟨⟨s1,x⟩,h1,h⟩:=bind_ok h
     obtain ⟨⟨s2,xs⟩,h2,h⟩:=bind_ok h
     injection h with h;injection h with e1 e2
     subst e1;subst e2
     obtain ⟨TO,hw1,_⟩:=zHo hD f s t _ _ s1 x I hin0 V vu (hf t List.mem_cons_self) h1
     have M:=map_ok (D:=D) (d:=inner u.kind d) (fun s t s' out I hw V vu hf h=>⟨(zHo hD f s t _ _ s' out I hin0 V vu hf h).1,(zHo hD f s t _ _ s' out I hin0 V vu hf h).2.1⟩) l s1 s2 xs TO.inv hw1 (V.ext TO.ext) TO.free (fun w hw=>zBw TO.ext _ _ (hf w (List.mem_cons_of_mem _ hw))) h2
     rw [zBc]
     exact z6t (ih s t _ _ s1 x I hin0 V vu (hf t List.mem_cons_self) h1 (M.ext.trans E)) (ihl s1 s2 xs TO.inv hw1 (V.ext TO.ext) TO.free (fun w hw=>zBw TO.ext _ _ (hf w (List.mem_cons_of_mem _ hw))) h2 E)
   have hL:=hmap u.args ⟨s.ms,s.wk+1⟩ s2 outs I hw V vu ((zBr _ _ _).1 hfu2.2) hm E
   have hlen:(zBc outs v.args (inner u.kind d)).length=u.args.length:=by
    obtain ⟨_,_,e,_⟩:=hL;exact e
   have hhead:∃ k n nm,out=⟨k,n,nm,outs⟩∧inner k d=inner u.kind d∧zCc k n nm v.args d=(u.kind,u.n,u.name):=by
    cases hvp:zDf u.kind
    ·rw [hvp] at hoe
     simp only [Bool.false_eq_true,if_false] at hoe
     subst hoe
     simp only at e2
     unfold zDf at hvp
     rw [Bool.or_eq_false_iff] at hvp
     exact ⟨u.kind,u.n,u.name,e2.symm,rfl,zQb (by rw [hvp.1];rfl)⟩
    ·rw [hvp] at hoe
     simp only [if_true] at hoe
     subst hoe
     have hk:u.kind=2∨u.kind=3:=by
      unfold zDf at hvp
      simpa using hvp
     have hA:zEv (D+d) ⟨u.kind,u.n,zAr,[]⟩:=by
      refine ⟨?_,rfl,fun e=>(show 0≤u.n∧u.n<D+d from zE6 hfu e),fun e=>?_⟩
      ·unfold zBm;rcases hk with e|e <;> · rw [e];rfl
      ·have h1:=hfu'.1
       have e':u.kind=3:=e
       unfold zA4 zA1 at h1
       rw [e'] at h1
       simp at h1
       show 0≤u.n∧u.n<60
       omega
     have P:=zHi (y:=⟨u.kind,u.n,zAr,[]⟩) hk ho
     have hz1:=(P.ok (D:=D) hd hA).1
     have hfl:=zJn hd V.args hA P
     generalize (zDo (zAi s.ms v.n).level v.args ⟨u.kind,u.n,zAr,[]⟩ d).1=z at *
     have kz:=(zA2 hz1.1).1
     refine ⟨z.kind,z.n,z.name,e2.symm,?_,?_⟩
     ·unfold inner
      rw [if_neg (by simp;omega),if_neg (by simp;omega)]
     ·have hn:=z6o hfu (by omega)
      rw [zL0] at hfl
      injection hfl with f1 f2 f3 _
      rw [hn]
      exact Prod.ext f1 (Prod.ext f2 f3)
   obtain ⟨k,n,nm,rfl,hin1,hput⟩:=hhead
   rw [zBi,hput,hin1]
   have key:EqV F (D+d) ⟨u.kind,u.n,u.name,zBc outs v.args (inner u.kind d)⟩ ⟨u.kind,u.n,u.name,u.args⟩:=yBq n4 (yBk n4 hlen.symm hfu'.1) (by rw [hin];exact hL)
   rw [← z0p u] at key
   exact key
theorem yAy:∀ (l m:List Term) (i:Nat),∀ k ∈ zDj l m i,isF (l.getD (k - i) zA7) (m.getD (k - i) zA7)=true∧k<i+m.length
 |[],m,i,k,hk=>by unfold zDj at hk;exact absurd hk List.not_mem_nil
 |a::l,[],i,k,hk=>by unfold zDj at hk;exact absurd hk List.not_mem_nil
 |a::l,b::m,i,k,hk=>by
  have tail:∀ k ∈ zDj l m (i+1),isF ((a::l).getD (k - i) zA7) ((b::m).getD (k - i) zA7)=true∧k<i+(b::m).length:=fun k hk=>by
   obtain ⟨h1,h2⟩:=yAy l m (i+1) k hk
   have:=((zTk l m (i+1)).1 k hk).1
   rw [show k - i=k - (i+1)+1 by omega,List.getD_cons_succ,List.getD_cons_succ]
   exact ⟨h1,by rw [List.length_cons];omega⟩
  rw [zDj] at hk
  split at hk
  ·rename_i h0
   rcases List.mem_cons.1 hk with rfl|hk
   ·rw [Nat.sub_self]
    exact ⟨h0,by rw [List.length_cons];omega⟩
   ·exact tail k hk
  ·exact tail k hk
theorem yAz {d:Int}:∀ (l m:List Term) (i:Nat),l.length=m.length→(∀ u ∈ l,zEv d u)→(∀ u ∈ m,zEv d u)→l.length≤(zDj l m i).length→l=m
 |[],[],i,_,_,_,_=>rfl
 |a::l,b::m,i,hl,h1,h2,h=>by
  rw [zDj] at h
  have hle:=(zTk l m (i+1)).2.2
  split at h
  ·rename_i h0
   rw [List.length_cons,List.length_cons] at h
   rw [yAz l m (i+1) (by simpa using hl) (fun u hu=>h1 u (List.mem_cons_of_mem _ hu)) (fun u hu=>h2 u (List.mem_cons_of_mem _ hu)) (by omega)]
   have e:=zU9 h0
   rw [zR9 (h1 a List.mem_cons_self),zR9 (h2 b List.mem_cons_self),e.1,e.2]
  ·rw [List.length_cons] at h;omega
theorem yAd {F:List Va} (hc:zBd F=0) {s s':Sv} (I:Inv s.ms) {a b:Term} {D:Int} (hD:0≤D) (ha:zAw s.ms a D=true) (hb:zAw s.ms b D=true) (a4:(a.kind==4)=true) (b4:(b.kind==4)=true) (hn:a.n=b.n) (hu:(zAi s.ms a.n).is=false) (h:zGi s a b=.ok s') (E:ExtS s'.ms F):EqV F D a b:=by
 have A:=zDy ha a4
 have B:=zDy hb b4
 have S:=yCc I A hu h
 have EF:=S.ext.trans E
 have hlen:a.args.length=b.args.length:=by rw [← A.ar,← B.ar,hn]
 unfold zGi at h
 split at h
 ·obtain ⟨h1,_,_⟩:=zTk a.args b.args 0
  have hs:=yAy a.args b.args 0
  have hfa:=zBw EF _ _ ha
  have hfb:=zBw EF _ _ hb
  generalize zDj a.args b.args 0=keep at *
  unfold zGa at h
  dsimp only at h
  obtain ⟨⟨s1,m⟩,hfr,h⟩:=bind_ok h
  obtain ⟨hlt,e1,e2⟩:=zIc hfr
  subst e1;subst e2
  simp only at h
  injection h with h
  subst h
  have h0:=A.n0
  have hl1:=A.n1
  have harw:(nmsF (zAi s.ms a.n)).length=a.args.length:=by rw [zJg];exact A.ar
  have hval:zAi F a.n=zLk (zAi s.ms a.n) (sVar (s.ms.length:Int) (zCn (nmsF (zAi s.ms a.n)).length keep)):=by
   rw [E.kept a.n h0 (by simp only [zIm,List.length_set,List.length_append,List.length_singleton];omega)]
   ·simp only [zIm]
    rw [zIr h0 (by simp;omega),zKy h0 hl1]
   ·simp only [zIm]
    rw [zIr h0 (by simp;omega)];rfl
  have hi:(zAi F a.n).is=true:=by rw [hval];rfl
  have hfa2:=zEb (step_ok hc hD hfa a4 hi).2.1 (zCp F a) 0 (Int.le_refl _) (by rw [Int.add_zero];exact (step_ok hc hD hfa a4 hi).2.2.1) (step_ok hc hD hfa a4 hi).2.2.2
  rw [Int.add_zero,zZb hval A.ar] at hfa2
  have ta:zBi (sVar (s.ms.length:Int) (zCn (nmsF (zAi s.ms a.n)).length keep)) a.args 0=sVar (s.ms.length:Int) (keep.map fun k=>a.args.getD k zA7):=by
   rw [zIz,harw,zNj A.args fun k hk=>by have:=h1 k hk;omega]
  have tb:zBi (sVar (s.ms.length:Int) (zCn (nmsF (zAi s.ms a.n)).length keep)) b.args 0=sVar (s.ms.length:Int) (keep.map fun k=>a.args.getD k zA7):=by
   rw [zIz,harw,hlen,zNj B.args fun k hk=>by have:=(hs k hk).2;omega]
   congr 1
   refine List.map_congr_left fun k hk=>?_
   obtain ⟨h5,h6⟩:=hs k hk
   rw [Nat.sub_zero] at h5
   have e:=zU9 h5
   rw [zR9 (A.args _ (zDg (show k<a.args.length by omega))),zR9 (B.args _ (zDg (show k<b.args.length by omega))),e.1,e.2]
  rw [ta] at hfa2
  have x1:=zQ0 hc hD hfa a4 hval A.ar ta (zQz hc hD hfa2)
  rw [hn] at hval
  exact zQ0 hc hD hfb b4 (w:=zAi s.ms b.n) hval B.ar (by rw [← hn];exact tb) x1.symm
 ·rename_i hk
  injection h with h
  subst h
  simp only [decide_eq_true_eq] at hk
  have e:=yAz a.args b.args 0 hlen A.args B.args (by omega)
  have:a=b:=by rw [zZ5 ha a4,zZ5 hb b4,e,hn]
  rw [← this]
  exact zQz hc hD (zBw E _ _ ha)
theorem zUq {F:List Va} (hc:zBd F=0) {s s':Sv} (I:Inv s.ms) {v t:Term} {D:Int} (hD:0≤D) (hw0:0≤s.wk) (hfv:zAw s.ms v D=true) (v4:(v.kind==4)=true) (vu:(zAi s.ms v.n).is=false) (hf:zAw s.ms t D=true) (hflex:((t.kind==4)=true→(zAi s.ms t.n).is=false)) (h:zE3 s v t=.ok s') (E:ExtS s'.ms F):EqV F D v t:=by
 have V:=zDy hfv v4
 have S:=zXi I hD hw0 V vu hf hflex h
 have EF:=S.ext.trans E
 have E2:=S.ext
 unfold zE3 at h
 split at h
 ·cases h
 obtain ⟨⟨s1,b⟩,ht,h⟩:=bind_ok h
 injection h with h
 subst h
 have TO:=(zHo hD 402 s t 0 0 s1 b I (Int.le_refl _) V vu (by rw [Int.add_zero];exact hf) ht).1
 have h0:=V.n0
 have h1:=V.n1
 have hl:=TO.ext.len
 have hty:=TO.ext.typ _ h0 h1
 have Eb:ExtS s1.ms (zIm s1 v.n b).ms:=by
  simp only [zIm]
  exact yGw h0 (by omega) TO.free rfl rfl
 have x:=yCk hc hD 402 s t 0 0 s1 b I (Int.le_refl _) V vu (by rw [Int.add_zero];exact hf) ht (Eb.trans E)
 rw [Int.add_zero] at x
 have hval:zAi F v.n=zLk (zAi s1.ms v.n) b:=by
  rw [E.kept v.n h0 (by simp only [zIm,List.length_set];omega)]
  ·simp only [zIm]
   rw [zIr h0 (by omega)]
  ·simp only [zIm]
   rw [zIr h0 (by omega)];rfl
 exact (zQ0 hc hD (zBw EF _ _ hfv) v4 hval (by rw [hty];exact V.ar) rfl x.symm).symm
theorem z8k {F:List Va} (hc:zBd F=0):∀ (f:Nat) (s:Sv) (a b:Term) (d deep:Int) (s':Sv),Inv s.ms→0≤s.wk→0≤d→zAw s.ms a d=true→zAw s.ms b d=true→zDi f s a b deep=.ok s'→ExtS s'.ms F→EqV F d a b:=by
 intro f
 induction f with
 |zero=>intro s a b d deep s' _ _ _ _ _ h;rw [zDi] at h;cases h
 |succ f ih =>
  intro s a b d deep s' I hw0 hd ha hb h E
  have EF:=(zLs (f+1) s a b d deep s' I hw0 hd ha hb h).1.ext.trans E
  rw [zDi] at h
  obtain ⟨s1,hcn,h⟩:=bind_ok h
  obtain ⟨e1,hw,_⟩:=zKi hcn
  subst e1
  dsimp only at h
  refine yG0 hc I EF hd ha hb ?_
  obtain ⟨hfa,fla,_,_⟩:=zCy I hd ha
  obtain ⟨hfb,flb,_,_⟩:=zCy I hd hb
  generalize zDx s.ms a=u at *
  generalize zDx s.ms b=w at *
  split at h
  ·rename_i hk
   simp only [Bool.and_eq_true] at hk
   exact yAd (s:=⟨s.ms,s.wk+1⟩) hc I hd hfa hfb hk.1 hk.2.1 (by simpa using hk.2.2) (fla hk.1) h E
  ·split at h
   ·rename_i h4
    exact zUq (s:=⟨s.ms,s.wk+1⟩) hc I hd (by show 0≤s.wk+1;omega) hfa h4 (fla h4) hfb flb h E
   ·split at h
    ·rename_i h4
     exact (zUq (s:=⟨s.ms,s.wk+1⟩) hc I hd (by show 0≤s.wk+1;omega) hfb h4 (flb h4) hfa fla h E).symm
    ·split at h
     ·cases h
     rename_i hn4 _ hul
     have n4:u.kind≠4:=by simpa using hn4
     have hul:zGf u w=false:=by simpa using hul
     unfold zGf at hul
     simp only [Bool.or_eq_false_iff,Bool.not_eq_false'] at hul
     obtain ⟨q1,q2,q3,q4⟩:=hul
     have q1:u.kind=w.kind:=by simpa using q1
     have q2:u.n=w.n:=by simpa using q2
     have q3:u.name=w.name:=z10 (by simpa using q3)
     have q4:u.args.length=w.args.length:=by simp at q4;omega
     have hfa':=zBw EF _ _ hfa
     have hfa2:=hfa
     have hfb2:=hfb
     rw [zCh,Bool.and_eq_true] at hfa' hfa2 hfb2
     have hpos:=zEw (k:=u.kind) hd
     rw [← q1] at hfb2
     have heach:∀ (l m:List Term) (s s':Sv),l.length=m.length→Inv s.ms→0≤s.wk→(∀ t ∈ l,zAw s.ms t (inner u.kind d)=true)→(∀ t ∈ m,zAw s.ms t (inner u.kind d)=true)→zI2 (fun s a b=>zDi f s a b (deep+1)) s l m=.ok s'→ExtS s'.ms F→EqVL F (inner u.kind d) l m:=by
      intro l
      induction l with
      |nil =>
       intro m s s' hlm I hw hl hm h E
       cases m with
       |nil=>exact yBp _ _
       |cons b m=>cases hlm
      |cons a l ihl =>
       intro m s s' hlm I hw hl hm h E
       cases m with
       |nil=>cases hlm
       |cons b m =>
        rw [zI2] at h
        obtain ⟨s1,h1,h⟩:=bind_ok h
        obtain ⟨S,hw1⟩:=zLs f s a b _ _ s1 I hw hpos (hl a List.mem_cons_self) (hm b List.mem_cons_self) h1
        have hl1:=fun t ht=>zBw S.ext t _ (hl t (List.mem_cons_of_mem _ ht))
        have hm1:=fun t ht=>zBw S.ext t _ (hm t (List.mem_cons_of_mem _ ht))
        have S2:=(z9x (fun s a b s' I hw ha hb h=>zLs f s a b _ _ s' I hw hpos ha hb h) l m s1 s' S.inv hw1 hl1 hm1 h).1
        exact z6t (ih s a b _ _ s1 I hw hpos (hl a List.mem_cons_self) (hm b List.mem_cons_self) h1 (S2.ext.trans E)) (ihl m s1 s' (by simpa using hlm) S.inv hw1 hl1 hm1 h E)
     have hL:=heach u.args w.args ⟨s.ms,s.wk+1⟩ s' q4 I (by show 0≤s.wk+1;omega) ((zBr _ _ _).1 hfa2.2) ((zBr _ _ _).1 hfb2.2) h E
     have hw:w=⟨u.kind,u.n,u.name,w.args⟩:=by rw [q1,q2,q3];exact z0p w
     have key:EqV F d ⟨u.kind,u.n,u.name,u.args⟩ ⟨u.kind,u.n,u.name,w.args⟩:=yBq n4 hfa'.1 hL
     rw [← z0p u,← hw] at key
     exact key
end Go.Proofs.YthkjmiejaoomcaaGreat.Am
