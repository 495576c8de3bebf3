/- Part of the proof of a law of layer 5: own texts, joined. -/
import Derived.Test.YthkjmiejaoomcaaGreatVo
import Derived.Test.YthkjmiejaoomcaaGreatVp
import Derived.Test.YthkjmiejaoomcaaGreatVi
import Derived.Laws.Strings
set_option linter.unusedVariables false
set_option linter.unusedSimpArgs false
set_option linter.unnecessarySimpa false
namespace Go.Proofs.YthkjmiejaoomcaaGreat.Am
open Go Go.RowKit Go.Proofs
set_option maxRecDepth 100000
set_option maxHeartbeats 1000000
inductive Rz (α:Type) where
 |ok (a:α)
 |clash
 |large (e:Int)
def Rz.bind {α β:Type} (r:Rz α) (f:α→Rz β):Rz β:=match r with
 |.ok a=>f a
 |.clash=>.clash
 |.large e=>.large e
structure Sv where
 ms:List Va
 wk:Int
abbrev sBnd (n:Int):Term:=⟨2,n,aB,[]⟩
abbrev sVar (n:Int) (l:List Term):Term:=⟨4,n,aB,l⟩
def nmsF (v:Va):List ByteArray:=(fU v.type).getD []
theorem kU (v:Va):(nmsF v).length=aX v.type:=rfl
inductive rU (ms:List Va):Nat→Term→Term→Prop
 |done {t:Term} (h:(t.kind==4&&(ak ms t.n).is)=false):rU ms 0 t t
 |step {t u:Term} {k:Nat} (h4:(t.kind==4)=true) (hi:(ak ms t.n).is=true) (hs:rU ms k (aH (dJ ms t) t.args 0) u):rU ms (k+1) t u
theorem rU.det {ms:List Va} {t u:Term} {k:Nat} (h:rU ms k t u):∀ {w:Term} {j:Nat},rU ms j t w→u=w:=by
 induction h with
 |done h =>
  intro w j k
  cases k with
  |done _=>rfl
  |step h4 hi _=>rw [h4,hi] at h;cases h
 |step h4 hi _ ih =>
  intro w j k
  cases k with
  |done h=>rw [h4,hi] at h;cases h
  |step _ _ hs=>exact ih hs
noncomputable def gK (ms:List Va) (t:Term):Term:=@dite _ (∃ u k,rU ms k t u) (Classical.propDecidable _) (fun h=>Classical.choose h) (fun _=>t)
theorem head_eq {ms:List Va} {t u:Term} {k:Nat} (h:rU ms k t u):gK ms t=u:=by
 have hx:∃ u k,rU ms k t u:=⟨u,k,h⟩
 unfold gK
 rw [dif_pos hx]
 obtain ⟨j,hj⟩:=Classical.choose_spec hx
 exact hj.det h
def kG (s:Sv) (deep:Int):Rz Sv:=if decide (s.wk+1>40000) then .large 2 else if decide (deep>400) then .large 5 else .ok ⟨s.ms,s.wk+1⟩
def jq (s:Sv) (lv:Int) (ty:Ty):Rz (Sv × Int):=if decide ((s.ms.length:Int)≥2000) then .large 2 else .ok (⟨s.ms++[lK lv ty],s.wk⟩,s.ms.length)
def fE:Nat→Term→Term
 |0,t=>t
 |n+1,t=>fE n ⟨5,0,aB,[t]⟩
def l6 (v:Va) (b:Term):Va:=⟨v.level,v.type,true,fE (aX v.type) b⟩
def kr (s:Sv) (n:Int) (b:Term):Sv:=⟨s.ms.set n.toNat (l6 (ak s.ms n) b),s.wk⟩
def bK:List ByteArray→Ty→Ty
 |[],to=>to
 |a::l,to=>⟨⟨#[45,62]⟩,[⟨a,[]⟩,bK l to]⟩
def kF:List Term→Term→Nat→Option Nat
 |[],_,_=>none
 |a::l,y,i=>if isF a y then some i else kF l y (i+1)
def jD (us:List Term) (y:Term) (d:Int):Term × Bool:=match kF us y 0 with
 |some i=>(sBnd ((us.length:Int) - 1 - i+d),true)
 |none=>(y,false)
def bX (lv:Int) (us:List Term) (y:Term) (d:Int):Term × Bool :=
 if y.kind==2 then (if decide (y.n<d) then (y,true) else jD us ⟨y.kind,y.n - d,y.name,y.args⟩ d)
 else if y.kind==3&&decide (y.n<lv) then (y,true) else jD us y d
def iX (lv:Int) (us:List Term) (d:Int):List Term→Nat→List Nat × List Term
 |[],_=>([],[])
 |y::l,i=>if (bX lv us y d).2 then (i::(iX lv us d l (i+1)).1,(bX lv us y d).1::(iX lv us d l (i+1)).2) else iX lv us d l (i+1)
def ru (olv wlv:Int) (a:Term):Bool:=a.kind==3&&(decide (a.n<wlv)&&decide (a.n≥olv))
def j6 (olv wlv:Int):List Term→Nat→List (Nat × Term)
 |[],_=>[]
 |a::l,i=>if ru olv wlv a then (i,a)::j6 olv wlv l (i+1) else j6 olv wlv l (i+1)
def bR (n:Nat) (keep:List Nat):List Term:=keep.map fun (k:Nat)=>sBnd ((n:Int) - 1 - (k:Int))
def aU (l:List ByteArray) (keep:List Nat):List ByteArray:=keep.map fun k=>l.getD k aB
def nC (s:Sv) (v t:Term) (d:Int):Rz (Sv × Term) :=
 if t.n==v.n then .clash else
 let own:=ak s.ms v.n
 let w:=ak s.ms t.n
 let kp:=iX own.level v.args d t.args 0
 let ex:=j6 own.level w.level v.args 0
 let out:=kp.2++ex.map fun p=>sBnd ((v.args.length:Int) - 1 - p.1+d)
 if (kp.1.length:Int)==(nmsF w).length&&decide (w.level≤own.level) then .ok (s,sVar t.n out)
 else if decide ((kp.1.length:Int)+ex.length>8) then .large 2
 else (jq s (min w.level own.level) (bK (aU (nmsF w) kp.1++aU (nmsF own) (ex.map (·.1))) (bU w.type))).bind fun r =>
  .ok (kr r.1 t.n (sVar r.2 (bR (nmsF w).length kp.1++ex.map (·.2))),sVar r.2 out)
def mapS (g:Sv→Term→Rz (Sv × Term)):Sv→List Term→Rz (Sv × List Term)
 |s,[]=>.ok (s,[])
 |s,t::ts=>(g s t).bind fun r=>(mapS g r.1 ts).bind fun q=>.ok (q.1,r.2::q.2)
def bY (k:Int):Bool:=k==2||k==3
noncomputable def lJ:Nat→Sv→Term→Term→Int→Int→Rz (Sv × Term)
 |0,_,_,_,_,_=>.large 5
 |f+1,s,v,t,d,deep=>(kG s deep).bind fun s =>
  let t:=gK s.ms t
  if t.kind==4 then nC s v t d
  else
   let o:=if bY t.kind then bX (ak s.ms v.n).level v.args ⟨t.kind,t.n,aB,[]⟩ d else (⟨t.kind,t.n,t.name,[]⟩,true)
   if o.2 then (mapS (fun s a=>lJ f s v a (inner t.kind d) (deep+1)) s t.args).bind fun r=>.ok (r.1,⟨o.1.kind,o.1.n,o.1.name,r.2⟩)
   else .clash
def jh (s:Sv) (n:Int) (keep:List Nat):Rz Sv :=
 let v:=ak s.ms n
 (jq s v.level (bK (aU (nmsF v) keep) (bU v.type))).bind fun r=>.ok (kr r.1 n (sVar r.2 (bR (nmsF v).length keep)))
def fe:List Term→List Term→Nat→List Nat
 |a::l,b::m,i=>if isF a b then i::fe l m (i+1) else fe l m (i+1)
 |_,_,_=>[]
def jA (s:Sv) (a b:Term):Rz Sv:=if decide (((fe a.args b.args 0).length:Int)<a.args.length) then jh s a.n (fe a.args b.args 0) else .ok s
noncomputable def gQ (s:Sv) (v t:Term):Rz Sv:=if t.kind==5 then .clash else (lJ 402 s v t 0 0).bind fun r=>.ok (kr r.1 v.n r.2)
def lL (g:Sv→Term→Term→Rz Sv):Sv→List Term→List Term→Rz Sv
 |s,a::l,b::m=>(g s a b).bind fun s=>lL g s l m
 |s,_,_=>.ok s
def kD (a b:Term):Bool:=!(a.kind==b.kind)||(!(a.n==b.n)||(!(a.name.toList==b.name.toList)||!((a.args.length:Int)==b.args.length)))
noncomputable def eG:Nat→Sv→Term→Term→Int→Rz Sv
 |0,_,_,_,_=>.large 5
 |f+1,s,a,b,deep=>(kG s deep).bind fun s =>
  let a:=gK s.ms a
  let b:=gK s.ms b
  if a.kind==4&&(b.kind==4&&a.n==b.n) then jA s a b
  else if a.kind==4 then gQ s a b
  else if b.kind==4 then gQ s b a
  else if kD a b then .clash
  else lL (fun s a b=>eG f s a b (deep+1)) s a.args b.args
structure ExtS (ms ms':List Va):Prop where
 len:ms.length≤ms'.length
 lev:∀ n:Int,0≤n→n<(ms.length:Int)→(ak ms' n).level=(ak ms n).level
 typ:∀ n:Int,0≤n→n<(ms.length:Int)→(ak ms' n).type=(ak ms n).type
 kept:∀ n:Int,0≤n→n<(ms.length:Int)→(ak ms n).is=true→ak ms' n=ak ms n
theorem ExtS.refl (ms:List Va):ExtS ms ms:=⟨Nat.le_refl _,fun _ _ _=>rfl,fun _ _ _=>rfl,fun _ _ _ _=>rfl⟩
theorem ExtS.trans {a b c:List Va} (h:ExtS a b) (k:ExtS b c):ExtS a c:=by
 have hl:=h.len
 refine ⟨Nat.le_trans h.len k.len,fun n h0 h1=>?_,fun n h0 h1=>?_,fun n h0 h1 hi=>?_⟩
 ·rw [k.lev n h0 (by omega),h.lev n h0 h1]
 ·rw [k.typ n h0 (by omega),h.typ n h0 h1]
 ·have:=h.kept n h0 h1 hi
  rw [k.kept n h0 (by omega) (by rw [this];exact hi),this]
theorem Qb {ms ms':List Va} (e:ExtS ms ms') {k n:Int} {s:ByteArray} {l:List Term} {d:Int} (h:bg ms k n s l d=true):bg ms' k n s l d=true:=by
 unfold bg aY at h ⊢
 by_cases h4:k=4
 ·subst h4
  have hl:=e.len
  simp only [Bool.and_eq_true,Bool.not_eq_true',decide_eq_false_iff_not] at h ⊢
  simp at h ⊢
  have a:=e.lev n (by omega) (by omega)
  have b:=e.typ n (by omega) (by omega)
  refine ⟨h.1,h.2.1,h.2.2.1,h.2.2.2.1,by omega,?_⟩
  have h5:=h.2.2.2.2.2
  unfold dx at h5 ⊢
  rw [a,b];exact h5
 ·have:(k==4)=false:=by simpa using h4
  simp only [this] at h ⊢
  exact h
mutual
theorem bH {ms ms':List Va} (e:ExtS ms ms'):∀ (t:Term) (d:Int),aK ms t d=true→aK ms' t d=true
 |⟨k,n,s,l⟩,d,h=>by
  rw [aK,Bool.and_eq_true] at h ⊢
  exact ⟨Qb e h.1,EH e l _ h.2⟩
theorem EH {ms ms':List Va} (e:ExtS ms ms'):∀ (l:List Term) (d:Int),dY ms l d=true→dY ms' l d=true
 |[],d,h=>by rw [dY]
 |t::l,d,h=>by
  rw [dY,Bool.and_eq_true] at h ⊢
  exact ⟨bH e t d h.1,EH e l d h.2⟩
end
theorem Nt {ms:List Va} {k n:Int} {s:ByteArray} {l:List Term} {d:Int} (h:bg ms k n s l d=true) (h4:k=4):0≤n∧n<(ms.length:Int):=by
 subst h4
 unfold bg aY at h
 simp at h
 omega
mutual
theorem pK {ms ms':List Va} (e:ExtS ms ms') {lv:Int}:∀ (t:Term) (d:Int),aK ms t d=true→gG ms lv t=true→gG ms' lv t=true
 |⟨k,n,s,l⟩,d,hf,h=>by
  rw [aK,Bool.and_eq_true] at hf
  rw [gG,Bool.and_eq_true] at h ⊢
  refine ⟨?_,DI e l _ hf.2 h.2⟩
  have h1:=h.1
  unfold iB at h1 ⊢
  by_cases h4:k=4
  ·have:=Nt hf.1 h4
   rw [e.lev n this.1 this.2];exact h1
  ·have:(k==4)=false:=by simpa using h4
   simp only [this] at h1 ⊢
   exact h1
theorem DI {ms ms':List Va} (e:ExtS ms ms') {lv:Int}:∀ (l:List Term) (d:Int),dY ms l d=true→nA ms lv l=true→nA ms' lv l=true
 |[],d,_,h=>by rw [nA]
 |t::l,d,hf,h=>by
  rw [dY,Bool.and_eq_true] at hf
  rw [nA,Bool.and_eq_true] at h ⊢
  exact ⟨pK e t d hf.1 h.1,DI e l d hf.2 h.2⟩
end
structure Q9 (ms:List Va) (v:Va):Prop where
 ty:jd v=true
 val:v.is=true→(eD (aX v.type) v.t).2=true∧aK ms (eD (aX v.type) v.t).1 (aX v.type)=true∧gG ms v.level (eD (aX v.type) v.t).1=true∧v.t.size≤400000
 no:v.is=false→v.t.size≤400000
theorem Q9.ext {ms ms':List Va} (e:ExtS ms ms') {v:Va} (h:Q9 ms v):Q9 ms' v :=
 ⟨h.ty,fun hi=>⟨(h.val hi).1,bH e _ _ (h.val hi).2.1,pK e _ _ (h.val hi).2.1 (h.val hi).2.2.1,(h.val hi).2.2.2⟩,h.no⟩
def En (ms:List Va) (k n:Nat):Prop:=(ms.getD n noVa).is=true∧(k:Int) ∈ bQ (ms.getD n noVa).t
structure Inv (ms:List Va):Prop where
 len:ms.length≤2000
 val:∀ v ∈ ms,Q9 ms v
 acc:∀ n,Acc (En ms) n
inductive Av (ms:List Va) (n:Nat):Nat→Prop
 |mk {k:Nat} (h:k≠n) (hs:∀ j,En ms j k→Av ms n j):Av ms n k
def AvT (ms:List Va) (n:Nat) (t:Term):Prop:=∀ k ∈ bQ t,0≤k∧Av ms n k.toNat
theorem nM (ms:List Va) (n:Nat) (w:Va) (k:Nat):(ms.set n w).getD k noVa=if k=n∧n<ms.length then w else ms.getD k noVa:=by
 rw [List.getD_eq_getElem?_getD,List.getD_eq_getElem?_getD,List.getElem?_set]
 by_cases h:n=k
 ·subst h
  by_cases h2:n<ms.length
  ·simp [h2]
  ·simp [h2]
 ·rw [if_neg h,if_neg (fun e=>h e.1.symm)]
theorem jL (ms:List Va) (w:Va) (k:Nat):(ms++[w]).getD k noVa=if k=ms.length then w else ms.getD k noVa:=by
 rw [List.getD_eq_getElem?_getD,List.getD_eq_getElem?_getD]
 by_cases h:k<ms.length
 ·rw [List.getElem?_append_left h,if_neg (by omega)]
 ·rw [List.getElem?_append_right (by omega)]
  by_cases h2:k=ms.length
  ·subst h2;simp
  ·rw [if_neg h2,List.getElem?_eq_none (by simp;omega),List.getElem?_eq_none (by omega)]
theorem GI {ms:List Va} {n:Int} {w:Va} (h0:0≤n) (h1:n<(ms.length:Int)) (hu:(ak ms n).is=false) (hl:w.level=(ak ms n).level) (ht:w.type=(ak ms n).type):ExtS ms (ms.set n.toNat w):=by
 have key:∀ m:Int,ak (ms.set n.toNat w) m=if m.toNat=n.toNat∧n.toNat<ms.length then w else ak ms m:=fun m=>nM ms n.toNat w m.toNat
 refine ⟨by rw [List.length_set];exact Nat.le_refl _,fun m m0 m1=>?_,fun m m0 m1=>?_,fun m m0 m1 hi=>?_⟩
 ·rw [key]
  split
  ·rename_i h;obtain rfl:m=n:=by omega
   exact hl
  ·rfl
 ·rw [key]
  split
  ·rename_i h;obtain rfl:m=n:=by omega
   exact ht
  ·rfl
 ·rw [key]
  split
  ·rename_i h;obtain rfl:m=n:=by omega
   rw [hu] at hi;cases hi
  ·rfl
theorem vG (ms:List Va) (w:Va):ExtS ms (ms++[w]):=by
 have key:∀ m:Int,0≤m→m<(ms.length:Int)→ak (ms++[w]) m=ak ms m:=fun m h0 h1=>by
  show (ms++[w]).getD m.toNat noVa=ms.getD m.toNat noVa
  rw [jL,if_neg (by omega)]
 exact ⟨by simp,fun m h0 h1=>by rw [key m h0 h1],fun m h0 h1=>by rw [key m h0 h1],fun m h0 h1 _=>key m h0 h1⟩
theorem ET {ms:List Va} {w:Va} (hw:w.is=false) {k n:Nat}:En (ms++[w]) k n↔En ms k n:=by
 unfold En
 rw [jL]
 by_cases h:n=ms.length
 ·rw [if_pos h,hw]
  subst h
  rw [List.getD_eq_getElem?_getD,List.getElem?_eq_none (Nat.le_refl _)]
  exact Iff.intro (fun h=>absurd h.1 (by decide)) (fun h=>absurd h.1 (by simp [noVa]))
 ·rw [if_neg h]
theorem KV {ms:List Va} {w:Va} (hw:w.is=false) (h:∀ n,Acc (En ms) n):∀ n,Acc (En (ms++[w])) n:=fun n=>by
 induction h n with
 |intro n _ ih=>exact .intro _ fun j hj=>ih j ((ET hw).1 hj)
theorem Ov {ms:List Va} {w:Va} (hw:w.is=false) {n k:Nat} (h:Av ms n k):Av (ms++[w]) n k:=by
 induction h with
 |mk h _ ih=>exact .mk h fun j hj=>ih j ((ET hw).1 hj)
theorem yP {ms:List Va} {n:Nat} {w:Va} {j k:Nat} (h:k≠n):En (ms.set n w) j k↔En ms j k:=by
 unfold En
 rw [nM,if_neg (fun e=>h e.1)]
theorem Uz {ms:List Va} {n:Nat} {w:Va} (hn:n<ms.length) (hb:∀ k:Nat,(k:Int) ∈ bQ w.t→Av ms n k) (h:∀ k,Acc (En ms) k):∀ k,Acc (En (ms.set n w)) k:=by
 have s1:∀ k,Av ms n k→Acc (En (ms.set n w)) k:=fun k hk=>by
  induction hk with
  |mk hne _ ih=>exact .intro _ fun j hj=>ih j ((yP hne).1 hj)
 have s2:Acc (En (ms.set n w)) n:=.intro _ fun j hj=>by
  unfold En at hj
  rw [nM,if_pos ⟨rfl,hn⟩] at hj
  exact s1 j (hb j hj.2)
 intro k
 induction h k with
 |intro k _ ih =>
  by_cases e:k=n
  ·subst e;exact s2
  ·exact .intro _ fun j hj=>ih j ((yP e).1 hj)
theorem XA {ms:List Va} {v n:Nat} {w:Va} (hne:n≠v) (hn:n<ms.length) (hb:∀ k:Nat,(k:Int) ∈ bQ w.t→Av (ms.set n w) v k) {k:Nat} (h:Av ms v k):Av (ms.set n w) v k:=by
 induction h with
 |@mk k h _ ih =>
  by_cases e:k=n
  ·subst e
   refine .mk h fun j hj=>?_
   unfold En at hj
   rw [nM,if_pos ⟨rfl,hn⟩] at hj
   exact hb j hj.2
  ·exact .mk h fun j hj=>ih j ((yP e).1 hj)
theorem II:∀ (n:Nat) (t:Term),fE n ⟨5,0,aB,[t]⟩=⟨5,0,aB,[fE n t]⟩
 |0,t=>rfl
 |n+1,t=>by rw [fE,fE,II n]
theorem uw:∀ (n:Nat) (t:Term),eD n (fE n t)=(t,t.kind != 5)
 |0,t=>rfl
 |n+1,t=>by
  rw [fE,II,eD]
  have:wC ⟨5,0,aB,[fE n t]⟩=false:=by simp [wC]
  rw [this]
  simp only [Bool.false_eq_true,if_false,List.headD_cons]
  exact uw n t
theorem xN:∀ (n:Nat) (t:Term),(fE n t).size=t.size+n
 |0,t=>rfl
 |n+1,t=>by rw [fE,xN n,Term.size,sizes,sizes];omega
theorem rH:∀ (n:Nat) (t:Term),bQ (fE n t)=bQ t
 |0,t=>rfl
 |n+1,t=>by
  rw [fE,rH n,bQ,di,di]
  simp
theorem jQ {ms:List Va} {n:Int} (h0:0≤n) (h1:n<(ms.length:Int)):ak ms n ∈ ms:=by
 unfold ak
 rw [List.getD_eq_getElem?_getD,List.getElem?_eq_getElem (by omega)]
 exact List.getElem_mem _
theorem Co {s:Sv} (I:Inv s.ms) {n:Int} {b:Term} (h0:0≤n) (h1:n<(s.ms.length:Int)) (hu:(ak s.ms n).is=false) (hf:aK s.ms b (aX (ak s.ms n).type)=true) (hs:gG s.ms (ak s.ms n).level b=true)
  (h5:b.kind≠5) (hz:b.size≤399000) (ha:AvT s.ms n.toNat b):Inv (kr s n b).ms∧ExtS s.ms (kr s n b).ms:=by
 have e:ExtS s.ms (kr s n b).ms:=GI h0 h1 hu rfl rfl
 refine ⟨⟨by show (s.ms.set _ _).length≤_;rw [List.length_set];exact I.len,fun v hv=>?_,?_⟩,e⟩
 ·rcases List.mem_or_eq_of_mem_set hv with hv|rfl
  ·exact (I.val v hv).ext e
  ·have hty:=(I.val _ (jQ h0 h1)).ty
   have hal:=fT (ak s.ms n).type
   refine ⟨hty,fun _=>?_,fun h=>absurd (show true=false from h) (by decide)⟩
   show (eD (aX (ak s.ms n).type) (fE (aX (ak s.ms n).type) b)).2=true∧_
   have eb:=uw (aX (ak s.ms n).type) b
   refine ⟨by rw [eb];simpa using h5,?_,?_,?_⟩
   ·show aK _ (eD (aX (ak s.ms n).type) (fE (aX (ak s.ms n).type) b)).1 (aX (ak s.ms n).type)=true
    rw [eb];exact bH e _ _ hf
   ·show gG _ (ak s.ms n).level (eD (aX (ak s.ms n).type) (fE (aX (ak s.ms n).type) b)).1=true
    rw [eb];exact pK e _ _ hf hs
   ·show (fE (aX (ak s.ms n).type) b).size≤_
    rw [xN];omega
 ·refine Uz (by omega) (fun k hk=>?_) I.acc
  have hk':(k:Int) ∈ bQ (fE (aX (ak s.ms n).type) b):=hk
  rw [rH] at hk'
  have:=(ha _ hk').2
  simpa using this
mutual
theorem nu:∀ (t:Term) (us:List Term) (d:Int),(aH t us d).size=t.size
 |⟨k,n,s,l⟩,us,d=>by rw [aH,Term.size,Term.size,vW]
theorem vW:∀ (l us:List Term) (d:Int),sizes (aC l us d)=sizes l
 |[],us,d=>by rw [aC]
 |t::l,us,d=>by rw [aC,sizes,sizes,nu,vW]
end
theorem CL:∀ (n:Nat) (t:Term),(eD n t).1.size≤t.size
 |0,t=>Nat.le_refl _
 |n+1,t=>by
  rw [eD]
  split
  ·exact Nat.le_refl _
  ·rename_i h
   obtain ⟨u,hu⟩:=mJ (by simpa using h)
   have:=CL n u
   obtain ⟨a,b,c,l⟩:=t
   simp only at hu
   subst hu
   simp only [List.headD_cons]
   rw [Term.size,sizes,sizes];omega
theorem wP {ms:List Va} (I:Inv ms) {t:Term} {d:Int} (hd:0≤d) (hf:aK ms t d=true) (h4:(t.kind==4)=true) (hi:(ak ms t.n).is=true) :
  zG ms (ak ms t.n).level d t.args∧aK ms (dJ ms t) t.args.length=true∧gG ms (ak ms t.n).level (dJ ms t)=true∧(eD t.args.length (ak ms t.n).t).2=true∧tF (dJ ms t) t.args.length 0=true∧(ak ms t.n).t.size≤400000∧0≤t.n∧t.n<(ms.length:Int):=by
 have hv:=pX hf h4
 have hpat:=lN hv.2.2
 obtain ⟨h1,h2,h3,h5⟩:=(I.val _ (jQ hv.1 hv.2.1)).val hi
 rw [hpat.2.2] at h1 h2 h3
 have hf':=hf
 rw [cO,Bool.and_eq_true] at hf'
 have hin:inner t.kind d=d:=by
  have:t.kind=4:=by simpa using h4
  unfold inner;rw [this];rfl
 rw [hin] at hf'
 have hargs:∀ u ∈ t.args,fw d u:=fun u hu=>Cy (hpat.1 u hu).1 ((bT _ _ _).1 hf'.2 u hu)
 exact ⟨⟨hd,hargs,fun u hu=>(hpat.1 u hu).2,hpat.2.1⟩,h2,h3,h1,yH _ _ 0 (by rw [Int.add_zero];exact h2),h5,hv.1,hv.2.1⟩
theorem jN {t:Term} (h4:(t.kind==4)=true):bQ t=[t.n]:=by
 obtain ⟨a,b,c,l⟩:=t
 rw [bQ]
 simp only at h4
 rw [h4];rfl
theorem rC {ms:List Va} {t:Term} {d:Int} (hf:aK ms t d=true):∀ k ∈ bQ t,0≤k∧k<(ms.length:Int):=ng _ _ ((sZ ms _).1 t d (Nat.le_refl _) hf)
structure OJ (ms:List Va) (t:Term) (d:Int) (k:Nat) (u:Term):Prop where
 hs:rU ms k t u
 fits:aK ms u d=true
 flex:(u.kind==4&&(ak ms u.n).is)=false
 size:u.size≤t.size∨u.size≤400000
 av:∀ v,AvT ms v t→AvT ms v u
theorem TC {ms:List Va} (I:Inv ms) {t:Term} {d:Int} (hd:0≤d) (hf:aK ms t d=true):∃ k u,OJ ms t d k u:=by
 have key:∀ n:Nat,Acc (En ms) n→∀ t:Term,t.n.toNat=n→aK ms t d=true→(t.kind==4)=true→(ak ms t.n).is=true→∃ k u,OJ ms t d k u:=by
  intro n hn
  induction hn with
  |intro n _ ih =>
   intro t htn hf h4 hi
   obtain ⟨hp,h2,h3,h1,h6,h5,hn0,hn1⟩:=wP I hd hf h4 hi
   have hff:=fQ hp (dJ ms t) 0 (Int.le_refl _) (by rw [Int.add_zero];exact h2) h3
   rw [Int.add_zero] at hff
   have hdir:∀ k ∈ bQ (aH (dJ ms t) t.args 0),0≤k∧En ms k.toNat n:=fun k hk=>by
    have h7:=nT hp (dJ ms t) 0 (by rw [Int.add_zero];exact h2) k hk
    have h8:=(rC h2 k h7).1
    refine ⟨h8,?_⟩
    unfold En
    rw [← htn]
    refine ⟨hi,?_⟩
    rw [Int.toNat_of_nonneg h8]
    exact lD _ _ h1 k h7
   have hav:∀ v,AvT ms v t→AvT ms v (aH (dJ ms t) t.args 0):=fun v hv k hk=>by
    have h9:=(hv t.n (by rw [jN h4];exact List.mem_singleton.2 rfl)).2
    cases h9 with
    |mk _ hs=>exact ⟨(hdir k hk).1,hs _ (by rw [htn];exact (hdir k hk).2)⟩
   have hsz:(aH (dJ ms t) t.args 0).size≤400000:=by
    rw [nu]
    have:=CL t.args.length (ak ms t.n).t
    have e:(dJ ms t).size≤(ak ms t.n).t.size:=this
    omega
   by_cases hb:((aH (dJ ms t) t.args 0).kind==4&&(ak ms (aH (dJ ms t) t.args 0).n).is)=true
   ·rw [Bool.and_eq_true] at hb
    obtain ⟨k,u,hk⟩:=ih _ (hdir _ (by rw [jN hb.1];exact List.mem_singleton.2 rfl)).2 _ rfl hff hb.1 hb.2
    refine ⟨k+1,u,.step h4 hi hk.hs,hk.fits,hk.flex,?_,fun v hv=>hk.av v (hav v hv)⟩
    rcases hk.size with h|h <;> omega
   ·exact ⟨1,_,.step h4 hi (.done (by simpa using hb)),hff,by simpa using hb,.inr hsz,hav⟩
 by_cases hb:(t.kind==4&&(ak ms t.n).is)=true
 ·rw [Bool.and_eq_true] at hb
  exact key _ (I.acc _) t rfl hf hb.1 hb.2
 ·exact ⟨0,t,.done (by simpa using hb),hf,by simpa using hb,.inl (Nat.le_refl _),fun v hv=>hv⟩
theorem IR {ms:List Va} (I:Inv ms) {t:Term} {d:Int} (hd:0≤d) (hf:aK ms t d=true):∃ k,OJ ms t d k (gK ms t):=by
 obtain ⟨k,u,h⟩:=TC I hd hf
 rw [← head_eq h.hs] at h
 exact ⟨k,h⟩
theorem yJ:∀ (us:List Term) (y:Term) (i j:Nat),kF us y i=some j→i≤j∧j - i<us.length∧isF (us.getD (j - i) aG) y=true
 |[],y,i,j,h=>by cases h
 |a::l,y,i,j,h=>by
  rw [kF] at h
  cases ha:isF a y
  ·rw [ha] at h
   simp only [Bool.false_eq_true,if_false] at h
   obtain ⟨h1,h2,h3⟩:=yJ l y (i+1) j h
   refine ⟨by omega,by rw [List.length_cons];omega,?_⟩
   rw [show j - i=j - (i+1)+1 by omega,List.getD_cons_succ]
   exact h3
  ·rw [ha] at h
   simp only [if_true,Option.some.injEq] at h
   subst h
   exact ⟨Nat.le_refl _,by simp,by simpa using ha⟩
inductive om (lv:Int) (us:List Term) (d:Int) (y:Term):Term→Prop
 |low (h2:y.kind=2) (hl:y.n<d):om lv us d y y
 |par (h3:y.kind=3) (hl:y.n<lv):om lv us d y y
 |seat (i:Nat) (hi:i<us.length) (hk:(us.getD i aG).kind=y.kind) (hn:(us.getD i aG).n=if y.kind=2 then y.n - d else y.n) (h2:y.kind=2→d≤y.n) (h3:y.kind=3→lv≤y.n):om lv us d y (sBnd ((us.length:Int) - 1 - i+d))
theorem pW {a b:Term} (h:isF a b=true):a.kind=b.kind∧a.n=b.n:=by
 unfold isF at h
 rw [Bool.and_eq_true] at h
 exact ⟨by simpa using h.1,by simpa using h.2⟩
theorem iP {lv:Int} {us:List Term} {y:Term} {d:Int} (hy:y.kind=2∨y.kind=3) (h:(bX lv us y d).2=true):om lv us d y (bX lv us y d).1:=by
 unfold bX at h ⊢
 cases h2:(y.kind==2)
 ·rw [h2] at h
  simp only [Bool.false_eq_true,if_false] at h ⊢
  have n2:y.kind≠2:=by simpa using h2
  have k3:y.kind=3:=hy.resolve_left n2
  by_cases hl:y.n<lv
  ·rw [k3,decide_eq_true hl] at h ⊢
   exact .par k3 hl
  ·rw [decide_eq_false hl,Bool.and_false] at h ⊢
   simp only [Bool.false_eq_true,if_false] at h ⊢
   unfold jD at h ⊢
   cases hf:kF us y 0 with
   |none=>rw [hf] at h;cases h
   |some i =>
    obtain ⟨_,h5,h6⟩:=yJ us y 0 i hf
    have h7:=pW h6
    rw [Nat.sub_zero] at h5 h7
    exact .seat i h5 h7.1 (by rw [if_neg n2];exact h7.2) (fun e=>absurd e n2) (fun _=>by omega)
 ·rw [h2] at h
  simp only [if_true] at h ⊢
  have k2:y.kind=2:=by simpa using h2
  by_cases hl:y.n<d
  ·rw [decide_eq_true hl]
   exact .low k2 hl
  ·rw [decide_eq_false hl] at h ⊢
   simp only [Bool.false_eq_true,if_false] at h ⊢
   unfold jD at h ⊢
   cases hf:kF us ⟨y.kind,y.n - d,y.name,y.args⟩ 0 with
   |none=>rw [hf] at h;cases h
   |some i =>
    obtain ⟨_,h5,h6⟩:=yJ us _ 0 i hf
    have h7:=pW h6
    rw [Nat.sub_zero] at h5 h7
    exact .seat i h5 h7.1 (by rw [if_pos k2];exact h7.2) (fun _=>by omega) (fun e=>by omega)
theorem om.ok {lv:Int} {us:List Term} {d D:Int} {y z:Term} (h:om lv us d y z) (hd:0≤d) (hy:fw (D+d) y):fw (us.length+d) z∧(z.kind=3→z.n<lv∧y.kind=3∧z.n=y.n):=by
 cases h with
 |low h2 hl=>exact ⟨⟨hy.1,hy.2.1,fun _=>⟨(hy.2.2.1 h2).1,by omega⟩,hy.2.2.2⟩,fun e=>by omega⟩
 |par h3 hl=>exact ⟨⟨hy.1,hy.2.1,fun e=>by omega,hy.2.2.2⟩,fun _=>⟨hl,h3,rfl⟩⟩
 |seat i hi hk hn h2 h3=>exact ⟨⟨rfl,rfl,fun _=>⟨by show 0≤(us.length:Int) - 1 - i+d;omega,by show (us.length:Int) - 1 - i+d<_;omega⟩,fun e=>absurd (show (2:Int)=3 from e) (by decide)⟩,fun e=>absurd (show (2:Int)=3 from e) (by decide)⟩
theorem om.inj {lv:Int} {us:List Term} {d:Int} {y z y' z':Term} (h:om lv us d y z) (h':om lv us d y' z') (hne:isF y y'=false):isF z z'=false:=by
 rw [jl] at hne ⊢
 cases h with
 |low h2 hl =>
  cases h' with
  |low h2' hl'=>exact hne
  |par h3' hl'=>exact hne
  |seat i hi hk hn g2 g3=>right;show y.n≠(us.length:Int) - 1 - i+d;omega
 |par h3 hl =>
  cases h' with
  |low h2' hl'=>exact hne
  |par h3' hl'=>exact hne
  |seat i hi hk hn g2 g3=>left;show y.kind≠2;omega
 |seat i hi hk hn g2 g3 =>
  cases h' with
  |low h2' hl'=>right;show (us.length:Int) - 1 - i+d≠y'.n;omega
  |par h3' hl'=>left;show 2≠y'.kind;omega
  |seat i' hi' hk' hn' g2' g3' =>
   right
   show (us.length:Int) - 1 - i+d≠(us.length:Int) - 1 - i'+d
   intro e
   obtain rfl:i=i':=by omega
   have ek:y.kind=y'.kind:=by rw [← hk,hk']
   rcases hne with h|h
   ·exact h ek
   ·rw [hn,ek] at hn'
    split at hn' <;> omega
theorem Ou {t:Ty} (h:bP t=true):bP ⟨t.name,[]⟩=true:=by
 unfold bP at h ⊢
 simp only [Bool.and_eq_true] at h ⊢
 exact ⟨⟨⟨rfl,h.1.1.2⟩,h.1.2⟩,h.2⟩
theorem Jn {t:Ty} (h:bP t=true):((t.args.length:Int)==2)=false∧(jm t.name&&(t.args.length:Int)==2)=false:=by
 unfold bP at h
 simp only [Bool.and_eq_true] at h
 have h1:t.args.length=0:=by have:=h.1.1.1;simp at this;simp [this]
 rw [h1]
 exact ⟨rfl,by simp⟩
theorem KJ:∀ (s:Nat) (t:Ty) (out l:List ByteArray),t.size≤s→(∀ a ∈ out,bP ⟨a,[]⟩=true)→iW t out=some l→(∀ a ∈ l,bP ⟨a,[]⟩=true)∧bP (bU t)=true:=by
 intro s
 induction s with
 |zero=>intro t out l ht;obtain ⟨a,b⟩:=t;rw [Ty.size] at ht;omega
 |succ s ih =>
  intro t out l ht ho hg
  cases h:(jm t.name&&(t.args.length:Int)==2)
  ·rw [ig out h,jr] at hg
   split at hg
   ·rename_i hb
    injection hg with hg;subst hg
    exact ⟨ho,by rw [xJ (Jn hb).1];exact hb⟩
   ·cases hg
  ·rw [Bool.and_eq_true] at h
   obtain ⟨a,b,hab,he,hs⟩:=mV out h.1 h.2
   obtain ⟨a',b',hab',ht',_⟩:=xI h.2
   rw [hab] at hab'
   injection hab' with e1 e2
   injection e2 with e2
   subst e1;subst e2
   rw [he] at hg
   split at hg
   ·cases hg
   ·rename_i hb
    rw [Bool.or_eq_true,not_or] at hb
    have hba:bP a=true:=by simpa using hb.1
    rw [ht']
    refine ih b (out++[a.name]) l (by omega) (fun x hx=>?_) hg
    rcases List.mem_append.1 hx with hx|hx
    ·exact ho x hx
    ·rw [List.mem_singleton] at hx;subst hx;exact Ou hba
theorem Bi:∀ (l:List ByteArray) (to:Ty) (out:List ByteArray),(∀ a ∈ l,bP ⟨a,[]⟩=true)→bP to=true→out.length+l.length≤8→iW (bK l to) out=some (out++l)
 |[],to,out,_,ht,_=>by rw [bK,ig out (Jn ht).2,jr,if_pos ht,List.append_nil]
 |a::l,to,out,hl,ht,hn=>by
  rw [List.length_cons] at hn
  rw [bK,iW]
  have h1:jm ⟨#[45,62]⟩=true:=by unfold jm;exact beq_self_eq_true _
  have h2:(!bP ⟨a,[]⟩||(out.length:Int)==8)=false:=by
   rw [hl a List.mem_cons_self]
   have:¬ (out.length:Int)=8:=by omega
   simpa using this
  rw [if_pos h1,h2]
  simp only [Bool.false_eq_true,if_false]
  rw [Bi l to (out++[a]) (fun x hx=>hl x (List.mem_cons_of_mem _ hx)) ht (by rw [List.length_append,List.length_singleton];omega)]
  simp
theorem Fh {l:List ByteArray} {to:Ty} (hl:∀ a ∈ l,bP ⟨a,[]⟩=true) (ht:bP to=true) (hn:l.length≤8):fU (bK l to)=some l:=by
 unfold fU
 rw [Bi l to [] hl ht (by simpa using hn)]
 rfl
theorem uQ {v:Va} (h:jd v=true):(fU v.type).isSome=true∧0≤v.level∧v.level≤60:=by
 unfold jd at h
 simp only [Bool.and_eq_true,Bool.not_eq_true',decide_eq_false_iff_not] at h
 exact ⟨h.1,by omega,by omega⟩
theorem wU {v:Va} (h:jd v=true):(∀ a ∈ nmsF v,bP ⟨a,[]⟩=true)∧bP (bU v.type)=true:=by
 have h1:=(uQ h).1
 cases hs:fU v.type with
 |none=>rw [hs] at h1;cases h1
 |some l =>
  have:=KJ v.type.size v.type [] l (Nat.le_refl _) (fun a ha=>absurd ha List.not_mem_nil) hs
  unfold nmsF
  rw [hs]
  exact this
theorem pU {l:List ByteArray} (hl:∀ a ∈ l,bP ⟨a,[]⟩=true) {keep:List Nat} (hk:∀ k ∈ keep,k<l.length):∀ a ∈ aU l keep,bP ⟨a,[]⟩=true:=by
 intro a ha
 obtain ⟨k,hk1,rfl⟩:=List.mem_map.1 ha
 rw [List.getD_eq_getElem?_getD,List.getElem?_eq_getElem (hk k hk1)]
 exact hl _ (List.getElem_mem _)
theorem Q5 {ms:List Va} {d:Int} {u:Term} (h:fw d u):aK ms u d=true:=by
 rw [cO,(aS h.1).2,CS h [] (by decide),dY];rfl
theorem pG {ms:List Va} {n:Int} {l:List Term} {d:Int} (h0:0≤n) (h1:n<(ms.length:Int)) (har:aX (ak ms n).type=l.length) (ha:∀ u ∈ l,fw d u) (hlv:∀ u ∈ l,u.kind=3→(ak ms n).level≤u.n) (hp:l.Pairwise (fun b u=>isF u b=false)) :
  aK ms (sVar n l) d=true:=by
 have h8:=fT (ak ms n).type
 have hpat:dx (ak ms n) l=true:=by
  unfold dx
  rw [Bool.and_eq_true]
  exact ⟨by rw [har];simp,(lG _ _ _).2 ⟨fun u hu=>⟨(ha u hu).1,hlv u hu⟩,fun u _ b hb=>absurd hb List.not_mem_nil,hp⟩⟩
 rw [cO,Bool.and_eq_true]
 refine ⟨?_,(bT _ _ _).2 fun u hu=>Q5 (ha u hu)⟩
 unfold bg aY
 rw [hpat]
 have hz:(aB.size:Int)=0:=rfl
 simp
 omega
theorem rW {ms:List Va} {n:Int} {l:List Term} {lv:Int} (h:(ak ms n).level≤lv) (ha:∀ u ∈ l,bF u=true∧(u.kind=3→u.n<lv)):gG ms lv (sVar n l)=true:=by
 rw [sD,Bool.and_eq_true]
 refine ⟨?_,(oG _ _ _).2 fun u hu=>?_⟩
 ·unfold iB;simp;omega
 ·obtain ⟨h1,h2⟩:=ha u hu
  have hk:=aS h1
  rw [sD,hk.2,nA,Bool.and_true]
  unfold iB
  rcases hk.1 with e|e
  ·rw [e];simp
  ·have:=h2 e;rw [e];simp;omega
theorem ny:∀ l:List Term,(∀ u ∈ l,bF u=true)→sizes l=l.length
 |[],_=>by rw [sizes];rfl
 |u::l,h=>by
  have hk:=(aS (h u List.mem_cons_self)).2
  rw [sizes,ny l (fun w hw=>h w (List.mem_cons_of_mem _ hw)),List.length_cons]
  obtain ⟨a,b,c,m⟩:=u
  simp only at hk
  subst hk
  rw [Term.size,sizes];omega
theorem rV {n:Int} {l:List Term} (h:∀ u ∈ l,bF u=true):(sVar n l).size=l.length+1:=by
 rw [Term.size,ny l h]
structure Yd (lv:Int) (us:List Term) (d:Int) (l:List Term) (i:Nat) (r:List Nat × List Term):Prop where
 len:r.1.length=r.2.length
 le:r.1.length≤l.length
 ix:∀ k ∈ r.1,i≤k∧k<i+l.length
 inc:r.1.Pairwise (·<·)
 from_:∀ z ∈ r.2,∃ y ∈ l,om lv us d y z
theorem q8 {lv:Int} {us:List Term} {d:Int}:∀ (l:List Term) (i:Nat),(∀ y ∈ l,y.kind=2∨y.kind=3)→Yd lv us d l i (iX lv us d l i)
 |[],i,_=>⟨rfl,Nat.le_refl _,fun k hk=>absurd hk List.not_mem_nil,List.Pairwise.nil,fun z hz=>absurd hz List.not_mem_nil⟩
 |y::l,i,h=>by
  have ih:=q8 l (i+1) (fun w hw=>h w (List.mem_cons_of_mem _ hw)) (lv:=lv) (us:=us) (d:=d)
  rw [iX]
  split
  ·rename_i hp
   refine ⟨by simp [ih.len],by simpa using ih.le,fun k hk=>?_,List.pairwise_cons.2 ⟨fun k hk=>(ih.ix k hk).1,ih.inc⟩,fun z hz=>?_⟩
   ·rw [List.length_cons]
    rcases List.mem_cons.1 hk with rfl|hk
    ·omega
    ·have:=ih.ix k hk;omega
   ·rcases List.mem_cons.1 hz with rfl|hz
    ·exact ⟨y,List.mem_cons_self,iP (h y List.mem_cons_self) hp⟩
    ·obtain ⟨w,hw,hz⟩:=ih.from_ z hz
     exact ⟨w,List.mem_cons_of_mem _ hw,hz⟩
  ·refine ⟨ih.len,Nat.le_succ_of_le ih.le,fun k hk=>?_,ih.inc,fun z hz=>?_⟩
   ·have:=ih.ix k hk;rw [List.length_cons];omega
   ·obtain ⟨w,hw,hz⟩:=ih.from_ z hz
    exact ⟨w,List.mem_cons_of_mem _ hw,hz⟩
theorem Ev {lv:Int} {us:List Term} {d:Int}:∀ (l:List Term) (i:Nat),(∀ y ∈ l,y.kind=2∨y.kind=3)→l.Pairwise (fun b u=>isF u b=false)→(iX lv us d l i).2.Pairwise (fun b u=>isF u b=false)
 |[],i,_,_=>List.Pairwise.nil
 |y::l,i,h,hp=>by
  rw [List.pairwise_cons] at hp
  have hl:=fun w hw=>h w (List.mem_cons_of_mem _ hw)
  have ih:=Ev l (i+1) hl hp.2 (lv:=lv) (us:=us) (d:=d)
  rw [iX]
  split
  ·rename_i hpl
   refine List.pairwise_cons.2 ⟨fun z hz=>?_,ih⟩
   obtain ⟨w,hw,hz⟩:=(q8 l (i+1) hl (lv:=lv) (us:=us) (d:=d)).from_ z hz
   exact hz.inj (iP (h y List.mem_cons_self) hpl) (hp.1 w hw)
  ·exact ih
theorem IK {lv:Int} {us:List Term} {d:Int}:∀ (l:List Term) (i:Nat),(iX lv us d l i).1.length≤l.length
 |[],i=>Nat.le_refl _
 |y::l,i=>by
  have ih:=IK l (i+1) (lv:=lv) (us:=us) (d:=d)
  rw [iX]
  split
  ·simpa using ih
  ·exact Nat.le_succ_of_le ih
structure UC (olv wlv:Int) (l:List Term) (i:Nat) (r:List (Nat × Term)):Prop where
 at_:∀ p ∈ r,i≤p.1∧p.1<i+l.length∧l.getD (p.1 - i) aG=p.2∧p.2.kind=3∧p.2.n<wlv∧olv≤p.2.n
 inc:r.Pairwise (fun p q=>p.1<q.1)
theorem xh {olv wlv:Int}:∀ (l:List Term) (i:Nat),UC olv wlv l i (j6 olv wlv l i)
 |[],i=>⟨fun p hp=>absurd hp List.not_mem_nil,List.Pairwise.nil⟩
 |a::l,i=>by
  have ih:=xh l (i+1) (olv:=olv) (wlv:=wlv)
  have tail:∀ p ∈ j6 olv wlv l (i+1),i≤p.1∧p.1<i+(a::l).length∧(a::l).getD (p.1 - i) aG=p.2∧p.2.kind=3∧p.2.n<wlv∧olv≤p.2.n:=fun p hp=>by
   obtain ⟨h1,h2,h3,h4⟩:=ih.at_ p hp
   refine ⟨by omega,by rw [List.length_cons];omega,?_,h4⟩
   rw [show p.1 - i=p.1 - (i+1)+1 by omega,List.getD_cons_succ]
   exact h3
  rw [j6]
  split
  ·rename_i hx
   unfold ru at hx
   simp only [Bool.and_eq_true,beq_iff_eq,decide_eq_true_eq] at hx
   refine ⟨fun p hp=>?_,List.pairwise_cons.2 ⟨fun p hp=>(ih.at_ p hp).1,ih.inc⟩⟩
   rcases List.mem_cons.1 hp with rfl|hp
   ·refine ⟨Nat.le_refl _,by rw [List.length_cons];omega,by simp,hx.1,hx.2.1,by show olv≤a.n;omega⟩
   ·exact tail p hp
  ·exact ⟨tail,ih.inc⟩
theorem zb {n:Nat} {keep:List Nat} (h:∀ k ∈ keep,k<n):∀ u ∈ bR n keep,fw n u:=by
 intro u hu
 obtain ⟨k,hk,rfl⟩:=List.mem_map.1 hu
 have:=h k hk
 exact ⟨rfl,rfl,fun _=>⟨by show 0≤(n:Int) - 1 - k;omega,by show (n:Int) - 1 - k<n;omega⟩,fun e=>absurd (show (2:Int)=3 from e) (by decide)⟩
theorem pu {n:Nat} {keep:List Nat} (h:keep.Pairwise (·<·)):(bR n keep).Pairwise (fun b u=>isF u b=false):=by
 unfold bR
 rw [List.pairwise_map]
 refine h.imp fun {a b} hab=>?_
 rw [jl]
 right
 show (n:Int) - 1 - b≠(n:Int) - 1 - a
 omega
theorem bind_ok {α β:Type} {r:Rz α} {f:α→Rz β} {b:β} (h:r.bind f=.ok b):∃ a,r=.ok a∧f a=.ok b:=by
 cases r with
 |ok a=>exact ⟨a,rfl,h⟩
 |clash=>cases h
 |large e=>cases h
theorem jS {s s':Sv} {lv n:Int} {ty:Ty} (h:jq s lv ty=.ok (s',n)):s.ms.length<2000∧s'=⟨s.ms++[lK lv ty],s.wk⟩∧n=(s.ms.length:Int):=by
 unfold jq at h
 split at h
 ·cases h
 ·rename_i h2
  injection h with h
  injection h with h3 h4
  simp only [decide_eq_true_eq] at h2
  exact ⟨by omega,h3.symm,h4.symm⟩
theorem jc {ms:List Va} {w:Va} {n:Int} (h0:0≤n) (h1:n<(ms.length:Int)):ak (ms++[w]) n=ak ms n:=by
 unfold ak
 rw [jL,if_neg (by omega)]
theorem oC (ms:List Va) (w:Va):ak (ms++[w]) (ms.length:Int)=w:=by
 unfold ak
 rw [jL,if_pos (by omega)]
theorem oz {ms:List Va} {n k:Int} {w:Va} (h:k.toNat≠n.toNat):ak (ms.set n.toNat w) k=ak ms k:=by
 unfold ak
 rw [nM,if_neg (fun e=>h e.1)]
theorem Ey {ms:List Va} (I:Inv ms) {lv:Int} {ty:Ty} (hl:ms.length<2000) (ht:jd (lK lv ty)=true):Inv (ms++[lK lv ty]):=by
 refine ⟨by simp;omega,fun v hv=>?_,KV rfl I.acc⟩
 rcases List.mem_append.1 hv with hv|hv
 ·exact (I.val v hv).ext (vG _ _)
 ·rw [List.mem_singleton] at hv
  subst hv
  exact ⟨ht,fun h=>(absurd (show false=true from h) (by decide)),fun _=>(by show (Term.size ⟨0,0,aB,[]⟩)≤400000;rw [Term.size,sizes];decide)⟩
theorem CR {ms:List Va} {n k:Nat} (hne:k≠n) (h:(ms.getD k noVa).is=false):Av ms n k:=.mk hne fun j hj=>by have:=hj.1;rw [h] at this;cases this
theorem Hu {lv:Int} {l:List ByteArray} {to:Ty} (hl:∀ a ∈ l,bP ⟨a,[]⟩=true) (ht:bP to=true) (hn:l.length≤8) (h0:0≤lv) (h1:lv≤60):jd (lK lv (bK l to))=true∧aX (bK l to)=l.length:=by
 have e:=Fh hl ht hn
 refine ⟨?_,by unfold aX;rw [e];rfl⟩
 unfold jd lK
 simp only [e,Option.isSome_some,Bool.true_and,Bool.and_eq_true,Bool.not_eq_true',decide_eq_false_iff_not]
 omega
structure OG (c:Int) (s s':Sv) (v:Term) (d:Int) (out:Term):Prop where
 inv:Inv s'.ms
 ext:ExtS s.ms s'.ms
 free:(ak s'.ms v.n).is=false
 fits:aK s'.ms out (v.args.length+d)=true
 sees:gG s'.ms (ak s.ms v.n).level out=true
 av:AvT s'.ms v.n.toNat out
 mono:∀ k,Av s.ms v.n.toNat k→Av s'.ms v.n.toNat k
 size:(out.size:Int)≤9 * (s'.wk - s.wk)+c
 wk:s.wk≤s'.wk
structure iZ (ms:List Va) (v:Term) (D:Int):Prop where
 n0:0≤v.n
 n1:v.n<(ms.length:Int)
 args:∀ u ∈ v.args,fw D u
 high:∀ u ∈ v.args,u.kind=3→(ak ms v.n).level≤u.n
 pair:v.args.Pairwise (fun b u=>isF u b=false)
 ar:aX (ak ms v.n).type=v.args.length
theorem dG {ms:List Va} {v:Term} {D:Int} (hv:aK ms v D=true) (v4:(v.kind==4)=true):iZ ms v D:=by
 have h:=pX hv v4
 have hp:=lN h.2.2
 have hf':=hv
 rw [cO,Bool.and_eq_true] at hf'
 have hin:inner v.kind D=D:=by
  have:v.kind=4:=by simpa using v4
  unfold inner;rw [this];rfl
 rw [hin] at hf'
 exact ⟨h.1,h.2.1,fun u hu=>Cy (hp.1 u hu).1 ((bT _ _ _).1 hf'.2 u hu),fun u hu=>(hp.1 u hu).2,hp.2.1,hp.2.2⟩
theorem FX {s s':Sv} (I:Inv s.ms) {v t out:Term} {D d:Int} (hd:0≤d) (V:iZ s.ms v D) (vu:(ak s.ms v.n).is=false) (T:iZ s.ms t (D+d)) (tu:(ak s.ms t.n).is=false) (h:nC s v t d=.ok (s',out)) :
  OG 9 s s' v d out∧out.kind=4:=by
 unfold nC at h
 split at h
 ·cases h
 rename_i hne
 have hne:t.n≠v.n:=by simpa using hne
 have hneN:t.n.toNat≠v.n.toNat:=by have:=T.n0;have:=V.n0;omega
 dsimp only at h
 have hsk:∀ y ∈ t.args,y.kind=2∨y.kind=3:=fun y hy=>(aS (T.args y hy).1).1
 have K:=q8 (lv:=(ak s.ms v.n).level) (us:=v.args) (d:=d) t.args 0 hsk
 have KP:=Ev (lv:=(ak s.ms v.n).level) (us:=v.args) (d:=d) t.args 0 hsk T.pair
 have X:=xh (olv:=(ak s.ms v.n).level) (wlv:=(ak s.ms t.n).level) v.args 0
 generalize iX (ak s.ms v.n).level v.args d t.args 0=kp at *
 generalize j6 (ak s.ms v.n).level (ak s.ms t.n).level v.args 0=ex at *
 have hz:∀ z ∈ kp.2,fw (v.args.length+d) z∧(z.kind=3→z.n<(ak s.ms v.n).level∧(ak s.ms t.n).level≤z.n):=fun z hz=>by
  obtain ⟨y,hy,hp⟩:=K.from_ z hz
  obtain ⟨h1,h2⟩:=hp.ok hd (T.args y hy)
  refine ⟨h1,fun h3=>⟨(h2 h3).1,?_⟩⟩
  have:=T.high y hy (h2 h3).2.1
  rw [(h2 h3).2.2];exact this
 have hxb:∀ e ∈ ex.map (fun p=>sBnd ((v.args.length:Int) - 1 - p.1+d)),fw (v.args.length+d) e∧e.kind=2:=fun e he=>by
  obtain ⟨p,hp,rfl⟩:=List.mem_map.1 he
  have:=X.at_ p hp
  exact ⟨⟨rfl,rfl,fun _=>⟨by show 0≤(v.args.length:Int) - 1 - p.1+d;omega,by show (v.args.length:Int) - 1 - p.1+d<_;omega⟩,fun e=>absurd (show (2:Int)=3 from e) (by decide)⟩,rfl⟩
 have hxp:(ex.map (fun p=>sBnd ((v.args.length:Int) - 1 - p.1+d))).Pairwise (fun b u=>isF u b=false):=by
  rw [List.pairwise_map]
  refine X.inc.imp fun {p q} hpq=>?_
  rw [jl]
  right
  show (v.args.length:Int) - 1 - q.1+d≠(v.args.length:Int) - 1 - p.1+d
  omega
 have hcross:∀ z ∈ kp.2,∀ e ∈ ex.map (fun p=>sBnd ((v.args.length:Int) - 1 - p.1+d)),isF e z=false:=fun z hz e he=>by
  obtain ⟨y,hy,hp⟩:=K.from_ z hz
  obtain ⟨p,hp2,rfl⟩:=List.mem_map.1 he
  have hx:=X.at_ p hp2
  rw [jl]
  cases hp with
  |low h2 hl=>right;show (v.args.length:Int) - 1 - p.1+d≠z.n;omega
  |par h3 hl=>left;show 2≠z.kind;omega
  |seat i hi hk hn h2 h3 =>
   right
   show (v.args.length:Int) - 1 - p.1+d≠(v.args.length:Int) - 1 - i+d
   intro e
   obtain rfl:i=p.1:=by omega
   have hx3:=hx.2.2.1
   rw [Nat.sub_zero] at hx3
   rw [hx3] at hk hn
   have k3:y.kind=3:=by rw [← hk];exact hx.2.2.2.1
   rw [if_neg (by omega)] at hn
   have:=T.high y hy k3
   omega
 have hoA:∀ u ∈ kp.2++ex.map (fun p=>sBnd ((v.args.length:Int) - 1 - p.1+d)),fw (v.args.length+d) u:=fun u hu=>by
  rcases List.mem_append.1 hu with hu|hu
  ·exact (hz u hu).1
  ·exact (hxb u hu).1
 have hoP:(kp.2++ex.map (fun p=>sBnd ((v.args.length:Int) - 1 - p.1+d))).Pairwise (fun b u=>isF u b=false):=List.pairwise_append.2 ⟨KP,hxp,hcross⟩
 have hoH:∀ u ∈ kp.2++ex.map (fun p=>sBnd ((v.args.length:Int) - 1 - p.1+d)),u.kind=3→u.n<(ak s.ms v.n).level∧(ak s.ms t.n).level≤u.n:=fun u hu h3=>by
  rcases List.mem_append.1 hu with hu|hu
  ·exact (hz u hu).2 h3
  ·have:=(hxb u hu).2;omega
 have hoL:(kp.2++ex.map (fun p=>sBnd ((v.args.length:Int) - 1 - p.1+d))).length=kp.1.length+ex.length:=by rw [List.length_append,List.length_map,K.len]
 generalize kp.2++ex.map (fun p=>sBnd ((v.args.length:Int) - 1 - p.1+d))=o at *
 have tyw:=(I.val _ (jQ T.n0 T.n1)).ty
 have tyv:=(I.val _ (jQ V.n0 V.n1)).ty
 have aw8:=fT (ak s.ms t.n).type
 have harw:(nmsF (ak s.ms t.n)).length=t.args.length:=by rw [kU];exact T.ar
 split at h
 ·rename_i hc
  injection h with h
  injection h with e1 e2
  subst e1;subst e2
  simp only [Bool.and_eq_true,beq_iff_eq,decide_eq_true_eq] at hc
  have hx0:ex=[]:=by
   cases ex with
   |nil=>rfl
   |cons p ps=>have:=X.at_ p List.mem_cons_self;omega
  subst hx0
  simp only [List.length_nil,Nat.add_zero] at hoL
  have hal:aX (ak s.ms t.n).type=o.length:=by rw [hoL,T.ar];omega
  refine ⟨⟨I,ExtS.refl _,vu,pG T.n0 T.n1 hal hoA (fun u hu h3=>(hoH u hu h3).2) hoP,rW hc.2 (fun u hu=>⟨(hoA u hu).1,fun h3=>(hoH u hu h3).1⟩),?_,fun k hk=>hk,?_,Int.le_refl _⟩,rfl⟩
  ·intro k hk
   rw [jN (t:=sVar t.n o) rfl,List.mem_singleton] at hk
   subst hk
   exact ⟨T.n0,CR hneN tu⟩
  ·rw [rV (fun u hu=>(hoA u hu).1)];omega
 ·split at h
  ·cases h
  rename_i h8
  simp only [decide_eq_true_eq] at h8
  obtain ⟨⟨s1,m⟩,hfr,h⟩:=bind_ok h
  obtain ⟨hlt,e1,e2⟩:=jS hfr
  subst e1;subst e2
  simp only at h
  injection h with h
  injection h with e1 e2
  subst e1;subst e2
  have nbw:=wU tyw
  have nbv:=wU tyv
  have lw:=uQ tyw
  have lv:=uQ tyv
  have hkw:∀ k ∈ kp.1,k<(nmsF (ak s.ms t.n)).length:=fun k hk=>by have:=K.ix k hk;omega
  have hkv:∀ k ∈ ex.map (·.1),k<(nmsF (ak s.ms v.n)).length:=fun k hk=>by
   obtain ⟨p,hp,rfl⟩:=List.mem_map.1 hk
   have:=X.at_ p hp
   rw [kU,V.ar];omega
  have hnb:∀ a ∈ aU (nmsF (ak s.ms t.n)) kp.1++aU (nmsF (ak s.ms v.n)) (ex.map (·.1)),bP ⟨a,[]⟩=true:=fun a ha=>by
   rcases List.mem_append.1 ha with ha|ha
   ·exact pU nbw.1 hkw a ha
   ·exact pU nbv.1 hkv a ha
  have hnl:(aU (nmsF (ak s.ms t.n)) kp.1++aU (nmsF (ak s.ms v.n)) (ex.map (·.1))).length=kp.1.length+ex.length:=by simp [aU]
  obtain ⟨hty,har⟩:=Hu (lv:=min (ak s.ms t.n).level (ak s.ms v.n).level) hnb nbw.2 (by rw [hnl];omega) (by omega) (by omega)
  rw [hnl] at har
  have I1:=Ey I hlt hty
  have E1:=vG s.ms (lK (min (ak s.ms t.n).level (ak s.ms v.n).level) (bK (aU (nmsF (ak s.ms t.n)) kp.1++aU (nmsF (ak s.ms v.n)) (ex.map (·.1))) (bU (ak s.ms t.n).type)))
  generalize hNew:lK (min (ak s.ms t.n).level (ak s.ms v.n).level) (bK (aU (nmsF (ak s.ms t.n)) kp.1++aU (nmsF (ak s.ms v.n)) (ex.map (·.1))) (bU (ak s.ms t.n).type))=new at *
  have nlev:new.level=min (ak s.ms t.n).level (ak s.ms v.n).level:=by rw [← hNew];rfl
  have ntyp:aX new.type=kp.1.length+ex.length:=by rw [← hNew];exact har
  have nis:new.is=false:=by rw [← hNew];rfl
  have hm:ak (s.ms++[new]) (s.ms.length:Int)=new:=oC _ _
  have hT:ak (s.ms++[new]) t.n=ak s.ms t.n:=jc T.n0 T.n1
  have hV:ak (s.ms++[new]) v.n=ak s.ms v.n:=jc V.n0 V.n1
  have hml:(s.ms++[new]).length=s.ms.length+1:=by simp
  have hba:=zb (n:=(nmsF (ak s.ms t.n)).length) (keep:=kp.1) hkw
  have hxA:∀ u ∈ ex.map (·.2),u.kind=3∧u.n<(ak s.ms t.n).level∧(ak s.ms v.n).level≤u.n∧∀ x:Int,fw x u:=fun u hu=>by
   obtain ⟨p,hp,rfl⟩:=List.mem_map.1 hu
   obtain ⟨a1,a2,a3,a4,a5,a6⟩:=X.at_ p hp
   rw [Nat.sub_zero] at a3
   have hmem:p.2 ∈ v.args:=by rw [← a3];exact bG (by omega)
   have:=V.args _ hmem
   exact ⟨a4,a5,a6,fun x=>⟨this.1,this.2.1,fun e=>by omega,this.2.2.2⟩⟩
  have hiA:∀ u ∈ bR (nmsF (ak s.ms t.n)).length kp.1++ex.map (·.2),fw (nmsF (ak s.ms t.n)).length u:=fun u hu=>by
   rcases List.mem_append.1 hu with hu|hu
   ·exact hba u hu
   ·exact (hxA u hu).2.2.2 _
  have hb2:∀ u ∈ bR (nmsF (ak s.ms t.n)).length kp.1,u.kind=2:=fun u hu=>by
   obtain ⟨k,_,rfl⟩:=List.mem_map.1 hu;rfl
  have hiH:∀ u ∈ bR (nmsF (ak s.ms t.n)).length kp.1++ex.map (·.2),u.kind=3→u.n<(ak s.ms t.n).level∧(ak s.ms v.n).level≤u.n:=fun u hu h3=>by
   rcases List.mem_append.1 hu with hu|hu
   ·have:=hb2 u hu;omega
   ·exact ⟨(hxA u hu).2.1,(hxA u hu).2.2.1⟩
  have hiP:(bR (nmsF (ak s.ms t.n)).length kp.1++ex.map (·.2)).Pairwise (fun b u=>isF u b=false):=by
   refine List.pairwise_append.2 ⟨pu K.inc,?_,fun b hb u hu=>?_⟩
   ·rw [List.pairwise_map]
    refine X.inc.imp_of_mem fun {p q} hp hq hpq=>?_
    obtain ⟨a1,a2,a3,_⟩:=X.at_ p hp
    obtain ⟨b1,b2,b3,_⟩:=X.at_ q hq
    rw [Nat.sub_zero] at a3 b3
    rw [← a3,← b3]
    exact wS V.pair (by omega) (by omega) (by omega)
   ·rw [jl]
    left
    rw [(hxA u hu).1,hb2 b hb];decide
  have hiL:(bR (nmsF (ak s.ms t.n)).length kp.1++ex.map (·.2)).length=kp.1.length+ex.length:=by simp [bR]
  generalize bR (nmsF (ak s.ms t.n)).length kp.1++ex.map (·.2)=ins at *
  have fin:aK (s.ms++[new]) (sVar (s.ms.length:Int) ins) (aX (ak (s.ms++[new]) t.n).type)=true:=by
   rw [hT,← kU]
   exact pG (by omega) (by rw [hml];omega) (by rw [hm,ntyp,hiL]) hiA (fun u hu h3=>by have:=(hiH u hu h3).2;rw [hm,nlev];omega) hiP
  have sin:gG (s.ms++[new]) (ak (s.ms++[new]) t.n).level (sVar (s.ms.length:Int) ins)=true:=by
   rw [hT]
   exact rW (by rw [hm,nlev];omega) (fun u hu=>⟨(hiA u hu).1,fun h3=>(hiH u hu h3).1⟩)
  have gnew:(s.ms++[new]).getD s.ms.length noVa=new:=by rw [jL,if_pos rfl]
  have hT0:=T.n0
  have hT1:=T.n1
  have hV0:=V.n0
  have hV1:=V.n1
  have ain:AvT (s.ms++[new]) t.n.toNat (sVar (s.ms.length:Int) ins):=by
   intro k hk
   rw [jN (t:=sVar (s.ms.length:Int) ins) rfl,List.mem_singleton] at hk
   subst hk
   refine ⟨by show (0:Int)≤(s.ms.length:Int);omega,?_⟩
   show Av (s.ms++[new]) t.n.toNat ((s.ms.length:Int)).toNat
   rw [Int.toNat_natCast]
   exact CR (by omega) (by rw [gnew];exact nis)
  obtain ⟨I2,E2⟩:=Co (s:=⟨s.ms++[new],s.wk⟩) I1 (n:=t.n) (b:=sVar (s.ms.length:Int) ins) hT0 (by rw [hml];omega) (by rw [hT];exact tu) fin sin (show (4:Int)≠5 by decide) (by rw [rV (fun u hu=>(hiA u hu).1)];omega) ain
  have avm:Av (kr ⟨s.ms++[new],s.wk⟩ t.n (sVar (s.ms.length:Int) ins)).ms v.n.toNat s.ms.length:=by
   refine CR (by omega) ?_
   show (((s.ms++[new]).set t.n.toNat _).getD _ _).is=false
   rw [nM,if_neg (by omega),gnew];exact nis
  refine ⟨⟨I2,E1.trans E2,?_,?_,?_,?_,fun k hk=>?_,?_,Int.le_refl _⟩,rfl⟩
  ·show (ak ((s.ms++[new]).set t.n.toNat _) v.n).is=false
   rw [oz (by omega),hV];exact vu
  ·exact bH E2 _ _ (pG (by omega) (by rw [hml];omega) (by rw [hm,ntyp,hoL]) hoA (fun u hu h3=>by have:=(hoH u hu h3).2;rw [hm,nlev];omega) hoP)
  ·refine pK E2 _ (v.args.length+d) (pG (by omega) (by rw [hml];omega) (by rw [hm,ntyp,hoL]) hoA (fun u hu h3=>by have:=(hoH u hu h3).2;rw [hm,nlev];omega) hoP) (rW (by rw [hm,nlev];omega) (fun u hu=>⟨(hoA u hu).1,fun h3=>(hoH u hu h3).1⟩))
  ·intro k hk
   rw [jN (t:=sVar (s.ms.length:Int) o) rfl,List.mem_singleton] at hk
   subst hk
   exact ⟨by show (0:Int)≤(s.ms.length:Int);omega,by rw [show (sVar (s.ms.length:Int) o).n.toNat=s.ms.length from Int.toNat_natCast _];exact avm⟩
  ·refine XA hneN (by rw [hml];omega) (fun j hj=>?_) (Ov nis hk)
   have hj':(j:Int) ∈ bQ (fE (aX (ak (s.ms++[new]) t.n).type) (sVar (s.ms.length:Int) ins)):=hj
   rw [rH,jN (t:=sVar (s.ms.length:Int) ins) rfl,List.mem_singleton] at hj'
   obtain rfl:j=s.ms.length:=by have:(j:Int)=(s.ms.length:Int):=hj';omega
   exact avm
  ·rw [rV (fun u hu=>(hoA u hu).1)]
   show ((o.length+1:Nat):Int)≤9 * (s.wk - s.wk)+9
   omega
theorem iZ.ext {ms ms':List Va} {v:Term} {D:Int} (V:iZ ms v D) (e:ExtS ms ms'):iZ ms' v D:=by
 have hl:=e.len
 have h0:=V.n0
 have h1:=V.n1
 refine ⟨h0,by omega,V.args,fun u hu h3=>?_,V.pair,?_⟩
 ·rw [e.lev _ h0 h1];exact V.high u hu h3
 ·rw [e.typ _ h0 h1];exact V.ar
theorem nW {s s':Sv} {deep:Int} (h:kG s deep=.ok s'):s'=⟨s.ms,s.wk+1⟩∧s.wk+1≤40000∧deep≤400:=by
 unfold kG at h
 split at h
 ·cases h
 ·rename_i h1
  split at h
  ·cases h
  ·rename_i h2
   injection h with h
   simp only [decide_eq_true_eq] at h1 h2
   exact ⟨h.symm,by omega,by omega⟩
theorem SE {s s':Sv} {v t out:Term} {d:Int} (h:nC s v t d=.ok (s',out)):s'.wk=s.wk:=by
 unfold nC at h
 split at h
 ·cases h
 dsimp only at h
 split at h
 ·injection h with h;injection h with e1 _;rw [← e1]
 ·split at h
  ·cases h
  ·obtain ⟨⟨s1,m⟩,hfr,h⟩:=bind_ok h
   obtain ⟨_,e1,_⟩:=jS hfr
   subst e1
   injection h with h;injection h with e1 _;rw [← e1];rfl
structure MapOk (s s':Sv) (v:Term) (d:Int) (l outs:List Term):Prop where
 inv:Inv s'.ms
 ext:ExtS s.ms s'.ms
 free:(ak s'.ms v.n).is=false
 fits:∀ u ∈ outs,aK s'.ms u (v.args.length+d)=true
 sees:∀ u ∈ outs,gG s'.ms (ak s.ms v.n).level u=true
 av:∀ u ∈ outs,AvT s'.ms v.n.toNat u
 mono:∀ k,Av s.ms v.n.toNat k→Av s'.ms v.n.toNat k
 size:(sizes outs:Int)≤9 * (s'.wk - s.wk)
 wk:s.wk≤s'.wk∧s'.wk≤40000
 len:outs.length=l.length
theorem map_ok {g:Sv→Term→Rz (Sv × Term)} {v:Term} {D d:Int}
  (hg:∀ (s:Sv) (t:Term) (s':Sv) (out:Term),Inv s.ms→s.wk≤40000→iZ s.ms v D→(ak s.ms v.n).is=false→aK s.ms t (D+d)=true→g s t=.ok (s',out)→OG 0 s s' v d out∧s'.wk≤40000) :
  ∀ (l:List Term) (s s':Sv) (outs:List Term),Inv s.ms→s.wk≤40000→iZ s.ms v D→(ak s.ms v.n).is=false→(∀ t ∈ l,aK s.ms t (D+d)=true)→mapS g s l=.ok (s',outs)→MapOk s s' v d l outs
 |[],s,s',outs,I,hw,V,vu,hf,h=>by
  rw [mapS] at h
  injection h with h;injection h with e1 e2
  subst e1;subst e2
  exact ⟨I,ExtS.refl _,vu,fun u hu=>absurd hu List.not_mem_nil,fun u hu=>absurd hu List.not_mem_nil,fun u hu=>absurd hu List.not_mem_nil,fun k hk=>hk,by rw [sizes];omega,⟨Int.le_refl _,hw⟩,rfl⟩
 |t::l,s,s',outs,I,hw,V,vu,hf,h=>by
  rw [mapS] at h
  obtain ⟨⟨s1,x⟩,h1,h⟩:=bind_ok h
  obtain ⟨⟨s2,xs⟩,h2,h⟩:=bind_ok h
  injection h with h;injection h with e1 e2
  subst e1;subst e2
  obtain ⟨T,hw1⟩:=hg s t s1 x I hw V vu (hf t List.mem_cons_self) h1
  have M:=map_ok hg l s1 s2 xs T.inv hw1 (V.ext T.ext) T.free (fun u hu=>bH T.ext _ _ (hf u (List.mem_cons_of_mem _ hu))) h2
  have hlev:=T.ext.lev v.n V.n0 V.n1
  have t1:=T.size
  have t2:=M.size
  have t3:=T.wk
  have t4:=M.wk
  refine ⟨M.inv,T.ext.trans M.ext,M.free,fun u hu=>?_,fun u hu=>?_,fun u hu=>?_,fun k hk=>M.mono k (T.mono k hk),?_,⟨by show s.wk≤s2.wk;omega,t4.2⟩,by rw [List.length_cons,List.length_cons,M.len]⟩
  ·rcases List.mem_cons.1 hu with rfl|hu
   ·exact bH M.ext _ _ T.fits
   ·exact M.fits u hu
  ·rcases List.mem_cons.1 hu with rfl|hu
   ·exact pK M.ext _ _ T.fits T.sees
   ·have:=M.sees u hu;rw [hlev] at this;exact this
  ·rcases List.mem_cons.1 hu with rfl|hu
   ·exact fun k hk=>⟨(T.av k hk).1,M.mono _ (T.av k hk).2⟩
   ·exact M.av u hu
  ·show ((sizes (x::xs):Nat):Int)≤9 * (s2.wk - s.wk)
   rw [sizes];omega
theorem dK {ms:List Va} (I:Inv ms) {t:Term} {d:Int} (hd:0≤d) (hf:aK ms t d=true):aK ms (gK ms t) d=true∧(((gK ms t).kind==4)=true→(ak ms (gK ms t).n).is=false)∧((gK ms t).size≤t.size∨(gK ms t).size≤400000)∧∃ k,rU ms k t (gK ms t):=by
 obtain ⟨k,h⟩:=IR I hd hf
 refine ⟨h.fits,fun h4=>?_,h.size,k,h.hs⟩
 have:=h.flex
 rw [h4,Bool.true_and] at this
 exact this
theorem GR {k n:Int} {s:ByteArray} {l:List Term} (h:k≠4):bQ ⟨k,n,s,l⟩=di l:=by
 rw [bQ,if_neg (by simpa using h)]
theorem yS:∀ (l:List Term) (k:Int),k ∈ di l→∃ u ∈ l,k ∈ bQ u
 |[],k,h=>by rw [di] at h;exact absurd h List.not_mem_nil
 |t::l,k,h=>by
  rw [di] at h
  rcases List.mem_append.1 h with h|h
  ·exact ⟨t,List.mem_cons_self,h⟩
  ·obtain ⟨u,hu,hk⟩:=yS l k h
   exact ⟨u,List.mem_cons_of_mem _ hu,hk⟩
theorem jC {v:Term} {D:Int} (hD:0≤D):∀ (f:Nat) (s:Sv) (t:Term) (d deep:Int) (s':Sv) (out:Term),Inv s.ms→0≤d→iZ s.ms v D→(ak s.ms v.n).is=false→aK s.ms t (D+d)=true→lJ f s v t d deep=.ok (s',out) →
  OG 0 s s' v d out∧s'.wk≤40000∧(out.kind=5→(gK s.ms t).kind=5):=by
 intro f
 induction f with
 |zero=>intro s t d deep s' out _ _ _ _ _ h;rw [lJ] at h;cases h
 |succ f ih =>
  intro s t d deep s' out I hd V vu hf h
  rw [lJ] at h
  obtain ⟨s1,hc,h⟩:=bind_ok h
  obtain ⟨e1,hw,_⟩:=nW hc
  subst e1
  dsimp only at h
  obtain ⟨hfu,hflex,_,_⟩:=dK I (by omega:0≤D+d) hf
  generalize gK s.ms t=u at *
  generalize hoe:(if bY u.kind=true then bX (ak s.ms v.n).level v.args ⟨u.kind,u.n,aB,[]⟩ d else (⟨u.kind,u.n,u.name,[]⟩,true))=o at h
  split at h
  ·rename_i h4
   obtain ⟨T,hk⟩:=FX (s:=⟨s.ms,s.wk+1⟩) I hd V vu (dG hfu h4) (hflex h4) h
   have hwk:=SE h
   refine ⟨⟨T.inv,T.ext,T.free,T.fits,T.sees,T.av,T.mono,?_,?_⟩,?_,fun e=>by omega⟩
   ·have:=T.size;simp only at this hwk;omega
   ·simp only at hwk;omega
   ·simp only at hwk;omega
  ·rename_i h4
   have n4:u.kind≠4:=by simpa using h4
   split at h
   case isFalse=>cases h
   rename_i ho
   obtain ⟨⟨s2,outs⟩,hm,h⟩:=bind_ok h
   injection h with h;injection h with e1 e2
   have hfu':=hfu
   rw [cO,Bool.and_eq_true] at hfu'
   have hin:inner u.kind (D+d)=D+inner u.kind d:=by unfold inner;split <;> omega
   have hin0:0≤inner u.kind d:=cz hd
   rw [hin] at hfu'
   have M:=map_ok (D:=D) (d:=inner u.kind d) (fun s t s' out I hw V vu hf h=>⟨(ih s t _ _ s' out I hin0 V vu hf h).1,(ih s t _ _ s' out I hin0 V vu hf h).2.1⟩) u.args ⟨s.ms,s.wk+1⟩ s2 outs I hw V vu ((bT _ _ _).1 hfu'.2) hm
   simp only at e1 e2
   subst e1
   have m1:=M.size
   have m2:=M.wk
   have h8:=lU hfu
   have hlen:=M.len
   simp only at m1 m2
   have hhead:∃ k n nm,out=⟨k,n,nm,outs⟩∧bg s2.ms k n nm outs (v.args.length+d)=true∧inner k ((v.args.length:Int)+d)=v.args.length+inner u.kind d∧(k=3→n<(ak s.ms v.n).level)∧k≠4∧(k=5→u.kind=5):=by
    cases hvp:bY u.kind
    ·rw [hvp] at hoe
     simp only [Bool.false_eq_true,if_false] at hoe
     subst hoe
     simp only at e2
     unfold bY at hvp
     rw [Bool.or_eq_false_iff] at hvp
     have n2:u.kind≠2:=by simpa using hvp.1
     have n3:u.kind≠3:=by simpa using hvp.2
     refine ⟨u.kind,u.n,u.name,e2.symm,?_,by unfold inner;split <;> omega,fun e=>absurd e n3,n4,fun e=>e⟩
     have h1:=hfu'.1
     unfold bg aY at h1 ⊢
     rw [hlen]
     simp [n2,n3,n4] at h1 ⊢
     exact h1
    ·rw [hvp] at hoe
     simp only [if_true] at hoe
     subst hoe
     have hk:u.kind=2∨u.kind=3:=by
      unfold bY at hvp
      simpa using hvp
     have hA:fw (D+d) ⟨u.kind,u.n,aB,[]⟩:=by
      refine ⟨?_,rfl,fun e=>(show 0≤u.n∧u.n<D+d from gV hfu e),fun e=>?_⟩
      ·unfold bF;rcases hk with e|e <;> · rw [e];rfl
      ·have h1:=hfu'.1
       have e':u.kind=3:=e
       unfold bg aY at h1
       rw [e'] at h1
       simp at h1
       show 0≤u.n∧u.n<60
       omega
     have P:=iP (y:=⟨u.kind,u.n,aB,[]⟩) hk ho
     obtain ⟨hz1,hz2⟩:=P.ok (D:=D) hd hA
     generalize (bX (ak s.ms v.n).level v.args ⟨u.kind,u.n,aB,[]⟩ d).1=z at *
     have kz:=(aS hz1.1).1
     refine ⟨z.kind,z.n,z.name,e2.symm,CS hz1 outs (by omega),?_,fun e=>(hz2 e).1,by omega,fun e=>by omega⟩
     unfold inner
     rw [if_neg (by simp;omega),if_neg (by simp;omega)]
   obtain ⟨k,n,nm,rfl,hh1,hh2,hh3,hh4,hh5⟩:=hhead
   refine ⟨⟨M.inv,M.ext,M.free,?_,?_,?_,M.mono,?_,by omega⟩,by omega,hh5⟩
   ·rw [aK,Bool.and_eq_true]
    refine ⟨hh1,(bT _ _ _).2 fun w hw=>?_⟩
    rw [hh2];exact M.fits w hw
   ·rw [gG,Bool.and_eq_true]
    refine ⟨?_,(oG _ _ _).2 M.sees⟩
    unfold iB
    by_cases e3:k=3
    ·have:=hh3 e3;subst e3;simp;omega
    ·simp [e3,hh4]
   ·intro j hj
    rw [GR hh4] at hj
    obtain ⟨w,hw,hj⟩:=yS _ _ hj
    exact M.av w hw j hj
   ·rw [Term.size];omega
structure nY (s s':Sv):Prop where
 inv:Inv s'.ms
 ext:ExtS s.ms s'.ms
theorem nY.of {s s1 s':Sv} (S:nY s1 s') (e:s1.ms=s.ms):nY s s':=⟨S.inv,by rw [← e];exact S.ext⟩
theorem MK {s s':Sv} (I:Inv s.ms) {n:Int} {keep:List Nat} (h0:0≤n) (h1:n<(s.ms.length:Int)) (hu:(ak s.ms n).is=false) (hk:∀ k ∈ keep,k<aX (ak s.ms n).type) (hp:keep.Pairwise (·<·)) (h8:keep.length≤8) (h:jh s n keep=.ok s'):nY s s':=by
 unfold jh at h
 dsimp only at h
 obtain ⟨⟨s1,m⟩,hfr,h⟩:=bind_ok h
 obtain ⟨hlt,e1,e2⟩:=jS hfr
 subst e1;subst e2
 simp only at h
 injection h with h
 subst h
 have tyv:=(I.val _ (jQ h0 h1)).ty
 have nb:=wU tyv
 have lv:=uQ tyv
 have hnl:(aU (nmsF (ak s.ms n)) keep).length=keep.length:=by simp [aU]
 obtain ⟨hty,har⟩:=Hu (lv:=(ak s.ms n).level) (pU nb.1 hk) nb.2 (by omega) lv.2.1 lv.2.2
 rw [hnl] at har
 have I1:=Ey I hlt hty
 have E1:=vG s.ms (lK (ak s.ms n).level (bK (aU (nmsF (ak s.ms n)) keep) (bU (ak s.ms n).type)))
 generalize hNew:lK (ak s.ms n).level (bK (aU (nmsF (ak s.ms n)) keep) (bU (ak s.ms n).type))=new at *
 have nlev:new.level=(ak s.ms n).level:=by rw [← hNew];rfl
 have ntyp:aX new.type=keep.length:=by rw [← hNew];exact har
 have nis:new.is=false:=by rw [← hNew];rfl
 have hm:ak (s.ms++[new]) (s.ms.length:Int)=new:=oC _ _
 have hT:ak (s.ms++[new]) n=ak s.ms n:=jc h0 h1
 have hml:(s.ms++[new]).length=s.ms.length+1:=by simp
 have hba:=zb (n:=(nmsF (ak s.ms n)).length) (keep:=keep) hk
 have hb2:∀ u ∈ bR (nmsF (ak s.ms n)).length keep,u.kind=2:=fun u hu=>by
  obtain ⟨k,_,rfl⟩:=List.mem_map.1 hu;rfl
 have hbl:(bR (nmsF (ak s.ms n)).length keep).length=keep.length:=by simp [bR]
 have hbp:=pu (n:=(nmsF (ak s.ms n)).length) hp
 generalize bR (nmsF (ak s.ms n)).length keep=ins at *
 have gnew:(s.ms++[new]).getD s.ms.length noVa=new:=by rw [jL,if_pos rfl]
 obtain ⟨I2,E2⟩:=Co (s:=⟨s.ms++[new],s.wk⟩) I1 (n:=n) (b:=sVar (s.ms.length:Int) ins) h0 (by rw [hml];omega) (by rw [hT];exact hu)
  (by rw [hT,← kU];exact pG (by omega) (by rw [hml];omega) (by rw [hm,ntyp,hbl]) hba (fun u hu h3=>by have:=hb2 u hu;omega) hbp)
  (by rw [hT];exact rW (by rw [hm,nlev];omega) (fun u hu=>⟨(hba u hu).1,fun h3=>by have:=hb2 u hu;omega⟩))
  (show (4:Int)≠5 by decide) (by rw [rV (fun u hu=>(hba u hu).1)];omega) (fun k hk=>by
   rw [jN (t:=sVar (s.ms.length:Int) ins) rfl,List.mem_singleton] at hk
   subst hk
   refine ⟨by show (0:Int)≤(s.ms.length:Int);omega,?_⟩
   show Av (s.ms++[new]) n.toNat ((s.ms.length:Int)).toNat
   rw [Int.toNat_natCast]
   exact CR (by omega) (by rw [gnew];exact nis))
 exact ⟨I2,E1.trans E2⟩
theorem qQ:∀ (l m:List Term) (i:Nat),(∀ k ∈ fe l m i,i≤k∧k<i+l.length)∧(fe l m i).Pairwise (·<·)∧(fe l m i).length≤l.length
 |[],m,i=>by unfold fe;exact ⟨fun k hk=>absurd hk List.not_mem_nil,List.Pairwise.nil,Nat.le_refl _⟩
 |a::l,[],i=>by unfold fe;exact ⟨fun k hk=>absurd hk List.not_mem_nil,List.Pairwise.nil,Nat.zero_le _⟩
 |a::l,b::m,i=>by
  obtain ⟨h1,h2,h3⟩:=qQ l m (i+1)
  rw [fe]
  split
  ·refine ⟨fun k hk=>?_,List.pairwise_cons.2 ⟨fun k hk=>(h1 k hk).1,h2⟩,by simpa using h3⟩
   rw [List.length_cons]
   rcases List.mem_cons.1 hk with rfl|hk
   ·omega
   ·have:=h1 k hk;omega
  ·refine ⟨fun k hk=>?_,h2,Nat.le_succ_of_le h3⟩
   have:=h1 k hk;rw [List.length_cons];omega
theorem CX {s s':Sv} (I:Inv s.ms) {a b:Term} {D:Int} (A:iZ s.ms a D) (hu:(ak s.ms a.n).is=false) (h:jA s a b=.ok s'):nY s s':=by
 unfold jA at h
 split at h
 ·obtain ⟨h1,h2,h3⟩:=qQ a.args b.args 0
  have h8:=fT (ak s.ms a.n).type
  have har:=A.ar
  exact MK I A.n0 A.n1 hu (fun k hk=>by have:=h1 k hk;omega) h2 (by omega) h
 ·injection h with h;subst h;exact ⟨I,ExtS.refl _⟩
theorem zf {s s':Sv} (I:Inv s.ms) {v t:Term} {D:Int} (hD:0≤D) (hw0:0≤s.wk) (V:iZ s.ms v D) (vu:(ak s.ms v.n).is=false) (hf:aK s.ms t D=true) (hflex:((t.kind==4)=true→(ak s.ms t.n).is=false)) (h:gQ s v t=.ok s'):nY s s':=by
 unfold gQ at h
 split at h
 ·cases h
 rename_i h5
 obtain ⟨⟨s1,b⟩,ht,h⟩:=bind_ok h
 injection h with h
 subst h
 have hh:gK s.ms t=t:=head_eq (.done (by
  cases h4:(t.kind==4)
  ·rfl
  ·rw [hflex h4];rfl))
 obtain ⟨T,hw,hk⟩:=jC hD 402 s t 0 0 s1 b I (Int.le_refl _) V vu (by rw [Int.add_zero];exact hf) ht
 rw [hh] at hk
 have h0:=V.n0
 have h1:=V.n1
 have hl:=T.ext.len
 have hsz:=T.size
 have hty:=T.ext.typ _ h0 h1
 have hlv:=T.ext.lev _ h0 h1
 have hfit:=T.fits
 rw [Int.add_zero] at hfit
 have hse:=T.sees
 obtain ⟨I2,E2⟩:=Co (s:=s1) T.inv (n:=v.n) (b:=b) h0 (by omega) T.free (by rw [hty,V.ar];exact hfit) (by rw [hlv];exact hse) (fun e=>by have:=hk e;simp at h5;exact h5 this) (by omega) T.av
 exact ⟨I2,T.ext.trans E2⟩
theorem GQ {g:Sv→Term→Term→Rz Sv} {d:Int} (hg:∀ (s:Sv) (a b:Term) (s':Sv),Inv s.ms→0≤s.wk→aK s.ms a d=true→aK s.ms b d=true→g s a b=.ok s'→nY s s'∧0≤s'.wk) :
  ∀ (l m:List Term) (s s':Sv),Inv s.ms→0≤s.wk→(∀ t ∈ l,aK s.ms t d=true)→(∀ t ∈ m,aK s.ms t d=true)→lL g s l m=.ok s'→nY s s'∧0≤s'.wk
 |a::l,b::m,s,s',I,hw,hl,hm,h=>by
  rw [lL] at h
  obtain ⟨s1,h1,h⟩:=bind_ok h
  obtain ⟨S,hw1⟩:=hg s a b s1 I hw (hl a List.mem_cons_self) (hm b List.mem_cons_self) h1
  obtain ⟨S2,hw2⟩:=GQ hg l m s1 s' S.inv hw1 (fun t ht=>bH S.ext _ _ (hl t (List.mem_cons_of_mem _ ht))) (fun t ht=>bH S.ext _ _ (hm t (List.mem_cons_of_mem _ ht))) h
  exact ⟨⟨S2.inv,S.ext.trans S2.ext⟩,hw2⟩
 |[],m,s,s',I,hw,hl,hm,h=>by
  unfold lL at h
  injection h with h;subst h;exact ⟨⟨I,ExtS.refl _⟩,hw⟩
 |a::l,[],s,s',I,hw,hl,hm,h=>by
  unfold lL at h
  injection h with h;subst h;exact ⟨⟨I,ExtS.refl _⟩,hw⟩
theorem Ed {s s':Sv} {n:Int} {keep:List Nat} (h:jh s n keep=.ok s'):s'.wk=s.wk:=by
 unfold jh at h
 dsimp only at h
 obtain ⟨⟨s1,m⟩,hfr,h⟩:=bind_ok h
 obtain ⟨_,e1,_⟩:=jS hfr
 subst e1
 injection h with h;subst h;rfl
theorem nk:∀ (f:Nat) (s:Sv) (a b:Term) (d deep:Int) (s':Sv),Inv s.ms→0≤s.wk→0≤d→aK s.ms a d=true→aK s.ms b d=true→eG f s a b deep=.ok s'→nY s s'∧0≤s'.wk:=by
 intro f
 induction f with
 |zero=>intro s a b d deep s' _ _ _ _ _ h;rw [eG] at h;cases h
 |succ f ih =>
  intro s a b d deep s' I hw hd ha hb h
  rw [eG] at h
  obtain ⟨s1,hc,h⟩:=bind_ok h
  obtain ⟨e1,hw1,_⟩:=nW hc
  subst e1
  dsimp only at h
  obtain ⟨hfa,hxa,_,_⟩:=dK I hd ha
  obtain ⟨hfb,hxb,_,_⟩:=dK I hd hb
  generalize gK s.ms a=a at *
  generalize gK s.ms b=b at *
  split at h
  ·rename_i hc
   simp only [Bool.and_eq_true] at hc
   refine ⟨(CX (s:=⟨s.ms,s.wk+1⟩) I (dG hfa hc.1) (hxa hc.1) h).of rfl,?_⟩
   unfold jA at h
   split at h
   ·have:=Ed h;simp only at this;omega
   ·injection h with h;subst h;simp only;omega
  ·split at h
   ·rename_i h4
    refine ⟨(zf (s:=⟨s.ms,s.wk+1⟩) I hd (by show 0≤s.wk+1;omega) (dG hfa h4) (hxa h4) hfb hxb h).of rfl,?_⟩
    unfold gQ at h
    split at h
    ·cases h
    obtain ⟨⟨s1,x⟩,ht,h⟩:=bind_ok h
    injection h with h
    subst h
    have T:=(jC hd 402 ⟨s.ms,s.wk+1⟩ b 0 0 s1 x I (Int.le_refl _) (dG hfa h4) (hxa h4) (by rw [Int.add_zero];exact hfb) ht).1
    have:=T.wk
    simp only at this
    show 0≤s1.wk
    omega
   ·split at h
    ·rename_i h4
     refine ⟨(zf (s:=⟨s.ms,s.wk+1⟩) I hd (by show 0≤s.wk+1;omega) (dG hfb h4) (hxb h4) hfa hxa h).of rfl,?_⟩
     unfold gQ at h
     split at h
     ·cases h
     obtain ⟨⟨s1,x⟩,ht,h⟩:=bind_ok h
     injection h with h
     subst h
     have T:=(jC hd 402 ⟨s.ms,s.wk+1⟩ a 0 0 s1 x I (Int.le_refl _) (dG hfb h4) (hxb h4) (by rw [Int.add_zero];exact hfa) ht).1
     have:=T.wk
     simp only at this
     show 0≤s1.wk
     omega
    ·split at h
     ·cases h
     rename_i hu
     have hkk:a.kind=b.kind:=by
      unfold kD at hu
      simp at hu
      exact hu.1
     have ga:=hfa
     have gb:=hfb
     rw [cO,Bool.and_eq_true] at ga gb
     rw [← hkk] at gb
     have E:=GQ (d:=inner a.kind d) (fun s a b s' I hw ha hb h=>ih s a b _ _ s' I hw (cz hd) ha hb h) a.args b.args ⟨s.ms,s.wk+1⟩ s' I (by show 0≤s.wk+1;omega) ((bT _ _ _).1 ga.2) ((bT _ _ _).1 gb.2) h
     exact ⟨E.1.of rfl,E.2⟩
theorem Ff {t:Ty} (h:bP t=true):t.size=1:=by
 unfold bP at h
 simp only [Bool.and_eq_true,beq_iff_eq] at h
 obtain ⟨n,l⟩:=t
 have:l=[]:=List.eq_nil_of_length_eq_zero (by have:=h.1.1.1;simp only at this;omega)
 subst this
 rw [Ty.size,oF]
theorem Ow:∀ (s:Nat) (t:Ty) (out l:List ByteArray),t.size≤s→out.length≤8→iW t out=some l→t.size≤2 * (8 - out.length)+1:=by
 intro s
 induction s with
 |zero=>intro t out l ht;obtain ⟨a,b⟩:=t;rw [Ty.size] at ht;omega
 |succ s ih =>
  intro t out l ht ho hg
  cases h:(jm t.name&&(t.args.length:Int)==2)
  ·rw [ig out h,jr] at hg
   split at hg
   ·rename_i hb
    have:=Ff hb;omega
   ·cases hg
  ·rw [Bool.and_eq_true] at h
   obtain ⟨a,b,hab,he,hlt⟩:=mV out h.1 h.2
   rw [he] at hg
   split at hg
   ·cases hg
   ·rename_i hn
    simp only [Bool.or_eq_true,not_or,Bool.not_eq_true',Bool.not_eq_false,beq_iff_eq] at hn
    have h8:out.length<8:=by
     have:=hn.2
     omega
    have h1:=ih b (out++[a.name]) l (by omega) (by simp;omega) hg
    have h2:=Ff hn.1
    obtain ⟨n,m⟩:=t
    simp only at hab
    subst hab
    rw [Ty.size,oF,oF,oF,h2]
    simp only [List.length_append,List.length_singleton] at h1
    omega
theorem Dt {t:Ty} (h:(fU t).isSome=true):t.size≤17:=by
 cases ha:fU t with
 |none=>rw [ha] at h;cases h
 |some l =>
  have:=Ow t.size t [] l (Nat.le_refl _) (by decide) ha
  simp only [List.length_nil] at this
  omega
theorem KZ {t:Term} (h:vD t=true):t.size=1:=by
 unfold vD at h
 simp only [Bool.and_eq_true,beq_iff_eq] at h
 obtain ⟨k,n,s,l⟩:=t
 have:l=[]:=List.eq_nil_of_length_eq_zero (by have:=h.2;simp only at this;omega)
 subst this
 rw [Term.size,sizes]
theorem yZ {vs:List Va} (h:(bi vs==0)=true):∀ v ∈ vs,v.type.size≤1000000000∧v.t.size≤1000000000:=by
 have h0:bi vs=0:=by simpa using h
 unfold bi at h0
 split at h0
 ·cases h0
 ·split at h0
  ·cases h0
  ·rename_i hl
   have hl':qX vs 4000=false:=by simpa using hl
   split at h0
   ·rename_i hall
    intro v hv
    rw [List.all_eq_true] at hall
    have hva:=hall v hv
    unfold mG jd at hva
    simp only [Bool.and_eq_true] at hva
    have h1:=Dt hva.1.1
    refine ⟨by omega,?_⟩
    have h2:=hva.2
    cases hi:v.is
    ·rw [hi] at h2
     have:=KZ (by simpa using h2);omega
    ·have:=kJ vs 4000 hl' v hv hi;omega
   ·cases h0
theorem pV {a b:ByteArray} (h:a.toList=b.toList):a=b:=by
 rw [ByteArray.toList_eq,ByteArray.toList_eq] at h
 have:=Array.toList_inj.1 h
 cases a;cases b
 simp only at this
 rw [this]
theorem lI {d:Int} {u:Term} (h:fw d u):u=⟨u.kind,u.n,aB,[]⟩:=by
 obtain ⟨k,n,s,l⟩:=u
 have h1:=pV h.2.1
 have h2:=(aS h.1).2
 simp only at h1 h2
 rw [h1,h2]
theorem mP {vs:List Va} {t:Term} {d:Int} (h:aK vs t d=true) (hk:t.kind≠1):t.name=aB:=by
 rw [cO,Bool.and_eq_true] at h
 have h1:=h.1
 unfold bg at h1
 have hk1:(t.kind==1)=false:=by simpa using hk
 rw [hk1] at h1
 simp only [Bool.and_eq_true] at h1
 have h2:=h1.1
 refine pV ?_
 simpa using h2
def EqV (F:List Va) (d:Int) (a b:Term):Prop:=∃ v,Good F d a v∧Good F d b v
theorem EqV.symm {F:List Va} {d:Int} {a b:Term} (h:EqV F d a b):EqV F d b a:=by
 obtain ⟨v,h1,h2⟩:=h;exact ⟨v,h2,h1⟩
theorem xq {F:List Va} (hc:bi F=0) {d:Int} (hd:0≤d) {t:Term} (hf:aK F t d=true):EqV F d t t:=by
 obtain ⟨v,hv⟩:=mO hc hd hf
 exact ⟨v,hv,hv⟩
theorem good_step {F:List Va} (hc:bi F=0) {d:Int} (hd:0≤d) {t v:Term} (hf:aK F t d=true) (h4:(t.kind==4)=true) (hi:(ak F t.n).is=true) (h:Good F d (aH (dJ F t) t.args 0) v):Good F d t v :=
 ⟨Hr h4 hi (step_ok hc hd hf h4 hi).1 h.1,h.2⟩
theorem yx {ms F:List Va} (hc:bi F=0) (I:Inv ms) (E:ExtS ms F) {d:Int} (hd:0≤d) {t u v:Term} {k:Nat} (h:rU ms k t u):aK ms t d=true→Good F d u v→Good F d t v:=by
 induction h with
 |done _=>exact fun _ hg=>hg
 |@step t u k h4 hi hs ih =>
  intro hf hg
  obtain ⟨hp,h2,h3,h1,h6,h5,hn0,hn1⟩:=wP I hd hf h4 hi
  have hff:=fQ hp (dJ ms t) 0 (Int.le_refl _) (by rw [Int.add_zero];exact h2) h3
  rw [Int.add_zero] at hff
  have hk:=E.kept t.n hn0 hn1 hi
  have hb:dJ F t=dJ ms t:=by unfold dJ;rw [hk]
  refine good_step hc hd (bH E _ _ hf) h4 (by rw [hk];exact hi) ?_
  rw [hb]
  exact ih hff hg
theorem NH {ms F:List Va} (hc:bi F=0) (I:Inv ms) (E:ExtS ms F) {d:Int} (hd:0≤d) {a b:Term} (ha:aK ms a d=true) (hb:aK ms b d=true) (h:EqV F d (gK ms a) (gK ms b)):EqV F d a b:=by
 obtain ⟨v,h1,h2⟩:=h
 obtain ⟨_,_,_,k,hk⟩:=dK I hd ha
 obtain ⟨_,_,_,j,hj⟩:=dK I hd hb
 exact ⟨v,yx hc I E hd hk ha h1,yx hc I E hd hj hb h2⟩
theorem NI {ms F:List Va} (hc:bi F=0) (I:Inv ms) (E:ExtS ms F) {d:Int} (hd:0≤d) {a b:Term} (hb:aK ms b d=true) (h:EqV F d a (gK ms b)):EqV F d a b:=by
 obtain ⟨v,h1,h2⟩:=h
 obtain ⟨_,_,_,j,hj⟩:=dK I hd hb
 exact ⟨v,h1,yx hc I E hd hj hb h2⟩
theorem Kl {F:List Va} {d:Int} {t u:Term} {k:Nat} (h:Hl F d t k u) (hu:(u.kind==4&&(ak F u.n).is)=false):rU F k t u:=by
 induction h with
 |zero=>exact .done hu
 |succ h4 hi ok hs ih=>exact .step h4 hi (ih hu)
theorem Km {F:List Va} (hc:bi F=0) {d:Int} (hd:0≤d) {t u:Term} {k:Nat} (h:Hl F d t k u):aK F t d=true→aK F u d=true:=by
 induction h with
 |zero=>exact fun hf=>hf
 |@succ t k u h4 hi ok hs ih =>
  intro hf
  obtain ⟨ok2,hp,hfb,hsb⟩:=step_ok hc hd hf h4 hi
  have hff:=fQ hp (dJ F t) 0 (Int.le_refl _) (by rw [Int.add_zero];exact hfb) hsb
  rw [Int.add_zero] at hff
  exact ih hff
theorem pJ (u:Term):u=⟨u.kind,u.n,u.name,u.args⟩:=by cases u;rfl
def EqVL (F:List Va) (d:Int) (l m:List Term):Prop:=∃ ls:List Term,ls.length=l.length∧l.length=m.length∧∀ (i:Nat) (x y w:Term),l[i]?=some x→m[i]?=some y→ls[i]?=some w→Good F d x w∧Good F d y w
theorem I4 (F:List Va) (d:Int):EqVL F d [] []:=⟨[],rfl,rfl,fun i x y w h=>by simp at h⟩
theorem EO {F:List Va} {d:Int} {a b:Term} {l m:List Term} (h:EqV F d a b) (hl:EqVL F d l m):EqVL F d (a::l) (b::m):=by
 obtain ⟨v,h1,h2⟩:=h
 obtain ⟨ls,e1,e2,h3⟩:=hl
 refine ⟨v::ls,by simp [e1],by simp [e2],fun i x y w hx hy hw=>?_⟩
 cases i with
 |zero =>
  simp only [List.getElem?_cons_zero,Option.some.injEq] at hx hy hw
  subst hx;subst hy;subst hw
  exact ⟨h1,h2⟩
 |succ i =>
  simp only [List.getElem?_cons_succ] at hx hy hw
  exact h3 i x y w hx hy hw
theorem IQ {F:List Va} {k n:Int} {s:ByteArray} {l m:List Term} {d:Int} (hk:k≠4) (hl:l.length=m.length) (h:bg F k n s l d=true):bg F k n s m d=true:=by
 unfold bg aY at h ⊢
 rw [hl] at h
 have:(k==4)=false:=by simpa using hk
 rw [this] at h ⊢
 exact h
theorem I5 {F:List Va} {d:Int} {k n:Int} {s:ByteArray} {l m:List Term} (hk:k≠4) (hf:bg F k n s l d=true) (h:EqVL F (inner k d) l m):EqV F d ⟨k,n,s,l⟩ ⟨k,n,s,m⟩:=by
 obtain ⟨ls,e1,e2,h3⟩:=h
 have h8:l.length≤8:=by
  unfold bg at hf
  simp only [Bool.and_eq_true,Bool.not_eq_true',decide_eq_false_iff_not] at hf
  have:=hf.2.2.1;omega
 have hk4:(k==4)=false:=by simpa using hk
 have hmem:∀ w ∈ ls,aK F w (inner k d)=true∧kT F w=true:=fun w hw=>by
  obtain ⟨i,hi⟩:=List.getElem?_of_mem hw
  have hil:=(List.getElem?_eq_some_iff.1 hi).1
  exact (h3 i _ _ w (List.getElem?_eq_getElem (by omega)) (List.getElem?_eq_getElem (by omega)) hi).1.2
 have hfv:aK F ⟨k,n,s,ls⟩ d=true:=by
  rw [aK,Bool.and_eq_true]
  exact ⟨IQ hk e1.symm hf,(bT _ _ _).2 fun w hw=>(hmem w hw).1⟩
 have hnv:kT F ⟨k,n,s,ls⟩=true:=by
  rw [kT,hk4,Bool.false_and,Bool.not_false,Bool.true_and]
  exact (pR _ _).2 fun w hw=>(hmem w hw).2
 refine ⟨⟨k,n,s,ls⟩,⟨?_,hfv,hnv⟩,⟨?_,hfv,hnv⟩⟩
 ·refine Val.mk (t:=⟨k,n,s,l⟩) (u:=⟨k,n,s,l⟩) .zero ⟨fun h=>?_,h8⟩ e1 fun i a w ha hw=>?_
  ·have:(k==4)=true:=h
   rw [hk4] at this;cases this
  ·have hil:i<l.length:=(List.getElem?_eq_some_iff.1 ha).1
   exact (h3 i a _ w ha (List.getElem?_eq_getElem (by omega)) hw).1.1
 ·refine Val.mk (t:=⟨k,n,s,m⟩) (u:=⟨k,n,s,m⟩) .zero ⟨fun h=>?_,by show m.length≤8;omega⟩ (by show ls.length=m.length;omega) fun i a w ha hw=>?_
  ·have:(k==4)=true:=h
   rw [hk4] at this;cases this
  ·have hil:i<m.length:=(List.getElem?_eq_some_iff.1 ha).1
   exact (h3 i _ a w (List.getElem?_eq_getElem (by omega)) ha hw).2.1
theorem bL {k n:Int} {s:ByteArray} {us:List Term} {d:Int} (h:(k==2&&decide (n≥d))=false):aI k n s us d=(k,n,s):=by unfold aI;rw [if_neg (by simp [h])]
theorem AJ {us:List Term} {d D:Int} {a:Term} (h:fw D a) (h3:a.kind=3):aH a us d=a:=by
 rw [lI h,aH,bL (by rw [h3];rfl),aC]
theorem kK {us:List Term} {d:Int} {i:Nat} (hi:i<us.length) (hd:0≤d):aH (sBnd ((us.length:Int) - 1 - i+d)) us d=⟨(us.getD i aG).kind,if (us.getD i aG).kind==2 then (us.getD i aG).n+d else (us.getD i aG).n,(us.getD i aG).name,[]⟩:=by
 have e:aI 2 ((us.length:Int) - 1 - i+d) aB us d=((us.getD i aG).kind,(if (us.getD i aG).kind==2 then (us.getD i aG).n+d else (us.getD i aG).n),(us.getD i aG).name):=by
  unfold aI
  rw [decide_eq_true (show (us.length:Int) - 1 - i+d≥d by omega),show ((us.length:Int) - 1 - ((us.length:Int) - 1 - i+d - d))=(i:Int) by omega,Int.toNat_natCast]
  rfl
 rw [aH,e,aC]
theorem nO {lv d D:Int} {us:List Term} {y z:Term} (hd:0≤d) (hus:∀ u ∈ us,fw D u) (hy:fw (D+d) y) (h:om lv us d y z):aH z us d=y:=by
 have hye:=lI hy
 cases h with
 |low h2 hl =>
  rw [hye,aH,bL (by rw [h2,decide_eq_false (by omega)];rfl),aC]
 |par h3 hl=>exact AJ hy h3
 |seat i hi hk hn h2 h3 =>
  rw [kK hi hd,hye]
  have hu:=lI (hus _ (bG hi))
  have hname:(us.getD i aG).name=aB:=by rw [hu]
  rw [hname,hk,hn]
  congr 1
  by_cases e:y.kind=2
  ·rw [e];simp
  ·have:(y.kind==2)=false:=by simpa using e
   rw [this,if_neg e];simp
theorem rf {lv d D:Int} {us:List Term} (hd:0≤d) (hus:∀ u ∈ us,fw D u):∀ (l:List Term) (i:Nat),(∀ y ∈ l,fw (D+d) y)→aC (iX lv us d l i).2 us d=(iX lv us d l i).1.map fun k=>l.getD (k - i) aG
 |[],i,_=>rfl
 |y::l,i,h=>by
  have ht:=fun w hw=>h w (List.mem_cons_of_mem _ hw)
  have ih:=rf hd hus l (i+1) ht (lv:=lv)
  have K:=q8 (lv:=lv) (us:=us) (d:=d) l (i+1) fun w hw=>(aS (ht w hw).1).1
  have e:((iX lv us d l (i+1)).1.map fun k=>(y::l).getD (k - i) aG)=(iX lv us d l (i+1)).1.map fun k=>l.getD (k - (i+1)) aG:=by
   refine List.map_congr_left fun k hk=>?_
   have:=K.ix k hk
   rw [show k - i=k - (i+1)+1 by omega,List.getD_cons_succ]
  rw [iX]
  split
  ·rename_i hp
   rw [aC,List.map_cons,e,ih,nO hd hus (h y List.mem_cons_self) (iP (aS (h y List.mem_cons_self).1).1 hp)]
   simp
  ·rw [ih];exact e.symm
theorem yw {lv d D:Int} {us:List Term} (hd:0≤d) (hus:∀ u ∈ us,fw D u):∀ (l:List Term) (i:Nat),(∀ y ∈ l,fw (D+d) y)→(iX lv us d l i).1.length=l.length→aC (iX lv us d l i).2 us d=l
 |[],i,_,_=>rfl
 |y::l,i,h,hl=>by
  have ht:=fun w hw=>h w (List.mem_cons_of_mem _ hw)
  rw [iX] at hl ⊢
  split at hl
  ·rename_i hp
   rw [if_pos hp]
   rw [List.length_cons,List.length_cons] at hl
   rw [aC,yw hd hus l (i+1) ht (by omega),nO hd hus (h y List.mem_cons_self) (iP (aS (h y List.mem_cons_self).1).1 hp)]
  ·have:=IK (lv:=lv) (us:=us) (d:=d) l (i+1)
   rw [List.length_cons] at hl
   omega
theorem mQ (n:Int) (l us:List Term) (d:Int):aH (sVar n l) us d=sVar n (aC l us d):=by
 rw [aH,bL rfl];rfl
theorem nQ (us:List Term) (d:Int) (l m:List Term):aC (l++m) us d=aC l us d++aC m us d:=by
 rw [eP,eP,eP,List.map_append]
theorem lF {us:List Term} {D:Int} (hus:∀ u ∈ us,fw D u) {keep:List Nat} (hk:∀ k ∈ keep,k<us.length):aC (bR us.length keep) us 0=keep.map fun k=>us.getD k aG:=by
 rw [eP]
 unfold bR
 rw [List.map_map]
 refine List.map_congr_left fun k hkk=>?_
 have hi:=hk k hkk
 have h:=kK (us:=us) (d:=0) hi (Int.le_refl _)
 rw [Int.add_zero] at h
 show aH (sBnd ((us.length:Int) - 1 - k)) us 0=_
 rw [h]
 have hu:=lI (hus _ (bG hi))
 generalize us.getD k aG=u at *
 rw [hu]
 simp
theorem kN {ms:List Va} {n:Int} {w:Va} (h0:0≤n) (h1:n<(ms.length:Int)):ak (ms.set n.toNat w) n=w:=by
 unfold ak
 rw [nM,if_pos ⟨rfl,by omega⟩]
theorem Bg {F:List Va} {t b:Term} {w:Va} (h:ak F t.n=l6 w b) (ha:aX w.type=t.args.length):dJ F t=b:=by
 unfold dJ
 rw [h]
 show (eD t.args.length (fE (aX w.type) b)).1=b
 rw [ha,uw]
theorem tQ {F:List Va} (hc:bi F=0) {d:Int} (hd:0≤d) {t x T:Term} {w:Va} {b:Term} (hf:aK F t d=true) (h4:(t.kind==4)=true) (h:ak F t.n=l6 w b) (ha:aX w.type=t.args.length) (hT:aH b t.args 0=T) (hx:EqV F d x T):EqV F d x t:=by
 obtain ⟨v,h1,h2⟩:=hx
 refine ⟨v,h1,good_step hc hd hf h4 (by rw [h];rfl) ?_⟩
 rw [Bg h ha,hT]
 exact h2
theorem Bz {F:List Va} {t:Term} {d:Int} (hf:aK F t d=true) (h4:(t.kind==4)=true):t=sVar t.n t.args:=by
 have k4:t.kind=4:=by simpa using h4
 have hn:=mP hf (by omega)
 obtain ⟨k,n,s,l⟩:=t
 simp only at k4 hn
 rw [k4,hn]
theorem JH {F:List Va} (hc:bi F=0) {s s':Sv} (I:Inv s.ms) {v t out:Term} {D d:Int} (hD:0≤D) (hd:0≤d) (V:iZ s.ms v D) (vu:(ak s.ms v.n).is=false) (hft:aK s.ms t (D+d)=true) (h4:(t.kind==4)=true) (tu:(ak s.ms t.n).is=false) (h:nC s v t d=.ok (s',out)) (E:ExtS s'.ms F) :
  EqV F (D+d) (aH out v.args d) t:=by
 have T:=dG hft h4
 obtain ⟨TO,_⟩:=FX I hd V vu T tu h
 have EF:=TO.ext.trans E
 have hV0:=V.n0
 have hV1:=V.n1
 have hp:zG F (ak s.ms v.n).level D v.args:=⟨hD,V.args,V.high,V.pair⟩
 have hff:=fQ hp out d hd (bH E _ _ TO.fits) (pK E _ _ TO.fits TO.sees)
 unfold nC at h
 split at h
 ·cases h
 dsimp only at h
 have K:=q8 (lv:=(ak s.ms v.n).level) (us:=v.args) (d:=d) t.args 0 fun y hy=>(aS (T.args y hy).1).1
 have KF:=rf (lv:=(ak s.ms v.n).level) hd V.args t.args 0 T.args
 have KU:=yw (lv:=(ak s.ms v.n).level) hd V.args t.args 0 T.args
 have X:=xh (olv:=(ak s.ms v.n).level) (wlv:=(ak s.ms t.n).level) v.args 0
 generalize iX (ak s.ms v.n).level v.args d t.args 0=kp at *
 generalize j6 (ak s.ms v.n).level (ak s.ms t.n).level v.args 0=ex at *
 have harw:(nmsF (ak s.ms t.n)).length=t.args.length:=by rw [kU];exact T.ar
 split at h
 ·rename_i hcd
  injection h with h;injection h with e1 e2
  subst e1;subst e2
  simp only [Bool.and_eq_true,beq_iff_eq,decide_eq_true_eq] at hcd
  have hx0:ex=[]:=by
   cases ex with
   |nil=>rfl
   |cons p ps=>have:=X.at_ p List.mem_cons_self;omega
  subst hx0
  rw [List.map_nil,List.append_nil,mQ,KU (by omega),← Bz hft h4]
  exact xq hc (by omega) (bH EF _ _ hft)
 ·split at h
  ·cases h
  obtain ⟨⟨s1,m⟩,hfr,h⟩:=bind_ok h
  obtain ⟨hlt,e1,e2⟩:=jS hfr
  subst e1;subst e2
  simp only at h
  injection h with h;injection h with e1 e2
  subst e1;subst e2
  have hex:aC (ex.map fun p=>sBnd ((v.args.length:Int) - 1 - p.1+d)) v.args d=ex.map (·.2):=by
   rw [eP,List.map_map]
   refine List.map_congr_left fun p hp=>?_
   obtain ⟨_,h2,h3,h5,_⟩:=X.at_ p hp
   rw [Nat.zero_add] at h2
   rw [Nat.sub_zero] at h3
   show aH (sBnd ((v.args.length:Int) - 1 - p.1+d)) v.args d=p.2
   rw [kK h2 hd,h3,h5]
   have hm:p.2 ∈ v.args:=by rw [← h3];exact bG h2
   have:=lI (V.args _ hm)
   rw [this,h5]
   rfl
  have hL:aC (kp.2++ex.map fun p=>sBnd ((v.args.length:Int) - 1 - p.1+d)) v.args d=(kp.1.map fun k=>t.args.getD k aG)++ex.map (·.2):=by
   rw [nQ,hex,KF]
   simp only [Nat.sub_zero]
  rw [mQ,hL] at hff ⊢
  have hxt:aC (ex.map (·.2)) t.args 0=ex.map (·.2):=by
   rw [eP,List.map_map]
   refine List.map_congr_left fun p hp=>?_
   obtain ⟨_,h2,h3,h5,_⟩:=X.at_ p hp
   rw [Nat.zero_add] at h2
   rw [Nat.sub_zero] at h3
   have hm:p.2 ∈ v.args:=by rw [← h3];exact bG h2
   exact AJ (V.args _ hm) h5
  have h0:=T.n0
  have h1:=T.n1
  have hval:ak F t.n=l6 (ak s.ms t.n) (sVar (s.ms.length:Int) (bR (nmsF (ak s.ms t.n)).length kp.1++ex.map (·.2))):=by
   rw [E.kept t.n h0 (by simp only [kr,List.length_set,List.length_append,List.length_singleton];omega)]
   ·simp only [kr]
    rw [kN h0 (by simp;omega),jc h0 h1]
   ·simp only [kr]
    rw [kN h0 (by simp;omega)];rfl
  refine tQ hc (by omega) (bH EF _ _ hft) h4 hval T.ar ?_ (xq hc (by omega) hff)
  rw [mQ,nQ,hxt,harw,lF T.args fun k hk=>by have:=K.ix k hk;omega]
theorem JB {F:List Va} (hc:bi F=0) {v:Term} {D:Int} (hD:0≤D):∀ (f:Nat) (s:Sv) (t:Term) (d deep:Int) (s':Sv) (out:Term),Inv s.ms→0≤d→iZ s.ms v D→(ak s.ms v.n).is=false→aK s.ms t (D+d)=true→lJ f s v t d deep=.ok (s',out)→ExtS s'.ms F →
  EqV F (D+d) (aH out v.args d) t:=by
 intro f
 induction f with
 |zero=>intro s t d deep s' out _ _ _ _ _ h;rw [lJ] at h;cases h
 |succ f ih =>
  intro s t d deep s' out I hd V vu hf h E
  have TO:=(jC hD (f+1) s t d deep s' out I hd V vu hf h).1
  have EF:=TO.ext.trans E
  rw [lJ] at h
  obtain ⟨s1,hcn,h⟩:=bind_ok h
  obtain ⟨e1,hw,_⟩:=nW hcn
  subst e1
  dsimp only at h
  refine NI hc I EF (by omega) hf ?_
  obtain ⟨hfu,hflex,_,_⟩:=dK I (by omega:0≤D+d) hf
  generalize gK s.ms t=u at *
  generalize hoe:(if bY u.kind=true then bX (ak s.ms v.n).level v.args ⟨u.kind,u.n,aB,[]⟩ d else (⟨u.kind,u.n,u.name,[]⟩,true))=o at h
  split at h
  ·rename_i h4
   exact JH (s:=⟨s.ms,s.wk+1⟩) hc I hD hd V vu hfu h4 (hflex h4) h E
  ·rename_i h4
   have n4:u.kind≠4:=by simpa using h4
   split at h
   case isFalse=>cases h
   rename_i ho
   obtain ⟨⟨s2,outs⟩,hm,h⟩:=bind_ok h
   injection h with h;injection h with e1 e2
   have hfu':=bH EF _ _ hfu
   have hfu2:=hfu
   rw [cO,Bool.and_eq_true] at hfu' hfu2
   have hin:inner u.kind (D+d)=D+inner u.kind d:=by unfold inner;split <;> omega
   have hin0:0≤inner u.kind d:=cz hd
   rw [hin] at hfu2
   simp only at e1
   subst e1
   have hmap:∀ (l:List Term) (s s':Sv) (outs:List Term),Inv s.ms→s.wk≤40000→iZ s.ms v D→(ak s.ms v.n).is=false→(∀ t ∈ l,aK s.ms t (D+inner u.kind d)=true)→mapS (fun s a=>lJ f s v a (inner u.kind d) (deep+1)) s l=.ok (s',outs)→ExtS s'.ms F→EqVL F (D+inner u.kind d) (aC outs v.args (inner u.kind d)) l:=by
    intro l
    induction l with
    |nil =>
     intro s s' outs I hw V vu hf h E
     rw [mapS] at h
     injection h with h;injection h with e1 e2
     subst e2
     rw [aC]
     exact I4 _ _
    |cons t l ihl =>
     intro s s' outs I hw V vu hf h E
     rw [mapS] at h
     obtain ⟨⟨s1,x⟩,h1,h⟩:=bind_ok h
     obtain ⟨⟨s2,xs⟩,h2,h⟩:=bind_ok h
     injection h with h;injection h with e1 e2
     subst e1;subst e2
     obtain ⟨TO,hw1,_⟩:=jC hD f s t _ _ s1 x I hin0 V vu (hf t List.mem_cons_self) h1
     have M:=map_ok (D:=D) (d:=inner u.kind d) (fun s t s' out I hw V vu hf h=>⟨(jC hD f s t _ _ s' out I hin0 V vu hf h).1,(jC hD f s t _ _ s' out I hin0 V vu hf h).2.1⟩) l s1 s2 xs TO.inv hw1 (V.ext TO.ext) TO.free (fun w hw=>bH TO.ext _ _ (hf w (List.mem_cons_of_mem _ hw))) h2
     rw [aC]
     exact EO (ih s t _ _ s1 x I hin0 V vu (hf t List.mem_cons_self) h1 (M.ext.trans E)) (ihl s1 s2 xs TO.inv hw1 (V.ext TO.ext) TO.free (fun w hw=>bH TO.ext _ _ (hf w (List.mem_cons_of_mem _ hw))) h2 E)
   have hL:=hmap u.args ⟨s.ms,s.wk+1⟩ s2 outs I hw V vu ((bT _ _ _).1 hfu2.2) hm E
   have hlen:(aC outs v.args (inner u.kind d)).length=u.args.length:=by
    obtain ⟨_,_,e,_⟩:=hL;exact e
   have hhead:∃ k n nm,out=⟨k,n,nm,outs⟩∧inner k d=inner u.kind d∧aI k n nm v.args d=(u.kind,u.n,u.name):=by
    cases hvp:bY u.kind
    ·rw [hvp] at hoe
     simp only [Bool.false_eq_true,if_false] at hoe
     subst hoe
     simp only at e2
     unfold bY at hvp
     rw [Bool.or_eq_false_iff] at hvp
     exact ⟨u.kind,u.n,u.name,e2.symm,rfl,bL (by rw [hvp.1];rfl)⟩
    ·rw [hvp] at hoe
     simp only [if_true] at hoe
     subst hoe
     have hk:u.kind=2∨u.kind=3:=by
      unfold bY at hvp
      simpa using hvp
     have hA:fw (D+d) ⟨u.kind,u.n,aB,[]⟩:=by
      refine ⟨?_,rfl,fun e=>(show 0≤u.n∧u.n<D+d from gV hfu e),fun e=>?_⟩
      ·unfold bF;rcases hk with e|e <;> · rw [e];rfl
      ·have h1:=hfu'.1
       have e':u.kind=3:=e
       unfold bg aY at h1
       rw [e'] at h1
       simp at h1
       show 0≤u.n∧u.n<60
       omega
     have P:=iP (y:=⟨u.kind,u.n,aB,[]⟩) hk ho
     have hz1:=(P.ok (D:=D) hd hA).1
     have hfl:=nO hd V.args hA P
     generalize (bX (ak s.ms v.n).level v.args ⟨u.kind,u.n,aB,[]⟩ d).1=z at *
     have kz:=(aS hz1.1).1
     refine ⟨z.kind,z.n,z.name,e2.symm,?_,?_⟩
     ·unfold inner
      rw [if_neg (by simp;omega),if_neg (by simp;omega)]
     ·have hn:=mP hfu (by omega)
      rw [gX] at hfl
      injection hfl with f1 f2 f3 _
      rw [hn]
      exact Prod.ext f1 (Prod.ext f2 f3)
   obtain ⟨k,n,nm,rfl,hin1,hput⟩:=hhead
   rw [aH,hput,hin1]
   have key:EqV F (D+d) ⟨u.kind,u.n,u.name,aC outs v.args (inner u.kind d)⟩ ⟨u.kind,u.n,u.name,u.args⟩:=I5 n4 (IQ n4 hlen.symm hfu'.1) (by rw [hin];exact hL)
   rw [← pJ u] at key
   exact key
theorem BI:∀ (l m:List Term) (i:Nat),∀ k ∈ fe l m i,isF (l.getD (k - i) aG) (m.getD (k - i) aG)=true∧k<i+m.length
 |[],m,i,k,hk=>by unfold fe at hk;exact absurd hk List.not_mem_nil
 |a::l,[],i,k,hk=>by unfold fe at hk;exact absurd hk List.not_mem_nil
 |a::l,b::m,i,k,hk=>by
  have tail:∀ k ∈ fe l m (i+1),isF ((a::l).getD (k - i) aG) ((b::m).getD (k - i) aG)=true∧k<i+(b::m).length:=fun k hk=>by
   obtain ⟨h1,h2⟩:=BI l m (i+1) k hk
   have:=((qQ l m (i+1)).1 k hk).1
   rw [show k - i=k - (i+1)+1 by omega,List.getD_cons_succ,List.getD_cons_succ]
   exact ⟨h1,by rw [List.length_cons];omega⟩
  rw [fe] at hk
  split at hk
  ·rename_i h0
   rcases List.mem_cons.1 hk with rfl|hk
   ·rw [Nat.sub_self]
    exact ⟨h0,by rw [List.length_cons];omega⟩
   ·exact tail k hk
  ·exact tail k hk
theorem Ij {d:Int}:∀ (l m:List Term) (i:Nat),l.length=m.length→(∀ u ∈ l,fw d u)→(∀ u ∈ m,fw d u)→l.length≤(fe l m i).length→l=m
 |[],[],i,_,_,_,_=>rfl
 |a::l,b::m,i,hl,h1,h2,h=>by
  rw [fe] at h
  have hle:=(qQ l m (i+1)).2.2
  split at h
  ·rename_i h0
   rw [List.length_cons,List.length_cons] at h
   rw [Ij l m (i+1) (by simpa using hl) (fun u hu=>h1 u (List.mem_cons_of_mem _ hu)) (fun u hu=>h2 u (List.mem_cons_of_mem _ hu)) (by omega)]
   have e:=pW h0
   rw [lI (h1 a List.mem_cons_self),lI (h2 b List.mem_cons_self),e.1,e.2]
  ·rw [List.length_cons] at h;omega
theorem Hd {F:List Va} (hc:bi F=0) {s s':Sv} (I:Inv s.ms) {a b:Term} {D:Int} (hD:0≤D) (ha:aK s.ms a D=true) (hb:aK s.ms b D=true) (a4:(a.kind==4)=true) (b4:(b.kind==4)=true) (hn:a.n=b.n) (hu:(ak s.ms a.n).is=false) (h:jA s a b=.ok s') (E:ExtS s'.ms F):EqV F D a b:=by
 have A:=dG ha a4
 have B:=dG hb b4
 have S:=CX I A hu h
 have EF:=S.ext.trans E
 have hlen:a.args.length=b.args.length:=by rw [← A.ar,← B.ar,hn]
 unfold jA at h
 split at h
 ·obtain ⟨h1,_,_⟩:=qQ a.args b.args 0
  have hs:=BI a.args b.args 0
  have hfa:=bH EF _ _ ha
  have hfb:=bH EF _ _ hb
  generalize fe a.args b.args 0=keep at *
  unfold jh at h
  dsimp only at h
  obtain ⟨⟨s1,m⟩,hfr,h⟩:=bind_ok h
  obtain ⟨hlt,e1,e2⟩:=jS hfr
  subst e1;subst e2
  simp only at h
  injection h with h
  subst h
  have h0:=A.n0
  have hl1:=A.n1
  have harw:(nmsF (ak s.ms a.n)).length=a.args.length:=by rw [kU];exact A.ar
  have hval:ak F a.n=l6 (ak s.ms a.n) (sVar (s.ms.length:Int) (bR (nmsF (ak s.ms a.n)).length keep)):=by
   rw [E.kept a.n h0 (by simp only [kr,List.length_set,List.length_append,List.length_singleton];omega)]
   ·simp only [kr]
    rw [kN h0 (by simp;omega),jc h0 hl1]
   ·simp only [kr]
    rw [kN h0 (by simp;omega)];rfl
  have hi:(ak F a.n).is=true:=by rw [hval];rfl
  have hfa2:=fQ (step_ok hc hD hfa a4 hi).2.1 (dJ F a) 0 (Int.le_refl _) (by rw [Int.add_zero];exact (step_ok hc hD hfa a4 hi).2.2.1) (step_ok hc hD hfa a4 hi).2.2.2
  rw [Int.add_zero,Bg hval A.ar] at hfa2
  have ta:aH (sVar (s.ms.length:Int) (bR (nmsF (ak s.ms a.n)).length keep)) a.args 0=sVar (s.ms.length:Int) (keep.map fun k=>a.args.getD k aG):=by
   rw [mQ,harw,lF A.args fun k hk=>by have:=h1 k hk;omega]
  have tb:aH (sVar (s.ms.length:Int) (bR (nmsF (ak s.ms a.n)).length keep)) b.args 0=sVar (s.ms.length:Int) (keep.map fun k=>a.args.getD k aG):=by
   rw [mQ,harw,hlen,lF B.args fun k hk=>by have:=(hs k hk).2;omega]
   congr 1
   refine List.map_congr_left fun k hk=>?_
   obtain ⟨h5,h6⟩:=hs k hk
   rw [Nat.sub_zero] at h5
   have e:=pW h5
   rw [lI (A.args _ (bG (show k<a.args.length by omega))),lI (B.args _ (bG (show k<b.args.length by omega))),e.1,e.2]
  rw [ta] at hfa2
  have x1:=tQ hc hD hfa a4 hval A.ar ta (xq hc hD hfa2)
  rw [hn] at hval
  exact tQ hc hD hfb b4 (w:=ak s.ms b.n) hval B.ar (by rw [← hn];exact tb) x1.symm
 ·rename_i hk
  injection h with h
  subst h
  simp only [decide_eq_true_eq] at hk
  have e:=Ij a.args b.args 0 hlen A.args B.args (by omega)
  have:a=b:=by rw [Bz ha a4,Bz hb b4,e,hn]
  rw [← this]
  exact xq hc hD (bH E _ _ ha)
theorem wz {F:List Va} (hc:bi F=0) {s s':Sv} (I:Inv s.ms) {v t:Term} {D:Int} (hD:0≤D) (hw0:0≤s.wk) (hfv:aK s.ms v D=true) (v4:(v.kind==4)=true) (vu:(ak s.ms v.n).is=false) (hf:aK s.ms t D=true) (hflex:((t.kind==4)=true→(ak s.ms t.n).is=false)) (h:gQ s v t=.ok s') (E:ExtS s'.ms F):EqV F D v t:=by
 have V:=dG hfv v4
 have S:=zf I hD hw0 V vu hf hflex h
 have EF:=S.ext.trans E
 have E2:=S.ext
 unfold gQ at h
 split at h
 ·cases h
 obtain ⟨⟨s1,b⟩,ht,h⟩:=bind_ok h
 injection h with h
 subst h
 have TO:=(jC hD 402 s t 0 0 s1 b I (Int.le_refl _) V vu (by rw [Int.add_zero];exact hf) ht).1
 have h0:=V.n0
 have h1:=V.n1
 have hl:=TO.ext.len
 have hty:=TO.ext.typ _ h0 h1
 have Eb:ExtS s1.ms (kr s1 v.n b).ms:=by
  simp only [kr]
  exact GI h0 (by omega) TO.free rfl rfl
 have x:=JB hc hD 402 s t 0 0 s1 b I (Int.le_refl _) V vu (by rw [Int.add_zero];exact hf) ht (Eb.trans E)
 rw [Int.add_zero] at x
 have hval:ak F v.n=l6 (ak s1.ms v.n) b:=by
  rw [E.kept v.n h0 (by simp only [kr,List.length_set];omega)]
  ·simp only [kr]
   rw [kN h0 (by omega)]
  ·simp only [kr]
   rw [kN h0 (by omega)];rfl
 exact (tQ hc hD (bH EF _ _ hfv) v4 hval (by rw [hty];exact V.ar) rfl x.symm).symm
theorem FQ {F:List Va} (hc:bi F=0):∀ (f:Nat) (s:Sv) (a b:Term) (d deep:Int) (s':Sv),Inv s.ms→0≤s.wk→0≤d→aK s.ms a d=true→aK s.ms b d=true→eG f s a b deep=.ok s'→ExtS s'.ms F→EqV F d a b:=by
 intro f
 induction f with
 |zero=>intro s a b d deep s' _ _ _ _ _ h;rw [eG] at h;cases h
 |succ f ih =>
  intro s a b d deep s' I hw0 hd ha hb h E
  have EF:=(nk (f+1) s a b d deep s' I hw0 hd ha hb h).1.ext.trans E
  rw [eG] at h
  obtain ⟨s1,hcn,h⟩:=bind_ok h
  obtain ⟨e1,hw,_⟩:=nW hcn
  subst e1
  dsimp only at h
  refine NH hc I EF hd ha hb ?_
  obtain ⟨hfa,fla,_,_⟩:=dK I hd ha
  obtain ⟨hfb,flb,_,_⟩:=dK I hd hb
  generalize gK s.ms a=u at *
  generalize gK s.ms b=w at *
  split at h
  ·rename_i hk
   simp only [Bool.and_eq_true] at hk
   exact Hd (s:=⟨s.ms,s.wk+1⟩) hc I hd hfa hfb hk.1 hk.2.1 (by simpa using hk.2.2) (fla hk.1) h E
  ·split at h
   ·rename_i h4
    exact wz (s:=⟨s.ms,s.wk+1⟩) hc I hd (by show 0≤s.wk+1;omega) hfa h4 (fla h4) hfb flb h E
   ·split at h
    ·rename_i h4
     exact (wz (s:=⟨s.ms,s.wk+1⟩) hc I hd (by show 0≤s.wk+1;omega) hfb h4 (flb h4) hfa fla h E).symm
    ·split at h
     ·cases h
     rename_i hn4 _ hul
     have n4:u.kind≠4:=by simpa using hn4
     have hul:kD u w=false:=by simpa using hul
     unfold kD at hul
     simp only [Bool.or_eq_false_iff,Bool.not_eq_false'] at hul
     obtain ⟨q1,q2,q3,q4⟩:=hul
     have q1:u.kind=w.kind:=by simpa using q1
     have q2:u.n=w.n:=by simpa using q2
     have q3:u.name=w.name:=pV (by simpa using q3)
     have q4:u.args.length=w.args.length:=by simp at q4;omega
     have hfa':=bH EF _ _ hfa
     have hfa2:=hfa
     have hfb2:=hfb
     rw [cO,Bool.and_eq_true] at hfa' hfa2 hfb2
     have hpos:=cz (k:=u.kind) hd
     rw [← q1] at hfb2
     have heach:∀ (l m:List Term) (s s':Sv),l.length=m.length→Inv s.ms→0≤s.wk→(∀ t ∈ l,aK s.ms t (inner u.kind d)=true)→(∀ t ∈ m,aK s.ms t (inner u.kind d)=true)→lL (fun s a b=>eG f s a b (deep+1)) s l m=.ok s'→ExtS s'.ms F→EqVL F (inner u.kind d) l m:=by
      intro l
      induction l with
      |nil =>
       intro m s s' hlm I hw hl hm h E
       cases m with
       |nil=>exact I4 _ _
       |cons b m=>cases hlm
      |cons a l ihl =>
       intro m s s' hlm I hw hl hm h E
       cases m with
       |nil=>cases hlm
       |cons b m =>
        rw [lL] at h
        obtain ⟨s1,h1,h⟩:=bind_ok h
        obtain ⟨S,hw1⟩:=nk f s a b _ _ s1 I hw hpos (hl a List.mem_cons_self) (hm b List.mem_cons_self) h1
        have hl1:=fun t ht=>bH S.ext t _ (hl t (List.mem_cons_of_mem _ ht))
        have hm1:=fun t ht=>bH S.ext t _ (hm t (List.mem_cons_of_mem _ ht))
        have S2:=(GQ (fun s a b s' I hw ha hb h=>nk f s a b _ _ s' I hw hpos ha hb h) l m s1 s' S.inv hw1 hl1 hm1 h).1
        exact EO (ih s a b _ _ s1 I hw hpos (hl a List.mem_cons_self) (hm b List.mem_cons_self) h1 (S2.ext.trans E)) (ihl m s1 s' (by simpa using hlm) S.inv hw1 hl1 hm1 h E)
     have hL:=heach u.args w.args ⟨s.ms,s.wk+1⟩ s' q4 I (by show 0≤s.wk+1;omega) ((bT _ _ _).1 hfa2.2) ((bT _ _ _).1 hfb2.2) h E
     have hw:w=⟨u.kind,u.n,u.name,w.args⟩:=by rw [q1,q2,q3];exact pJ w
     have key:EqV F d ⟨u.kind,u.n,u.name,u.args⟩ ⟨u.kind,u.n,u.name,w.args⟩:=I5 n4 hfa'.1 hL
     rw [← pJ u,← hw] at key
     exact key
mutual
def evS (σ:Int→Term):Term→Term
 |⟨k,n,s,l⟩=>if k==4 then aH (σ n) l 0 else ⟨k,n,s,evSL σ l⟩
def evSL (σ:Int→Term):List Term→List Term
 |[]=>[]
 |t::l=>evS σ t::evSL σ l
end
theorem GL (σ:Int→Term):∀ l:List Term,evSL σ l=l.map (evS σ)
 |[]=>by rw [evSL];rfl
 |t::l=>by rw [evSL,GL σ l];rfl
theorem kg (σ:Int→Term) (t:Term):evS σ t=if t.kind==4 then aH (σ t.n) t.args 0 else ⟨t.kind,t.n,t.name,t.args.map (evS σ)⟩:=by
 obtain ⟨k,n,s,l⟩:=t
 rw [evS,GL]
def iN (u:Term):Prop:=u.kind=2∨u.kind=3
theorem SS {l us:List Term} (hl:∀ u ∈ l,iN u) (k n:Int) (s:ByteArray) {d j:Int} (hd:0≤d) (hj:0≤j) :
  aI k n s (aC l us d) j=aI (aI k n s l j).1 (aI k n s l j).2.1 (aI k n s l j).2.2 us (d+j)∧inner (aI k n s l j).1 (d+j)=d+inner k j:=by
 by_cases hk:(k==2&&decide (n≥j))=true
 ·have hk0:=hk
  rw [Bool.and_eq_true,beq_iff_eq,decide_eq_true_eq] at hk
  obtain ⟨k2,hn⟩:=hk
  have e1:aI k n s l j=((l.getD ((l.length:Int) - 1 - (n - j)).toNat aG).kind,(if (l.getD ((l.length:Int) - 1 - (n - j)).toNat aG).kind==2 then (l.getD ((l.length:Int) - 1 - (n - j)).toNat aG).n+j else (l.getD ((l.length:Int) - 1 - (n - j)).toNat aG).n),(l.getD ((l.length:Int) - 1 - (n - j)).toNat aG).name):=by
   unfold aI;rw [if_pos hk0]
  have e2:aI k n s (aC l us d) j=(((aC l us d).getD ((l.length:Int) - 1 - (n - j)).toNat aG).kind,(if ((aC l us d).getD ((l.length:Int) - 1 - (n - j)).toNat aG).kind==2 then ((aC l us d).getD ((l.length:Int) - 1 - (n - j)).toNat aG).n+j else ((aC l us d).getD ((l.length:Int) - 1 - (n - j)).toNat aG).n),((aC l us d).getD ((l.length:Int) - 1 - (n - j)).toNat aG).name):=by
   unfold aI;rw [if_pos hk0,bW]
  rw [e1,e2]
  generalize hi:((l.length:Int) - 1 - (n - j)).toNat=i
  have hno:aH aG us d=aG:=by
   unfold aG
   rw [aH,bL rfl,aC]
  have eg:(aC l us d).getD i aG=aH (l.getD i aG) us d:=by
   rw [List.getD_eq_getElem?_getD,qa,List.getD_eq_getElem?_getD]
   cases l[i]? with
   |none=>exact hno.symm
   |some x=>rfl
  rw [eg,gX]
  have hin:inner k j=j:=by unfold inner;rw [k2];rfl
  rw [hin]
  have hx:iN (l.getD i aG)∨l.getD i aG=aG:=by
   by_cases h:i<l.length
   ·exact .inl (hl _ (bG h))
   ·right;rw [List.getD_eq_getElem?_getD,List.getElem?_eq_none (by omega)];rfl
  generalize l.getD i aG=x at *
  obtain ⟨xk,xn,xs,xl⟩:=x
  dsimp only
  rcases hx with hx|hx
  ·rcases hx with h2|h3
   ·have h2:xk=2:=h2
    subst h2
    refine ⟨?_,by unfold inner;rfl⟩
    by_cases hxn:xn≥d
    ·have c1:aI 2 xn xs us d=((us.getD ((us.length:Int) - 1 - (xn - d)).toNat aG).kind,(if (us.getD ((us.length:Int) - 1 - (xn - d)).toNat aG).kind==2 then (us.getD ((us.length:Int) - 1 - (xn - d)).toNat aG).n+d else (us.getD ((us.length:Int) - 1 - (xn - d)).toNat aG).n),(us.getD ((us.length:Int) - 1 - (xn - d)).toNat aG).name):=by
      unfold aI;rw [decide_eq_true hxn];rfl
     have c2:aI 2 (xn+j) xs us (d+j)=((us.getD ((us.length:Int) - 1 - (xn - d)).toNat aG).kind,(if (us.getD ((us.length:Int) - 1 - (xn - d)).toNat aG).kind==2 then (us.getD ((us.length:Int) - 1 - (xn - d)).toNat aG).n+(d+j) else (us.getD ((us.length:Int) - 1 - (xn - d)).toNat aG).n),(us.getD ((us.length:Int) - 1 - (xn - d)).toNat aG).name):=by
      unfold aI
      rw [decide_eq_true (show xn+j≥d+j by omega),show xn+j - (d+j)=xn - d by omega];rfl
     simp only [beq_self_eq_true,if_true]
     rw [c1,c2]
     dsimp only
     generalize us.getD ((us.length:Int) - 1 - (xn - d)).toNat aG=w
     cases w.kind==2
     ·rfl
     ·simp only [if_true];rw [Int.add_assoc]
    ·have c1:aI 2 xn xs us d=(2,xn,xs):=bL (by rw [decide_eq_false hxn];rfl)
     have c2:aI 2 (xn+j) xs us (d+j)=(2,xn+j,xs):=bL (by rw [decide_eq_false (by omega)];rfl)
     simp only [beq_self_eq_true,if_true]
     rw [c1,c2];rfl
   ·have h3:xk=3:=h3
    subst h3
    refine ⟨?_,by unfold inner;rfl⟩
    rw [bL (k:=3) rfl,bL (k:=3) rfl]
  ·unfold aG at hx
   injection hx with h1 h2 h3 h4
   subst h1
   refine ⟨?_,by unfold inner;rfl⟩
   rw [bL (k:=0) rfl,bL (k:=0) rfl]
 ·have hk:(k==2&&decide (n≥j))=false:=by simpa using hk
  have e1:aI k n s l j=(k,n,s):=bL hk
  have e2:aI k n s (aC l us d) j=(k,n,s):=bL hk
  rw [e1,e2]
  dsimp only
  refine ⟨(bL ?_).symm,by unfold inner;split <;> omega⟩
  cases h2:(k==2)
  ·rfl
  ·rw [h2,Bool.true_and,decide_eq_false_iff_not] at hk
   rw [Bool.true_and,decide_eq_false_iff_not]
   omega
mutual
theorem o9 {l us:List Term} (hl:∀ u ∈ l,iN u) {d:Int} (hd:0≤d):∀ (g:Term) (j:Int),0≤j→aH g (aC l us d) j=aH (aH g l j) us (d+j)
 |⟨k,n,s,m⟩,j,hj=>by
  obtain ⟨h1,h2⟩:=SS (us:=us) hl k n s hd hj
  rw [aH,aH,aH,h1,h2,AL hl hd m (inner k j) (cz hj)]
theorem AL {l us:List Term} (hl:∀ u ∈ l,iN u) {d:Int} (hd:0≤d):∀ (g:List Term) (j:Int),0≤j→aC g (aC l us d) j=aC (aC g l j) us (d+j)
 |[],j,hj=>by rw [aC,aC,aC]
 |t::g,j,hj=>by rw [aC,aC,aC,o9 hl hd t j hj,AL hl hd g j hj]
end
theorem gz {d:Int} {u:Term} (h:fw d u):iN u:=(aS h.1).1
theorem Mh {k n:Int} {s:ByteArray} {us:List Term} (hus:∀ u ∈ us,iN u) (d:Int):((aI k n s us d).1==4)=(k==4):=by
 unfold aI
 split
 ·rename_i h
  rw [Bool.and_eq_true,beq_iff_eq] at h
  rw [h.1]
  dsimp only
  by_cases hi:((us.length:Int) - 1 - (n - d)).toNat<us.length
  ·rcases hus _ (bG hi) with e|e <;> rw [e] <;> rfl
  ·rw [List.getD_eq_getElem?_getD,List.getElem?_eq_none (by omega)];rfl
 ·rfl
mutual
theorem NF {ms:List Va} {σ:Int→Term} {us:List Term} (hus:∀ u ∈ us,iN u):∀ (b:Term) (D d:Int),0≤d→aK ms b D=true→evS σ (aH b us d)=aH (evS σ b) us d
 |⟨k,n,s,l⟩,D,d,hd,hf=>by
  cases h4:(k==4)
  ·have hp:=Mh (k:=k) (n:=n) (s:=s) hus d
   rw [h4] at hp
   have hf2:=hf
   rw [aK,Bool.and_eq_true] at hf2
   rw [aH,evS,evS,hp,h4]
   simp only [Bool.false_eq_true,if_false]
   rw [aH,IZ hus l (inner k D) (inner k d) (cz hd) hf2.2]
  ·have V:=dG hf h4
   have hs:∀ u ∈ l,iN u:=fun u hu=>gz (V.args u hu)
   have k4:k=4:=by simpa using h4
   subst k4
   rw [aH,bL rfl,evS,evS]
   simp only [beq_self_eq_true,if_true]
   have:=o9 (us:=us) hs hd (σ n) 0 (Int.le_refl _)
   rw [Int.add_zero] at this
   exact this
theorem IZ {ms:List Va} {σ:Int→Term} {us:List Term} (hus:∀ u ∈ us,iN u):∀ (b:List Term) (D d:Int),0≤d→dY ms b D=true→evSL σ (aC b us d)=aC (evSL σ b) us d
 |[],D,d,hd,hf=>by rw [aC,evSL,aC]
 |t::b,D,d,hd,hf=>by
  rw [dY,Bool.and_eq_true] at hf
  rw [aC,evSL,evSL,aC,NF hus t D d hd hf.1,IZ hus b D d hd hf.2]
end
mutual
def Gd (lv:Int):Term→Int→Prop
 |⟨k,n,s,l⟩,d=>(k≠4∧(k=2→n<d∧s=aB)∧(k=3→n<lv∧s=aB))∧GdL lv l (inner k d)
def GdL (lv:Int):List Term→Int→Prop
 |[],_=>True
 |t::l,d=>Gd lv t d∧GdL lv l d
end
mutual
def Tg (tg:Int→Int) (lv:Int):Term→Prop
 |⟨k,n,s,l⟩=>(k=1→tg n≤lv)∧TgL tg lv l
def TgL (tg:Int→Int) (lv:Int):List Term→Prop
 |[]=>True
 |t::l=>Tg tg lv t∧TgL tg lv l
end
theorem DR {k n:Int} {s:ByteArray} {us:List Term} (hus:∀ u ∈ us,iN u) (d:Int):((aI k n s us d).1=1↔k=1)∧(k=1→(aI k n s us d).2.1=n):=by
 unfold aI
 split
 ·rename_i h
  rw [Bool.and_eq_true,beq_iff_eq] at h
  rw [h.1]
  dsimp only
  refine ⟨?_,fun h=>absurd h (by decide)⟩
  by_cases hi:((us.length:Int) - 1 - (n - d)).toNat<us.length
  ·rcases hus _ (bG hi) with e|e <;> rw [e] <;> decide
  ·rw [List.getD_eq_getElem?_getD,List.getElem?_eq_none (by omega)];decide
 ·exact ⟨Iff.rfl,fun _=>rfl⟩
mutual
theorem uR {tg:Int→Int} {lv:Int} {us:List Term} (hus:∀ u ∈ us,iN u):∀ (b:Term) (d:Int),Tg tg lv (aH b us d)↔Tg tg lv b
 |⟨k,n,s,l⟩,d=>by
  obtain ⟨h1,h2⟩:=DR (k:=k) (n:=n) (s:=s) hus d
  rw [aH,Tg,Tg,HV hus l (inner k d)]
  refine and_congr ⟨fun h e=>?_,fun h e=>?_⟩ Iff.rfl
  ·have:=h (h1.2 e);rw [h2 e] at this;exact this
  ·have e':=h1.1 e;rw [h2 e'];exact h e'
theorem HV {tg:Int→Int} {lv:Int} {us:List Term} (hus:∀ u ∈ us,iN u):∀ (b:List Term) (d:Int),TgL tg lv (aC b us d)↔TgL tg lv b
 |[],d=>by rw [aC]
 |t::b,d=>by rw [aC,TgL,TgL,uR hus t d,HV hus b d]
end
structure UsOk (lv:Int) (us:List Term):Prop where
 arg:∀ u ∈ us,iN u∧u.args=[]∧u.name=aB∧(u.kind=2→0≤u.n)∧(u.kind=3→lv≤u.n)
 pair:us.Pairwise (fun b u=>isF u b=false)
theorem UsOk.simp {lv:Int} {us:List Term} (U:UsOk lv us):∀ u ∈ us,iN u:=fun u hu=>(U.arg u hu).1
theorem Sb {lv D:Int} {us:List Term} (ha:∀ u ∈ us,fw D u) (hh:∀ u ∈ us,u.kind=3→lv≤u.n) (hp:us.Pairwise (fun b u=>isF u b=false)):UsOk lv us :=
 ⟨fun u hu=>⟨gz (ha u hu),(aS (ha u hu).1).2,pV (ha u hu).2.1,fun h=>((ha u hu).2.2.1 h).1,hh u hu⟩,hp⟩
theorem Nv:∀ (us:List Term) (i j:Nat) (y:Term),us.Pairwise (fun b u=>isF u b=false)→i<us.length→isF (us.getD i aG) y=true→kF us y j=some (i+j)
 |[],i,j,y,_,h,_=>absurd h (Nat.not_lt_zero _)
 |a::l,0,j,y,hp,hi,h=>by
  rw [List.getD_cons_zero] at h
  rw [kF,h,if_pos rfl,Nat.zero_add]
 |a::l,i+1,j,y,hp,hi,h=>by
  rw [List.pairwise_cons] at hp
  rw [List.getD_cons_succ] at h
  have hi':i<l.length:=by rw [List.length_cons] at hi;omega
  have h1:=hp.1 _ (bG (us:=l) hi')
  have hn:isF a y=false:=by
   cases ha:isF a y
   ·rfl
   ·exfalso
    obtain ⟨e1,e2⟩:=pW ha
    obtain ⟨e3,e4⟩:=pW h
    rw [jl] at h1
    rcases h1 with h1|h1
    ·exact h1 (by rw [e3,e1])
    ·exact h1 (by rw [e4,e2])
  rw [kF,hn]
  simp only [Bool.false_eq_true,if_false]
  rw [Nv l i (j+1) y hp.2 hi' h]
  congr 1;omega
theorem DU {lv:Int} {us:List Term} (U:UsOk lv us) {d:Int} (hd:0≤d) {k n:Int} (hk:k=2∨k=3) (h2:k=2→n<us.length+d) (h3:k=3→n<lv) (s:ByteArray) :
  ((aI k n s us d).1=2∨(aI k n s us d).1=3)∧bX lv us ⟨(aI k n s us d).1,(aI k n s us d).2.1,aB,[]⟩ d=(⟨k,n,aB,[]⟩,true):=by
 have hp:uH us d ⟨k,n,s,[]⟩:=sJ h2
 cases hp with
 |same h hl =>
  have h:aI k n s us d=(k,n,s):=h
  have hl:k=2→n<d:=hl
  rw [h]
  refine ⟨hk,?_⟩
  unfold bX
  rcases hk with e|e
  ·subst e
   simp only [beq_self_eq_true,if_true]
   rw [if_pos (decide_eq_true (hl rfl))]
  ·subst e
   simp only [show ((3:Int)==2)=false from rfl,Bool.false_eq_true,if_false,beq_self_eq_true,Bool.true_and]
   rw [if_pos (decide_eq_true (h3 rfl))]
 |put e2 hj i hi e h =>
  have e2:k=2:=e2
  have hj:d≤n:=hj
  have e:(i:Int)=us.length - 1 - (n - d):=e
  have h:aI k n s us d=_:=h
  rw [h]
  have hu:=U.arg _ (bG hi)
  have hf:∀ y:Term,isF (us.getD i aG) y=true→kF us y 0=some i:=fun y hy=>by
   have:=Nv us i 0 y U.pair hi hy
   rw [Nat.add_zero] at this;exact this
  generalize us.getD i aG=u at *
  obtain ⟨uk,un,us',ul⟩:=u
  dsimp only at hu ⊢
  refine ⟨hu.1,?_⟩
  unfold bX
  rcases hu.1 with a|a
  ·have a:uk=2:=a
   subst a
   have:=hu.2.2.2.1 rfl
   simp only [beq_self_eq_true,if_true]
   rw [if_neg (by simp;omega)]
   unfold jD
   rw [hf _ (by unfold isF;simp)]
   subst e2
   dsimp only
   rw [show (us.length:Int) - 1 - i+d=n by omega]
  ·have a:uk=3:=a
   subst a
   have:=hu.2.2.2.2 rfl
   simp only [show ((3:Int)==2)=false from rfl,Bool.false_eq_true,if_false,beq_self_eq_true,Bool.true_and]
   rw [if_neg (by simp;omega)]
   unfold jD
   rw [hf _ (by unfold isF;simp)]
   subst e2
   dsimp only
   rw [show (us.length:Int) - 1 - i+d=n by omega]
mutual
def unfT (lv:Int) (us:List Term):Term→Int→Option Term
 |⟨k,n,s,l⟩,d =>
  if bY k then (if (bX lv us ⟨k,n,aB,[]⟩ d).2 then (unfL lv us l (inner k d)).map fun m=>⟨(bX lv us ⟨k,n,aB,[]⟩ d).1.kind,(bX lv us ⟨k,n,aB,[]⟩ d).1.n,(bX lv us ⟨k,n,aB,[]⟩ d).1.name,m⟩ else none)
  else (unfL lv us l (inner k d)).map fun m=>⟨k,n,s,m⟩
def unfL (lv:Int) (us:List Term):List Term→Int→Option (List Term)
 |[],_=>some []
 |t::l,d=>(unfT lv us t d).bind fun x=>(unfL lv us l d).map fun xs=>x::xs
end
theorem qF {k:Int}:bY k=true↔k=2∨k=3:=by unfold bY;simp
theorem jJ {k:Int} (h:k=2∨k=3) (d:Int):inner k d=d:=by unfold inner;rcases h with e|e <;> rw [e] <;> rfl
mutual
theorem wN {lv:Int} {us:List Term} (U:UsOk lv us):∀ (u:Term) (d:Int),0≤d→Gd lv u (us.length+d)→unfT lv us (aH u us d) d=some u
 |⟨k,n,s,l⟩,d,hd,h=>by
  rw [Gd] at h
  obtain ⟨⟨h4,h2,h3⟩,hl⟩:=h
  rw [aH,unfT]
  by_cases hk:k=2∨k=3
  ·obtain ⟨p1,p2⟩:=DU U hd hk (fun e=>(h2 e).1) (fun e=>(h3 e).1) s
   have ih:=xH U l d hd (by rw [jJ hk] at hl;exact hl)
   rw [if_pos (qF.2 p1),p2,if_pos rfl,jJ p1,jJ hk,ih]
   have hs:s=aB:=hk.elim (fun e=>(h2 e).2) (fun e=>(h3 e).2)
   rw [hs];rfl
  ·have hk2:(k==2)=false:=by simp;omega
   rw [bL (by rw [hk2];rfl)]
   have hv:bY k=false:=by
    cases hv:bY k
    ·rfl
    ·exact absurd (qF.1 hv) hk
   rw [hv]
   simp only [Bool.false_eq_true,if_false]
   have hi:inner k ((us.length:Int)+d)=us.length+inner k d:=by unfold inner;split <;> omega
   rw [xH U l (inner k d) (cz hd) (by rw [← hi];exact hl)]
   rfl
theorem xH {lv:Int} {us:List Term} (U:UsOk lv us):∀ (u:List Term) (d:Int),0≤d→GdL lv u (us.length+d)→unfL lv us (aC u us d) d=some u
 |[],d,hd,h=>by rw [aC,unfL]
 |t::u,d,hd,h=>by
  rw [GdL] at h
  rw [aC,unfL,wN U t d hd h.1,xH U u d hd h.2];rfl
end
theorem Mg {lv:Int} {us:List Term} (U:UsOk lv us) {d:Int} (hd:0≤d) {k n:Int} (hk:k=2∨k=3) {z:Term} (h:om lv us d ⟨k,n,aB,[]⟩ z) :
  aI z.kind z.n z.name us d=(k,n,aB)∧(z.kind=2∨z.kind=3)∧z.name=aB∧(z.kind=2→z.n<us.length+d)∧(z.kind=3→z.n<lv):=by
 cases h with
 |low h2 hl =>
  have h2:k=2:=h2
  have hl:n<d:=hl
  exact ⟨bL (by show (k==2&&decide (n≥d))=false;rw [decide_eq_false (by omega),Bool.and_false]),hk,rfl,fun _=>(by show n<_;omega),fun e=>(by have:k=3:=e;omega)⟩
 |par h3 hl =>
  have h3:k=3:=h3
  have hl:n<lv:=hl
  exact ⟨bL (by show (k==2&&_)=false;rw [h3];rfl),hk,rfl,fun e=>(by have:k=2:=e;omega),fun _=>hl⟩
 |seat i hi hk2 hn g2 g3 =>
  have hf:=kK (us:=us) hi hd
  rw [gX] at hf
  injection hf with f1 f2 f3 _
  have hu:=U.arg _ (bG hi)
  have hk2:(us.getD i aG).kind=k:=hk2
  have hn:(us.getD i aG).n=if k=2 then n - d else n:=hn
  refine ⟨Prod.ext (f1.trans hk2) (Prod.ext (f2.trans ?_) (f3.trans hu.2.2.1)),.inl rfl,rfl,fun _=>(by show (us.length:Int) - 1 - i+d<_;omega),fun e=>absurd (show (2:Int)=3 from e) (by decide)⟩
  rw [hk2,hn]
  by_cases e:k=2
  ·rw [e];simp
  ·rw [if_neg e,if_neg (by simpa using e)]
mutual
theorem CB {lv lv':Int} {us:List Term} (U:UsOk lv us):∀ (v:Term) (d D:Int) (b:Term),0≤d→Gd lv' v D→unfT lv us v d=some b→aH b us d=v∧Gd lv b (us.length+d)
 |⟨k,n,s,l⟩,d,D,b,hd,hg,h=>by
  rw [Gd] at hg
  obtain ⟨⟨h4,h2,h3⟩,hl⟩:=hg
  rw [unfT] at h
  split at h
  ·rename_i hv
   have hk:=qF.1 hv
   have hs:s=aB:=hk.elim (fun e=>(h2 e).2) (fun e=>(h3 e).2)
   split at h
   case isFalse=>cases h
   rename_i hp
   obtain ⟨q1,q2,q3,q4,q5⟩:=Mg U hd hk (iP (y:=⟨k,n,aB,[]⟩) hk hp)
   generalize (bX lv us ⟨k,n,aB,[]⟩ d).1=z at *
   cases hu:unfL lv us l (inner k d) with
   |none=>rw [hu] at h;cases h
   |some m =>
    rw [hu] at h
    injection h with h
    subst h
    rw [jJ hk] at hu hl
    obtain ⟨r1,r2⟩:=yK U l d D m hd hl hu
    refine ⟨?_,?_⟩
    ·rw [aH,q1,jJ q2,r1,hs]
    ·rw [Gd,jJ q2]
     exact ⟨⟨fun e=>by omega,fun e=>⟨q4 e,q3⟩,fun e=>⟨q5 e,q3⟩⟩,r2⟩
  ·rename_i hv
   have hk:¬ (k=2∨k=3):=fun e=>hv (qF.2 e)
   cases hu:unfL lv us l (inner k d) with
   |none=>rw [hu] at h;cases h
   |some m =>
    rw [hu] at h
    injection h with h
    subst h
    obtain ⟨r1,r2⟩:=yK U l (inner k d) _ m (cz hd) hl hu
    have hk2:(k==2)=false:=by simp;omega
    refine ⟨?_,?_⟩
    ·rw [aH,bL (by rw [hk2];rfl),r1]
    ·have hi:inner k ((us.length:Int)+d)=us.length+inner k d:=by unfold inner;split <;> omega
     rw [Gd,hi]
     exact ⟨⟨h4,fun e=>absurd (.inl e) hk,fun e=>absurd (.inr e) hk⟩,r2⟩
theorem yK {lv lv':Int} {us:List Term} (U:UsOk lv us):∀ (v:List Term) (d D:Int) (b:List Term),0≤d→GdL lv' v D→unfL lv us v d=some b→aC b us d=v∧GdL lv b (us.length+d)
 |[],d,D,b,hd,hg,h=>by
  rw [unfL] at h;injection h with h;subst h
  exact ⟨by rw [aC],by rw [GdL];trivial⟩
 |t::v,d,D,b,hd,hg,h=>by
  rw [GdL] at hg
  rw [unfL] at h
  cases h1:unfT lv us t d with
  |none=>rw [h1] at h;cases h
  |some x =>
   cases h2:unfL lv us v d with
   |none=>rw [h1,h2] at h;cases h
   |some xs =>
    rw [h1,h2] at h
    injection h with h
    subst h
    obtain ⟨a1,a2⟩:=CB U t d D x hd hg.1 h1
    obtain ⟨b1,b2⟩:=yK U v d D xs hd hg.2 h2
    exact ⟨by rw [aC,a1,b1],by rw [GdL];exact ⟨a2,b2⟩⟩
end
mutual
def LfT (C:Int→Int→Int→Prop):Term→Int→Prop
 |⟨k,n,_,l⟩,j=>(bY k=true→C k n j)∧LfL C l (inner k j)
def LfL (C:Int→Int→Int→Prop):List Term→Int→Prop
 |[],_=>True
 |t::l,j=>LfT C t j∧LfL C l j
end
mutual
theorem Gm {C E:Int→Int→Int→Prop} (h:∀ k n j,0≤j→(k=2∨k=3)→C k n j→E k n j):∀ (t:Term) (j:Int),0≤j→LfT C t j→LfT E t j
 |⟨k,n,s,l⟩,j,hj,hc=>by
  rw [LfT] at hc ⊢
  exact ⟨fun hv=>h k n j hj (qF.1 hv) (hc.1 hv),IB h l _ (cz hj) hc.2⟩
theorem IB {C E:Int→Int→Int→Prop} (h:∀ k n j,0≤j→(k=2∨k=3)→C k n j→E k n j):∀ (t:List Term) (j:Int),0≤j→LfL C t j→LfL E t j
 |[],j,hj,hc=>by rw [LfL];trivial
 |t::l,j,hj,hc=>by
  rw [LfL] at hc ⊢
  exact ⟨Gm h t j hj hc.1,IB h l j hj hc.2⟩
end
mutual
theorem M0 {C E:Int→Int→Int→Prop}:∀ (t:Term) (j:Int),LfT C t j→LfT E t j→LfT (fun k n j=>C k n j∧E k n j) t j
 |⟨k,n,s,l⟩,j,hc,he=>by
  rw [LfT] at hc he ⊢
  exact ⟨fun hv=>⟨hc.1 hv,he.1 hv⟩,MZ l _ hc.2 he.2⟩
theorem MZ {C E:Int→Int→Int→Prop}:∀ (t:List Term) (j:Int),LfL C t j→LfL E t j→LfL (fun k n j=>C k n j∧E k n j) t j
 |[],j,hc,he=>by rw [LfL];trivial
 |t::l,j,hc,he=>by
  rw [LfL] at hc he ⊢
  exact ⟨M0 t j hc.1 he.1,MZ l j hc.2 he.2⟩
end
mutual
theorem Tp {lv:Int}:∀ (t:Term) (D j:Int),Gd lv t (D+j)→LfT (fun k n j=>(k=2→n<D+j)∧(k=3→n<lv)) t j
 |⟨k,n,s,l⟩,D,j,h=>by
  rw [Gd] at h
  rw [LfT]
  have hi:inner k (D+j)=D+inner k j:=by unfold inner;split <;> omega
  exact ⟨fun _=>⟨fun e=>(h.1.2.1 e).1,fun e=>(h.1.2.2 e).1⟩,RA l D _ (by rw [← hi];exact h.2)⟩
theorem RA {lv:Int}:∀ (t:List Term) (D j:Int),GdL lv t (D+j)→LfL (fun k n j=>(k=2→n<D+j)∧(k=3→n<lv)) t j
 |[],D,j,h=>by rw [LfL];trivial
 |t::l,D,j,h=>by
  rw [GdL] at h
  rw [LfL]
  exact ⟨Tp t D j h.1,RA l D j h.2⟩
end
mutual
theorem BA {lv:Int} {us:List Term}:∀ (t:Term) (j:Int),LfT (fun k n j=>(bX lv us ⟨k,n,aB,[]⟩ j).2=true) t j→∃ b,unfT lv us t j=some b
 |⟨k,n,s,l⟩,j,h=>by
  rw [LfT] at h
  obtain ⟨m,hm⟩:=Dr l _ h.2
  rw [unfT,hm]
  split
  ·rename_i hv
   rw [if_pos (h.1 hv)]
   exact ⟨_,rfl⟩
  ·exact ⟨_,rfl⟩
theorem Dr {lv:Int} {us:List Term}:∀ (t:List Term) (j:Int),LfL (fun k n j=>(bX lv us ⟨k,n,aB,[]⟩ j).2=true) t j→∃ b,unfL lv us t j=some b
 |[],j,h=>⟨[],by rw [unfL]⟩
 |t::l,j,h=>by
  rw [LfL] at h
  obtain ⟨x,hx⟩:=BA t j h.1
  obtain ⟨m,hm⟩:=Dr l j h.2
  exact ⟨x::m,by rw [unfL,hx,hm];rfl⟩
end
theorem Rq {ts:List Term} (hts:∀ u ∈ ts,iN u) {k n:Int} {s:ByteArray} {j:Int} (hk:k=2∨k=3) (h2:k=2→n<ts.length+j):(aI k n s ts j).1=2∨(aI k n s ts j).1=3:=by
 have hp:uH ts j ⟨k,n,s,[]⟩:=sJ h2
 cases hp with
 |same h _=>have h:aI k n s ts j=(k,n,s):=h;rw [h];exact hk
 |put e2 hj i hi e h=>have h:aI k n s ts j=_:=h;rw [h];exact hts _ (bG hi)
mutual
theorem Ht {lv lY:Int} {us ts:List Term} (hts:∀ u ∈ ts,iN u) {d:Int}:∀ (g:Term) (j:Int) (u:Term),Gd lY g (ts.length+j)→unfT lv us (aH g ts j) (d+j)=some u→LfT (fun k n j=>(bX lv us ⟨(aI k n aB ts j).1,(aI k n aB ts j).2.1,aB,[]⟩ (d+j)).2=true) g j
 |⟨k,n,s,l⟩,j,u,hg,h=>by
  rw [aH,unfT] at h
  rw [LfT]
  rw [Gd] at hg
  have hs1:(aI k n s ts j).1=(aI k n aB ts j).1:=by unfold aI;split <;> rfl
  have hs2:(aI k n s ts j).2.1=(aI k n aB ts j).2.1:=by unfold aI;split <;> rfl
  rw [hs1,hs2] at h
  by_cases hk:k=2∨k=3
  ·have hin:=jJ hk
   by_cases hp:bY (aI k n aB ts j).1=true
   ·rw [if_pos hp] at h
    split at h
    case isFalse=>cases h
    rename_i hpl
    cases hu:unfL lv us (aC l ts (inner k j)) (inner (aI k n aB ts j).1 (d+j)) with
    |none=>rw [hu] at h;cases h
    |some m =>
     rw [jJ (qF.1 hp),hin] at hu
     exact ⟨fun _=>hpl,by rw [hin];exact xG hts l j m (by rw [jJ hk] at hg;exact hg.2) hu⟩
   ·exfalso
    exact hp (qF.2 (Rq hts hk fun e=>(hg.1.2.1 e).1))
  ·have hk2:(k==2)=false:=by simp;omega
   have hv:bY k=false:=by
    cases hv:bY k
    ·rfl
    ·exact absurd (qF.1 hv) hk
   rw [bL (by rw [hk2];rfl)] at h
   dsimp only at h
   rw [hv] at h
   simp only [Bool.false_eq_true,if_false] at h
   cases hu:unfL lv us (aC l ts (inner k j)) (inner k (d+j)) with
   |none=>rw [hu] at h;cases h
   |some m =>
    have hi:inner k (d+j)=d+inner k j:=by unfold inner;split <;> omega
    rw [hi] at hu
    have hi2:inner k ((ts.length:Int)+j)=ts.length+inner k j:=by unfold inner;split <;> omega
    exact ⟨fun e=>(by rw [hv] at e;exact absurd e (by decide)),xG hts l _ m (by rw [← hi2];exact hg.2) hu⟩
theorem xG {lv lY:Int} {us ts:List Term} (hts:∀ u ∈ ts,iN u) {d:Int}:∀ (g:List Term) (j:Int) (u:List Term),GdL lY g (ts.length+j)→unfL lv us (aC g ts j) (d+j)=some u→LfL (fun k n j=>(bX lv us ⟨(aI k n aB ts j).1,(aI k n aB ts j).2.1,aB,[]⟩ (d+j)).2=true) g j
 |[],j,u,hg,h=>by rw [LfL];trivial
 |t::g,j,u,hg,h=>by
  rw [aC,unfL] at h
  rw [GdL] at hg
  rw [LfL]
  cases h1:unfT lv us (aH t ts j) (d+j) with
  |none=>rw [h1] at h;cases h
  |some x =>
   cases h2:unfL lv us (aC g ts j) (d+j) with
   |none=>rw [h1,h2] at h;cases h
   |some xs=>exact ⟨Ht hts t j x hg.1 h1,xG hts g j xs hg.2 h2⟩
end
theorem Nu:∀ (us:List Term) (y:Term) (i:Nat),(∃ u ∈ us,isF u y=true)→∃ j,kF us y i=some j
 |[],y,i,⟨u,hu,_⟩=>absurd hu List.not_mem_nil
 |a::l,y,i,⟨u,hu,h⟩=>by
  rw [kF]
  split
  ·exact ⟨i,rfl⟩
  ·rename_i ha
   rcases List.mem_cons.1 hu with rfl|hu
   ·exact absurd h ha
   ·exact Nu l y (i+1) ⟨u,hu,h⟩
theorem oN {lv:Int} {us:List Term} {d k n:Int} (hk:k=2∨k=3):(bX lv us ⟨k,n,aB,[]⟩ d).2=true↔(k=2∧n<d)∨(k=3∧n<lv)∨∃ u ∈ us,u.kind=k∧u.n=if k=2 then n - d else n:=by
 constructor
 ·intro h
  have P:=iP (y:=⟨k,n,aB,[]⟩) hk h
  generalize (bX lv us ⟨k,n,aB,[]⟩ d).1=z at P
  cases P with
  |low h2 hl=>exact .inl ⟨h2,hl⟩
  |par h3 hl=>exact .inr (.inl ⟨h3,hl⟩)
  |seat i hi hk2 hn g2 g3=>exact .inr (.inr ⟨_,bG hi,hk2,hn⟩)
 ·intro h
  have go:∀ y:Term,(∃ u ∈ us,isF u y=true)→(jD us y d).2=true:=fun y hy=>by
   obtain ⟨j,hj⟩:=Nu us y 0 hy
   unfold jD;rw [hj]
  unfold bX
  rcases hk with e|e
  ·subst e
   simp only [beq_self_eq_true,if_true]
   by_cases hl:n<d
   ·rw [if_pos (decide_eq_true hl)]
   ·rw [if_neg (by simpa using hl)]
    rcases h with ⟨_,h⟩|⟨h,_⟩|⟨u,hu,h1,h2⟩
    ·exact absurd h hl
    ·exact absurd h (by decide)
    ·refine go _ ⟨u,hu,?_⟩
     rw [if_pos rfl] at h2
     unfold isF;rw [h1,h2];simp
  ·subst e
   simp only [show ((3:Int)==2)=false from rfl,Bool.false_eq_true,if_false,beq_self_eq_true,Bool.true_and]
   by_cases hl:n<lv
   ·rw [if_pos (decide_eq_true hl)]
   ·rw [if_neg (by simpa using hl)]
    rcases h with ⟨h,_⟩|⟨_,h⟩|⟨u,hu,h1,h2⟩
    ·exact absurd h (by decide)
    ·exact absurd h hl
    ·refine go _ ⟨u,hu,?_⟩
     rw [if_neg (by decide)] at h2
     unfold isF;rw [h1,h2];simp
theorem IJ {lv:Int} {us:List Term} {d:Int}:∀ (l:List Term) (i k:Nat),k<l.length→(bX lv us (l.getD k aG) d).2=true→i+k ∈ (iX lv us d l i).1
 |[],i,k,h,_=>absurd h (Nat.not_lt_zero _)
 |y::l,i,0,h,hp=>by
  rw [List.getD_cons_zero] at hp
  rw [iX,if_pos hp]
  exact List.mem_cons_self
 |y::l,i,k+1,h,hp=>by
  rw [List.getD_cons_succ] at hp
  have:=IJ l (i+1) k (by rw [List.length_cons] at h;omega) hp
  rw [show i+(k+1)=i+1+k by omega,iX]
  split
  ·exact List.mem_cons_of_mem _ this
  ·exact this
theorem AQ {olv wlv:Int}:∀ (l:List Term) (i:Nat) (a:Term),a ∈ l→ru olv wlv a=true→a ∈ (j6 olv wlv l i).map (·.2)
 |[],i,a,h,_=>absurd h List.not_mem_nil
 |b::l,i,a,h,hx=>by
  rw [j6]
  rcases List.mem_cons.1 h with rfl|h
  ·rw [if_pos hx];exact List.mem_cons_self
  ·have:=AQ l (i+1) a h hx
   split
   ·exact List.mem_cons_of_mem _ this
   ·exact this
theorem Ii:∀ (l m:List Term) (i k:Nat),k<l.length→k<m.length→isF (l.getD k aG) (m.getD k aG)=true→i+k ∈ fe l m i
 |[],m,i,k,h,_,_=>absurd h (Nat.not_lt_zero _)
 |a::l,[],i,k,_,h,_=>absurd h (Nat.not_lt_zero _)
 |a::l,b::m,i,0,_,_,h=>by
  rw [List.getD_cons_zero,List.getD_cons_zero] at h
  rw [fe,if_pos h];exact List.mem_cons_self
 |a::l,b::m,i,k+1,h1,h2,h=>by
  rw [List.getD_cons_succ,List.getD_cons_succ] at h
  have:=Ii l m (i+1) k (by rw [List.length_cons] at h1;omega) (by rw [List.length_cons] at h2;omega) h
  rw [show i+(k+1)=i+1+k by omega,fe]
  split
  ·exact List.mem_cons_of_mem _ this
  ·exact this
mutual
theorem NJ {ts bs:List Term}:∀ (g:Term) (j:Int),aH g ts j=aH g bs j→LfT (fun k n j=>(aI k n aB ts j).1=(aI k n aB bs j).1∧(aI k n aB ts j).2.1=(aI k n aB bs j).2.1) g j
 |⟨k,n,s,l⟩,j,h=>by
  rw [aH,aH] at h
  injection h with e1 e2 e3 e4
  have hs:∀ us:List Term,(aI k n s us j).1=(aI k n aB us j).1∧(aI k n s us j).2.1=(aI k n aB us j).2.1:=fun us=>by unfold aI;split <;> exact ⟨rfl,rfl⟩
  rw [(hs ts).1,(hs bs).1] at e1
  rw [(hs ts).2,(hs bs).2] at e2
  rw [LfT]
  exact ⟨fun _=>⟨e1,e2⟩,I6 l _ e4⟩
theorem I6 {ts bs:List Term}:∀ (g:List Term) (j:Int),aC g ts j=aC g bs j→LfL (fun k n j=>(aI k n aB ts j).1=(aI k n aB bs j).1∧(aI k n aB ts j).2.1=(aI k n aB bs j).2.1) g j
 |[],j,h=>by rw [LfL];trivial
 |t::g,j,h=>by
  rw [aC,aC] at h
  injection h with e1 e2
  rw [LfL]
  exact ⟨NJ t j e1,I6 g j e2⟩
end
mutual
theorem Cw {lY lX:Int} (hle:lY≤lX) {B:Int} (hB:0≤B) {l:List Term} (hl:∀ u ∈ l,iN u∧u.name=aB∧(u.kind=2→u.n<B)∧(u.kind=3→u.n<lX)):∀ (g:Term) (j:Int),0≤j→Gd lY g (l.length+j)→Gd lX (aH g l j) (B+j)
 |⟨k,n,s,m⟩,j,hj,h=>by
  rw [Gd] at h
  obtain ⟨⟨h4,h2,h3⟩,hm⟩:=h
  rw [aH,Gd]
  by_cases hk:k=2∨k=3
  ·have p23:=Rq (fun u hu=>(hl u hu).1) hk (fun e=>(h2 e).1) (s:=s)
   rw [jJ hk] at hm ⊢
   rw [jJ p23]
   refine ⟨?_,Cv hle hB hl m j hj hm⟩
   have hp:uH l j ⟨k,n,s,[]⟩:=sJ fun e=>(h2 e).1
   cases hp with
   |same h hlow =>
    have h:aI k n s l j=(k,n,s):=h
    have hlow:k=2→n<j:=hlow
    rw [h]
    exact ⟨h4,fun e=>⟨by have:=hlow e;show n<_;omega,(h2 e).2⟩,fun e=>⟨by have:=(h3 e).1;show n<_;omega,(h3 e).2⟩⟩
   |put e2 hjn i hi e h =>
    have h:aI k n s l j=_:=h
    rw [h]
    have hu:=hl _ (bG hi)
    generalize l.getD i aG=u at *
    dsimp only
    refine ⟨fun e4=>?_,fun e2=>?_,fun e3=>?_⟩
    ·rcases hu.1 with a|a <;> omega
    ·have:=hu.2.2.1 e2
     rw [if_pos (by simpa using e2)]
     exact ⟨by omega,hu.2.1⟩
    ·have:=hu.2.2.2 e3
     rw [if_neg (by simp;omega)]
     exact ⟨this,hu.2.1⟩
  ·have hk2:(k==2)=false:=by simp;omega
   rw [bL (by rw [hk2];rfl)]
   have hi:∀ x:Int,inner k (x+j)=x+inner k j:=fun x=>by unfold inner;split <;> omega
   rw [hi] at hm ⊢
   exact ⟨⟨h4,fun e=>absurd (.inl e) hk,fun e=>absurd (.inr e) hk⟩,Cv hle hB hl m (inner k j) (cz hj) hm⟩
theorem Cv {lY lX:Int} (hle:lY≤lX) {B:Int} (hB:0≤B) {l:List Term} (hl:∀ u ∈ l,iN u∧u.name=aB∧(u.kind=2→u.n<B)∧(u.kind=3→u.n<lX)):∀ (g:List Term) (j:Int),0≤j→GdL lY g (l.length+j)→GdL lX (aC g l j) (B+j)
 |[],j,hj,h=>by rw [aC,GdL];trivial
 |t::g,j,hj,h=>by
  rw [GdL] at h
  rw [aC,GdL]
  exact ⟨Cw hle hB hl t j hj h.1,Cv hle hB hl g j hj h.2⟩
end
theorem IX {lv:Int} {us:List Term} (U:UsOk lv us) {d:Int} (hd:0≤d) {u w:Term} (hu:Gd lv u (us.length+d)) (hw:Gd lv w (us.length+d)) (e:aH u us d=aH w us d):u=w:=by
 have h1:=wN U u d hd hu
 have h2:=wN U w d hd hw
 rw [e,h2] at h1
 injection h1 with h1
 exact h1.symm
def AgS (n:Nat) (σ σ':Int→Term):Prop:=∀ k:Int,0≤k→k<(n:Int)→σ' k=σ k
theorem AgS.trans {n m:Nat} {a b c:Int→Term} (h:AgS n a b) (h2:AgS m b c) (hn:n≤m):AgS n a c:=fun k h0 h1=>(h2 k h0 (by omega)).trans (h k h0 h1)
structure Mod (tg:Int→Int) (ms:List Va) (σ:Int→Term):Prop where
 gd:∀ n:Int,0≤n→n<(ms.length:Int)→Gd (ak ms n).level (σ n) (aX (ak ms n).type)
 tag:∀ n:Int,0≤n→n<(ms.length:Int)→Tg tg (ak ms n).level (σ n)
 nl:∀ n:Int,0≤n→n<(ms.length:Int)→(σ n).kind≠5
 eq:∀ n:Int,0≤n→n<(ms.length:Int)→(ak ms n).is=true→σ n=evS σ (eD (aX (ak ms n).type) (ak ms n).t).1
mutual
theorem jU {ms:List Va} {σ σ':Int→Term} (h:AgS ms.length σ σ'):∀ (t:Term) (d:Int),aK ms t d=true→evS σ' t=evS σ t
 |⟨k,n,s,l⟩,d,hf=>by
  rw [evS,evS]
  cases h4:(k==4)
  ·rw [aK,Bool.and_eq_true] at hf
   simp only [Bool.false_eq_true,if_false]
   rw [EN h l _ hf.2]
  ·have V:=dG hf h4
   simp only [if_true]
   rw [h n V.n0 V.n1]
theorem EN {ms:List Va} {σ σ':Int→Term} (h:AgS ms.length σ σ'):∀ (t:List Term) (d:Int),dY ms t d=true→evSL σ' t=evSL σ t
 |[],d,hf=>by rw [evSL,evSL]
 |t::l,d,hf=>by
  rw [dY,Bool.and_eq_true] at hf
  rw [evSL,evSL,jU h t d hf.1,EN h l d hf.2]
end
theorem ND {tg:Int→Int} {ms:List Va} {σ:Int→Term} (I:Inv ms) (M:Mod tg ms σ) {d:Int} (hd:0≤d) {t u:Term} {k:Nat} (h:rU ms k t u):aK ms t d=true→evS σ t=evS σ u:=by
 induction h with
 |done _=>exact fun _=>rfl
 |@step t u k h4 hi hs ih =>
  intro hf
  obtain ⟨hp,h2,h3,h1,h6,h5,hn0,hn1⟩:=wP I hd hf h4 hi
  have hff:=fQ hp (dJ ms t) 0 (Int.le_refl _) (by rw [Int.add_zero];exact h2) h3
  rw [Int.add_zero] at hff
  have V:=dG hf h4
  rw [← ih hff,kg σ t,h4,if_pos rfl,M.eq t.n hn0 hn1 hi,NF (fun u hu=>gz (V.args u hu)) (dJ ms t) _ 0 (Int.le_refl _) h2]
  unfold dJ
  rw [V.ar]
theorem CG {tg:Int→Int} {ms:List Va} {σ:Int→Term} (I:Inv ms) (M:Mod tg ms σ) {d:Int} (hd:0≤d) {t:Term} (hf:aK ms t d=true):evS σ (gK ms t)=evS σ t:=by
 obtain ⟨k,h⟩:=IR I hd hf
 exact (ND I M hd h.hs hf).symm
theorem Cg {tg:Int→Int} {s:Sv} {σ:Int→Term} (M:Mod tg s.ms σ) {n:Int} {b:Term} (h0:0≤n) (h1:n<(s.ms.length:Int)) (hu:(ak s.ms n).is=false) (e:σ n=evS σ b):Mod tg (kr s n b).ms σ:=by
 have E:ExtS s.ms (s.ms.set n.toNat (l6 (ak s.ms n) b)):=GI h0 h1 hu rfl rfl
 have hl:(kr s n b).ms.length=s.ms.length:=by simp only [kr,List.length_set]
 refine ⟨fun k k0 k1=>?_,fun k k0 k1=>?_,fun k k0 k1=>M.nl k k0 (by omega),fun k k0 k1 hi=>?_⟩
 ·show Gd (ak (s.ms.set _ _) k).level _ (aX (ak (s.ms.set _ _) k).type)
  rw [E.lev k k0 (by omega),E.typ k k0 (by omega)];exact M.gd k k0 (by omega)
 ·show Tg tg (ak (s.ms.set _ _) k).level _
  rw [E.lev k k0 (by omega)];exact M.tag k k0 (by omega)
 ·by_cases hk:k=n
  ·subst hk
   have hv:ak (kr s k b).ms k=l6 (ak s.ms k) b:=kN h0 h1
   rw [hv]
   show σ k=evS σ (eD (aX (ak s.ms k).type) (fE (aX (ak s.ms k).type) b)).1
   rw [uw];exact e
  ·have hv:ak (kr s n b).ms k=ak s.ms k:=oz (by omega)
   rw [hv] at hi ⊢
   exact M.eq k k0 (by omega) hi
def lT (σ:Int→Term) (N:Nat) (b:Term):Int→Term:=fun k=>if k=(N:Int) then b else σ k
theorem yg (σ:Int→Term) (N:Nat) (b:Term):AgS N σ (lT σ N b):=fun k h0 h1=>by unfold lT;rw [if_neg (by omega)]
theorem MN {tg:Int→Int} {ms:List Va} {σ:Int→Term} (I:Inv ms) (M:Mod tg ms σ) {lv:Int} {ty:Ty} {b:Term} (g:Gd lv b (aX ty)) (gt:Tg tg lv b) (nl:b.kind≠5):Mod tg (ms++[lK lv ty]) (lT σ ms.length b):=by
 have A:=yg σ ms.length b
 have hl:(ms++[lK lv ty]).length=ms.length+1:=by simp
 have old:∀ k:Int,0≤k→k<((ms++[lK lv ty]).length:Int)→k≠ms.length→k<(ms.length:Int):=fun k h0 h1 hn=>by omega
 have hN:lT σ ms.length b (ms.length:Int)=b:=by unfold lT;rw [if_pos rfl]
 refine ⟨fun k k0 k1=>?_,fun k k0 k1=>?_,fun k k0 k1=>?_,fun k k0 k1 hi=>?_⟩
 all_goals
  by_cases hk:k=(ms.length:Int)
  ·subst hk
   first
   |(rw [oC] at hi;exact absurd (show false=true from hi) (by decide))
   |(rw [hN];first|exact nl|(rw [oC];first|exact g|exact gt))
  ·have k2:=old k k0 k1 hk
   first
   |(rw [A k k0 k2];exact M.nl k k0 k2)
   |(rw [A k k0 k2,jc k0 k2];first|exact M.gd k k0 k2|exact M.tag k k0 k2)
   |(rw [jc k0 k2] at hi ⊢
     rw [A k k0 k2,jU A _ _ ((I.val _ (jQ k0 k2)).val hi).2.1]
     exact M.eq k k0 k2 hi)
def Full {α:Type} (P:α→Prop):Rz α→Prop
 |.ok a=>P a
 |.clash=>False
 |.large _=>True
theorem Full.bind {α β:Type} {P:α→Prop} {Q:β→Prop} {r:Rz α} {f:α→Rz β} (h:Full P r) (k:∀ a,r=.ok a→P a→Full Q (f a)):Full Q (r.bind f):=by
 cases r with
 |ok a=>exact k a rfl h
 |clash=>exact h.elim
 |large e=>trivial
theorem full_of {α:Type} {P:α→Prop} {r:Rz α} (h:r≠.clash) (k:∀ a,r=.ok a→P a):Full P r:=by
 cases r with
 |ok a=>exact k a rfl
 |clash=>exact (h rfl).elim
 |large e=>trivial
theorem qc {g:Term} {us:List Term} {d:Int} (hus:∀ u ∈ us,iN u):(aH g us d).kind=5↔g.kind=5:=by
 rw [gX]
 dsimp only
 unfold aI
 split
 ·rename_i h
  rw [Bool.and_eq_true,beq_iff_eq] at h
  rw [h.1]
  dsimp only
  by_cases hi:((us.length:Int) - 1 - (g.n - d)).toNat<us.length
  ·rcases hus _ (bG hi) with e|e <;> rw [e] <;> decide
  ·rw [List.getD_eq_getElem?_getD,List.getElem?_eq_none (by omega)];decide
 ·exact Iff.rfl
theorem lW {σ:Int→Term} {t:Term} (h4:(t.kind==4)=true):evS σ t=aH (σ t.n) t.args 0:=by rw [kg,h4,if_pos rfl]
def Rb (tg:Int→Int) (s:Sv) (σ:Int→Term) (s':Sv):Prop:=∃ σ',AgS s.ms.length σ σ'∧Mod tg s'.ms σ'
def RV (tg:Int→Int) (s:Sv) (σ:Int→Term) (u:Term) (r:Sv × Term):Prop:=∃ σ',AgS s.ms.length σ σ'∧Mod tg r.1.ms σ'∧evS σ' r.2=u
theorem LJ {tg:Int→Int} {s:Sv} {σ:Int→Term} (I:Inv s.ms) (M:Mod tg s.ms σ) {v t u:Term} {D d:Int} (hD:0≤D) (hd:0≤d) (V:iZ s.ms v D) (vu:(ak s.ms v.n).is=false) (hft:aK s.ms t (D+d)=true) (h4:(t.kind==4)=true) (tu:(ak s.ms t.n).is=false)
  (gu:Gd (ak s.ms v.n).level u (v.args.length+d)) (tgu:Tg tg (ak s.ms v.n).level u) (hne:t.n≠v.n) (e:aH u v.args d=evS σ t):Full (RV tg s σ u) (nC s v t d):=by
 have hnb:(t.n==v.n)=false:=by simpa using hne
 refine full_of ?_ fun r h=>?_
 ·unfold nC
  rw [hnb]
  simp only [Bool.false_eq_true,if_false]
  split
  ·intro h;cases h
  ·split
   ·intro h;cases h
   ·unfold jq
    split <;> intro h <;> cases h
 obtain ⟨s',out⟩:=r
 have T:=dG hft h4
 obtain ⟨TO,_⟩:=FX I hd V vu T tu h
 have U:=Sb V.args V.high V.pair
 have hts:∀ x ∈ t.args,iN x:=fun x hx=>gz (T.args x hx)
 have hvs:∀ x ∈ v.args,iN x:=fun x hx=>gz (V.args x hx)
 rw [lW h4] at e
 have gY:=M.gd t.n T.n0 T.n1
 rw [T.ar] at gY
 have tY:=M.tag t.n T.n0 T.n1
 have tX:Tg tg (ak s.ms v.n).level (σ t.n):=(uR hts (σ t.n) 0).1 (by rw [← e];exact (uR hvs u d).2 tgu)
 have hunf:unfT (ak s.ms v.n).level v.args (aH (σ t.n) t.args 0) (d+0)=some u:=by
  rw [Int.add_zero,← e];exact wN U u d hd gu
 have gY0:Gd (ak s.ms t.n).level (σ t.n) (t.args.length+0):=by rw [Int.add_zero];exact gY
 have L:=M0 _ _ (Ht hts (σ t.n) 0 u gY0 hunf) (Tp (σ t.n) t.args.length 0 gY0)
 unfold nC at h
 rw [hnb] at h
 simp only [Bool.false_eq_true,if_false] at h
 have K:=q8 (lv:=(ak s.ms v.n).level) (us:=v.args) (d:=d) t.args 0 fun y hy=>(aS (T.args y hy).1).1
 have KF:=rf (lv:=(ak s.ms v.n).level) hd V.args t.args 0 T.args
 have KU:=yw (lv:=(ak s.ms v.n).level) hd V.args t.args 0 T.args
 have KM:=IJ (lv:=(ak s.ms v.n).level) (us:=v.args) (d:=d) t.args 0
 have X:=xh (olv:=(ak s.ms v.n).level) (wlv:=(ak s.ms t.n).level) v.args 0
 have XM:=AQ (olv:=(ak s.ms v.n).level) (wlv:=(ak s.ms t.n).level) v.args 0
 have XP:((j6 (ak s.ms v.n).level (ak s.ms t.n).level v.args 0).map (·.2)).Pairwise (fun b u=>isF u b=false):=by
  rw [List.pairwise_map]
  refine X.inc.imp_of_mem fun {p q} hp hq hlt=>?_
  obtain ⟨_,h2,h3,_⟩:=X.at_ p hp
  obtain ⟨_,g2,g3,_⟩:=X.at_ q hq
  rw [← h3,← g3]
  exact wS V.pair (by omega) (by omega) (by omega)
 generalize iX (ak s.ms v.n).level v.args d t.args 0=kp at *
 generalize j6 (ak s.ms v.n).level (ak s.ms t.n).level v.args 0=ex at *
 have harw:(nmsF (ak s.ms t.n)).length=t.args.length:=by rw [kU];exact T.ar
 have hz:∀ z ∈ kp.2,iN z∧z.name=aB∧(z.kind=2→z.n<v.args.length+d)∧(z.kind=3→z.n<(ak s.ms v.n).level):=fun z hz=>by
  obtain ⟨y,hy,hp⟩:=K.from_ z hz
  obtain ⟨h1,h2⟩:=hp.ok hd (T.args y hy)
  exact ⟨gz h1,pV h1.2.1,fun h=>(h1.2.2.1 h).2,fun h=>(h2 h).1⟩
 split at h
 ·rename_i hcd
  injection h with h;injection h with e1 e2
  subst e1;subst e2
  simp only [Bool.and_eq_true,beq_iff_eq,decide_eq_true_eq] at hcd
  have hx0:ex=[]:=by
   cases ex with
   |nil=>rfl
   |cons p ps=>have:=X.at_ p List.mem_cons_self;omega
  subst hx0
  have hlen:kp.2.length=t.args.length:=by rw [← K.len];omega
  refine ⟨σ,fun _ _ _=>rfl,M,?_⟩
  rw [List.map_nil,List.append_nil]
  show evS σ (sVar t.n kp.2)=u
  rw [lW rfl]
  have hf:=o9 (us:=v.args) (fun z hzm=>(hz z hzm).1) hd (σ t.n) 0 (Int.le_refl _)
  rw [Int.add_zero,KU (by omega)] at hf
  refine (IX U hd gu ?_ (e.trans hf)).symm
  have:=Cw hcd.2 (B:=v.args.length+d) (by omega) hz (σ t.n) 0 (Int.le_refl _) (by rw [hlen];exact gY0)
  rw [Int.add_zero] at this
  exact this
 ·split at h
  ·cases h
  obtain ⟨⟨s1,m⟩,hfr,h⟩:=bind_ok h
  obtain ⟨hlt,e1,e2⟩:=jS hfr
  subst e1;subst e2
  simp only at h
  injection h with h;injection h with e1 e2
  subst e1;subst e2
  rw [harw] at TO ⊢
  have hxt:∀ p ∈ ex,p.2.kind=3∧p.2.name=aB∧p.2.args=[]∧p.2.n<(ak s.ms t.n).level∧(ak s.ms v.n).level≤p.2.n:=fun p hp=>by
   obtain ⟨_,h2,h3,h5,h6,h7⟩:=X.at_ p hp
   rw [Nat.zero_add] at h2
   rw [Nat.sub_zero] at h3
   have hm:p.2 ∈ v.args:=by rw [← h3];exact bG h2
   have:=U.arg _ hm
   exact ⟨h5,this.2.2.1,this.2.1,h6,h7⟩
  have hex:aC (ex.map fun p=>sBnd ((v.args.length:Int) - 1 - p.1+d)) v.args d=ex.map (·.2):=by
   rw [eP,List.map_map]
   refine List.map_congr_left fun p hp=>?_
   obtain ⟨_,h2,h3,h5,_⟩:=X.at_ p hp
   rw [Nat.zero_add] at h2
   rw [Nat.sub_zero] at h3
   show aH (sBnd ((v.args.length:Int) - 1 - p.1+d)) v.args d=p.2
   rw [kK h2 hd,h3,h5]
   have hm:p.2 ∈ v.args:=by rw [← h3];exact bG h2
   have:=lI (V.args _ hm)
   rw [this,h5]
   rfl
  have hL:aC (kp.2++ex.map fun p=>sBnd ((v.args.length:Int) - 1 - p.1+d)) v.args d=(kp.1.map fun k=>t.args.getD k aG)++ex.map (·.2):=by
   rw [nQ,hex,KF]
   simp only [Nat.sub_zero]
  have hR:aC (bR t.args.length kp.1++ex.map (·.2)) t.args 0=(kp.1.map fun k=>t.args.getD k aG)++ex.map (·.2):=by
   rw [nQ,lF T.args fun k hk=>by have:=K.ix k hk;omega]
   congr 1
   rw [eP,List.map_map]
   refine List.map_congr_left fun p hp=>?_
   obtain ⟨h2,h3,h5,_⟩:=hxt p hp
   show aH p.2 t.args 0=p.2
   rw [gX,h2,bL rfl,h5,aC]
   have:=pJ p.2
   rw [h2,h5] at this
   exact this.symm
  have bk:=zb (n:=t.args.length) (keep:=kp.1) fun k hk=>by have:=K.ix k hk;omega
  have US:UsOk (min (ak s.ms t.n).level (ak s.ms v.n).level) (bR t.args.length kp.1++ex.map (·.2)):=by
   refine ⟨fun x hx=>?_,List.pairwise_append.2 ⟨pu K.inc,XP,fun x hx y hy=>?_⟩⟩
   ·rcases List.mem_append.1 hx with hx|hx
    ·obtain ⟨k,hk,rfl⟩:=List.mem_map.1 hx
     exact ⟨.inl rfl,rfl,rfl,fun _=>by have:=K.ix k hk;show 0≤(t.args.length:Int) - 1 - k;omega,fun e=>absurd (show (2:Int)=3 from e) (by decide)⟩
    ·obtain ⟨p,hp,rfl⟩:=List.mem_map.1 hx
     obtain ⟨h2,h3,h5,h6,h7⟩:=hxt p hp
     exact ⟨.inr h2,h5,h3,fun e=>by omega,fun _=>by omega⟩
   ·obtain ⟨k,hk,rfl⟩:=List.mem_map.1 hx
    obtain ⟨p,hp,rfl⟩:=List.mem_map.1 hy
    rw [jl]
    left
    rw [(hxt p hp).1];show (3:Int)≠2;decide
  have hleaf:LfT (fun k n j=>(bX (min (ak s.ms t.n).level (ak s.ms v.n).level) (bR t.args.length kp.1++ex.map (·.2)) ⟨k,n,aB,[]⟩ j).2=true) (σ t.n) 0:=by
   refine Gm (fun k n j hj hk hc=>?_) (σ t.n) 0 (Int.le_refl _) L
   obtain ⟨hp,hb2,hb3⟩:=hc
   rw [oN hk]
   by_cases hnj:k=2∧n<j
   ·exact .inl hnj
   right
   have P:uH t.args j ⟨k,n,aB,[]⟩:=sJ hb2
   cases P with
   |same hh hlow =>
    have hh:aI k n aB t.args j=(k,n,aB):=hh
    have k3:k=3:=by
     rcases hk with e|e
     ·exact absurd ⟨e,hlow e⟩ hnj
     ·exact e
    rw [hh] at hp
    have hp:=(oN hk).1 hp
    have h3:=hb3 k3
    by_cases hlx:n<(ak s.ms v.n).level
    ·exact .inl ⟨k3,by omega⟩
    ·right
     rcases hp with ⟨a,_⟩|⟨_,a⟩|⟨x,hx,x1,x2⟩
     ·omega
     ·exact absurd a hlx
     ·rw [if_neg (by omega)] at x2
      have x1:x.kind=k:=x1
      have x2:x.n=n:=x2
      exact ⟨x,List.mem_append.2 (.inr (XM x hx (by unfold ru;simp;omega))),x1,by rw [if_neg (by omega)];exact x2⟩
   |put e2 hj2 i hi ei hh =>
    have e2:k=2:=e2
    have hj2:j≤n:=hj2
    have ei:(i:Int)=t.args.length - 1 - (n - j):=ei
    have hh:aI k n aB t.args j=_:=hh
    rw [hh] at hp
    dsimp only at hp
    have hxa:=T.args _ (bG hi)
    have hx:=lI hxa
    have hkm:=KM i hi
    generalize t.args.getD i aG=x at *
    have x23:=gz hxa
    have hpx:=(oN x23).1 hp
    right
    refine ⟨sBnd ((t.args.length:Int) - 1 - i),List.mem_append.2 (.inl (List.mem_map.2 ⟨i,?_,rfl⟩)),e2.symm,?_⟩
    ·have:0+i ∈ kp.1:=hkm (by
      rw [hx]
      refine (oN x23).2 ?_
      rcases hpx with ⟨a,a2⟩|⟨a,a2⟩|⟨y,hy,y1,y2⟩
      ·rw [if_pos (by simpa using a)] at a2
       exact .inl ⟨a,by omega⟩
      ·rw [if_neg (by simp;omega)] at a2
       exact .inr (.inl ⟨a,a2⟩)
      ·refine .inr (.inr ⟨y,hy,y1,?_⟩)
       rw [y2]
       by_cases a:x.kind=2
       ·rw [if_pos a,if_pos a,if_pos (by simpa using a)];omega
       ·rw [if_neg a,if_neg a,if_neg (by simpa using a)])
     rw [Nat.zero_add] at this;exact this
    ·rw [if_pos e2]
     show (t.args.length:Int) - 1 - i=n - j
     omega
  obtain ⟨b,hb⟩:=BA (σ t.n) 0 hleaf
  obtain ⟨fb,gb⟩:=CB US (σ t.n) 0 _ b (Int.le_refl _) gY hb
  rw [Int.add_zero] at gb
  have hlu:(bR t.args.length kp.1++ex.map (·.2)).length=(kp.2++ex.map fun p=>sBnd ((v.args.length:Int) - 1 - p.1+d)).length:=by
   rw [List.length_append,List.length_append,List.length_map,List.length_map]
   unfold bR
   rw [List.length_map,K.len]
  have tb:Tg tg (min (ak s.ms t.n).level (ak s.ms v.n).level) b:=by
   refine (uR US.simp b 0).1 ?_
   rw [fb]
   have:min (ak s.ms t.n).level (ak s.ms v.n).level=(ak s.ms t.n).level∨min (ak s.ms t.n).level (ak s.ms v.n).level=(ak s.ms v.n).level:=by omega
   rcases this with e|e <;> rw [e]
   ·exact tY
   ·exact tX
  have nb:b.kind≠5:=fun h5=>M.nl t.n T.n0 T.n1 (by rw [← fb];exact (qc US.simp).2 h5)
  have h0:=T.n0
  have h1:=T.n1
  have har:=(dG TO.fits rfl).ar
  have hvN:ak ((s.ms++[lK (min (ak s.ms t.n).level (ak s.ms v.n).level) (bK (aU (nmsF (ak s.ms t.n)) kp.1++aU (nmsF (ak s.ms v.n)) (ex.map (·.1))) (bU (ak s.ms t.n).type))]).set t.n.toNat (l6 (ak (s.ms++[lK (min (ak s.ms t.n).level (ak s.ms v.n).level) (bK (aU (nmsF (ak s.ms t.n)) kp.1++aU (nmsF (ak s.ms v.n)) (ex.map (·.1))) (bU (ak s.ms t.n).type))]) t.n) (sVar (s.ms.length:Int) (bR t.args.length kp.1++ex.map (·.2))))) (s.ms.length:Int)=lK (min (ak s.ms t.n).level (ak s.ms v.n).level) (bK (aU (nmsF (ak s.ms t.n)) kp.1++aU (nmsF (ak s.ms v.n)) (ex.map (·.1))) (bU (ak s.ms t.n).type)):=by
   rw [oz (by omega),oC]
  have har2:aX (bK (aU (nmsF (ak s.ms t.n)) kp.1++aU (nmsF (ak s.ms v.n)) (ex.map (·.1))) (bU (ak s.ms t.n).type))=(bR t.args.length kp.1++ex.map (·.2)).length:=by
   rw [hlu,← har]
   exact congrArg (fun w:Va=>aX w.type) hvN.symm
  have M1:=MN I M (lv:=min (ak s.ms t.n).level (ak s.ms v.n).level) (ty:=bK (aU (nmsF (ak s.ms t.n)) kp.1++aU (nmsF (ak s.ms v.n)) (ex.map (·.1))) (bU (ak s.ms t.n).type)) (b:=b) (by rw [har2];exact gb) tb nb
  have A:=yg σ s.ms.length b
  have hN:lT σ s.ms.length b (s.ms.length:Int)=b:=by unfold lT;rw [if_pos rfl]
  refine ⟨lT σ s.ms.length b,A,Cg (s:=⟨_,s.wk⟩) M1 h0 (by simp;omega) (by rw [jc h0 h1];exact tu) ?_,?_⟩
  ·rw [A t.n h0 h1,lW rfl]
   show _=aH (lT σ s.ms.length b (s.ms.length:Int)) _ 0
   rw [hN,fb]
  ·show evS _ (sVar (s.ms.length:Int) (kp.2++ex.map fun p=>sBnd ((v.args.length:Int) - 1 - p.1+d)))=u
   rw [lW rfl]
   show aH (lT σ s.ms.length b (s.ms.length:Int)) _ 0=u
   rw [hN]
   have hos:∀ z ∈ kp.2++ex.map fun p=>sBnd ((v.args.length:Int) - 1 - p.1+d),iN z∧z.name=aB∧(z.kind=2→z.n<v.args.length+d)∧(z.kind=3→z.n<(ak s.ms v.n).level):=fun z hzm=>by
    rcases List.mem_append.1 hzm with h|h
    ·exact hz z h
    ·obtain ⟨p,hp,rfl⟩:=List.mem_map.1 h
     exact ⟨.inl rfl,rfl,fun _=>(by show (v.args.length:Int) - 1 - p.1+d<_;omega),fun e=>absurd (show (2:Int)=3 from e) (by decide)⟩
   have hf:=o9 (us:=v.args) (fun z hzm=>(hos z hzm).1) hd b 0 (Int.le_refl _)
   have hg:=o9 (us:=t.args) US.simp (Int.le_refl _) b 0 (Int.le_refl _)
   rw [Int.add_zero,hL] at hf
   rw [Int.add_zero,hR,fb] at hg
   refine (IX U hd gu ?_ (e.trans (hg.symm.trans hf))).symm
   have:=Cw (lY:=min (ak s.ms t.n).level (ak s.ms v.n).level) (lX:=(ak s.ms v.n).level) (by omega) (B:=v.args.length+d) (by omega) hos b 0 (Int.le_refl _) (by rw [← hlu,Int.add_zero];exact gb)
   rw [Int.add_zero] at this
   exact this
theorem KR {tg:Int→Int} {s:Sv} {σ:Int→Term} (I:Inv s.ms) (M:Mod tg s.ms σ) {a b:Term} {D:Int} (ha:aK s.ms a D=true) (hb:aK s.ms b D=true) (a4:(a.kind==4)=true) (b4:(b.kind==4)=true) (hn:a.n=b.n) (hu:(ak s.ms a.n).is=false) (e:evS σ a=evS σ b):Full (Rb tg s σ) (jA s a b):=by
 have A:=dG ha a4
 have B:=dG hb b4
 have hlen:a.args.length=b.args.length:=by rw [← A.ar,← B.ar,hn]
 rw [lW a4,lW b4,← hn] at e
 have has:∀ x ∈ a.args,iN x:=fun x hx=>gz (A.args x hx)
 have hbs:∀ x ∈ b.args,iN x:=fun x hx=>gz (B.args x hx)
 have g:=M.gd a.n A.n0 A.n1
 rw [A.ar] at g
 have g0:Gd (ak s.ms a.n).level (σ a.n) (a.args.length+0):=by rw [Int.add_zero];exact g
 have L:=M0 _ _ (NJ (σ a.n) 0 e) (Tp (σ a.n) a.args.length 0 g0)
 refine full_of ?_ fun s' h=>?_
 ·unfold jA jh jq
  split
  ·dsimp only
   split <;> intro h <;> cases h
  ·intro h;cases h
 have S:=CX I A hu h
 unfold jA at h
 split at h
 case isFalse =>
  injection h with h
  subst h
  exact ⟨σ,fun _ _ _=>rfl,M⟩
 obtain ⟨h1,hinc,hc⟩:=qQ a.args b.args 0
 have hs:=BI a.args b.args 0
 have SM:=Ii a.args b.args 0
 generalize fe a.args b.args 0=keep at *
 unfold jh at h
 dsimp only at h
 obtain ⟨⟨s1,m⟩,hfr,h⟩:=bind_ok h
 obtain ⟨hlt,e1,e2⟩:=jS hfr
 subst e1;subst e2
 simp only at h
 injection h with h
 subst h
 have harw:(nmsF (ak s.ms a.n)).length=a.args.length:=by rw [kU];exact A.ar
 rw [harw] at S ⊢
 have hk:∀ k ∈ keep,k<a.args.length:=fun k hk=>by have:=h1 k hk;omega
 have bk:=zb hk
 have US:UsOk (ak s.ms a.n).level (bR a.args.length keep):=by
  refine Sb bk (fun x hx e3=>?_) (pu hinc)
  obtain ⟨k,_,rfl⟩:=List.mem_map.1 hx
  exact absurd (show (2:Int)=3 from e3) (by decide)
 have hleaf:LfT (fun k n j=>(bX (ak s.ms a.n).level (bR a.args.length keep) ⟨k,n,aB,[]⟩ j).2=true) (σ a.n) 0:=by
  refine Gm (fun k n j hj hk hc=>?_) (σ a.n) 0 (Int.le_refl _) L
  obtain ⟨⟨q1,q2⟩,hb2,hb3⟩:=hc
  rw [oN hk]
  by_cases hnj:k=2∧n<j
  ·exact .inl hnj
  right
  have P:uH a.args j ⟨k,n,aB,[]⟩:=sJ hb2
  have P2:uH b.args j ⟨k,n,aB,[]⟩:=sJ (by rw [← hlen];exact hb2)
  cases P with
  |same hh hlow =>
   have k3:k=3:=by
    rcases hk with e|e
    ·exact absurd ⟨e,hlow e⟩ hnj
    ·exact e
   exact .inl ⟨k3,hb3 k3⟩
  |put e2 hj2 i hi ei hh =>
   have e2:k=2:=e2
   have hj2:j≤n:=hj2
   have ei:(i:Int)=a.args.length - 1 - (n - j):=ei
   have hh:aI k n aB a.args j=_:=hh
   cases P2 with
   |same hh2 hlow=>exact absurd ⟨e2,hlow e2⟩ hnj
   |put _ _ i2 hi2 ei2 hh2 =>
    have ei2:(i2:Int)=b.args.length - 1 - (n - j):=ei2
    have hh2:aI k n aB b.args j=_:=hh2
    obtain rfl:i2=i:=by omega
    rw [hh,hh2] at q1 q2
    dsimp only at q1 q2
    have hsm:=SM i2 hi hi2
    generalize a.args.getD i2 aG=x at *
    generalize b.args.getD i2 aG=y at *
    right
    refine ⟨sBnd ((a.args.length:Int) - 1 - i2),List.mem_map.2 ⟨i2,?_,rfl⟩,e2.symm,?_⟩
    ·have:0+i2 ∈ keep:=hsm (by
      unfold isF
      rw [Bool.and_eq_true,beq_iff_eq,beq_iff_eq]
      refine ⟨q1,?_⟩
      rw [q1] at q2
      split at q2 <;> omega)
     rw [Nat.zero_add] at this;exact this
    ·rw [if_pos e2]
     show (a.args.length:Int) - 1 - i2=n - j
     omega
 obtain ⟨b',hb'⟩:=BA (σ a.n) 0 hleaf
 obtain ⟨fb,gb⟩:=CB US (σ a.n) 0 _ b' (Int.le_refl _) g hb'
 rw [Int.add_zero] at gb
 have tb:Tg tg (ak s.ms a.n).level b':=(uR US.simp b' 0).1 (by rw [fb];exact M.tag a.n A.n0 A.n1)
 have nb:b'.kind≠5:=fun h5=>M.nl a.n A.n0 A.n1 (by rw [← fb];exact (qc US.simp).2 h5)
 have h0:=A.n0
 have hn1:=A.n1
 have har2:aX (bK (aU (nmsF (ak s.ms a.n)) keep) (bU (ak s.ms a.n).type))=(bR a.args.length keep).length:=by
  have hty:=(I.val _ (jQ h0 hn1)).ty
  obtain ⟨hb1,hb2⟩:=wU hty
  have hl8:(aU (nmsF (ak s.ms a.n)) keep).length≤8:=by
   unfold aU
   rw [List.length_map]
   have:=fT (ak s.ms a.n).type
   have:=A.ar
   omega
  have e9:=Fh (pU hb1 fun k hk2=>by rw [harw];exact hk k hk2) hb2 hl8
  unfold aX
  rw [e9]
  show (aU _ keep).length=_
  unfold aU bR
  rw [List.length_map,List.length_map]
 have M1:=MN I M (lv:=(ak s.ms a.n).level) (ty:=bK (aU (nmsF (ak s.ms a.n)) keep) (bU (ak s.ms a.n).type)) (b:=b') (by rw [har2];exact gb) tb nb
 have AA:=yg σ s.ms.length b'
 have hN:lT σ s.ms.length b' (s.ms.length:Int)=b':=by unfold lT;rw [if_pos rfl]
 refine ⟨lT σ s.ms.length b',AA,Cg (s:=⟨_,s.wk⟩) M1 h0 (by simp;omega) (by rw [jc h0 hn1];exact hu) ?_⟩
 rw [AA a.n h0 hn1,lW rfl]
 show _=aH (lT σ s.ms.length b' (s.ms.length:Int)) _ 0
 rw [hN,fb]
theorem Lp {tg:Int→Int} {v:Term} {D:Int} (hD:0≤D):∀ (f:Nat) (s:Sv) (t:Term) (d deep:Int) (σ:Int→Term) (u:Term),Inv s.ms→0≤d→iZ s.ms v D→(ak s.ms v.n).is=false→aK s.ms t (D+d)=true→Mod tg s.ms σ→Gd (ak s.ms v.n).level u (v.args.length+d)→Tg tg (ak s.ms v.n).level u→aH u v.args d=evS σ t→(u.size<(σ v.n).size∨¬((gK s.ms t).kind=4∧(gK s.ms t).n=v.n))→u.size≤(σ v.n).size →
  Full (RV tg s σ u) (lJ f s v t d deep):=by
 intro f
 induction f with
 |zero=>intro s t d deep σ u _ _ _ _ _ _ _ _ _ _ _;rw [lJ];trivial
 |succ f ih =>
  intro s t d deep σ u I hd V vu hf M gu tu e hoc hsz
  have U:=Sb V.args V.high V.pair
  have hvs:∀ x ∈ v.args,iN x:=fun x hx=>gz (V.args x hx)
  rw [lJ]
  refine Full.bind (P:=fun s1=>s1=⟨s.ms,s.wk+1⟩) ?_ fun s1 hcn e1=>?_
  ·unfold kG
   split
   ·trivial
   ·split
    ·trivial
    ·rfl
  obtain ⟨_,hw,_⟩:=nW hcn
  subst e1
  dsimp only
  obtain ⟨hfu,hflex,_,_⟩:=dK I (by omega:0≤D+d) hf
  rw [← CG I M (by omega:0≤D+d) hf] at e
  generalize gK s.ms t=w at *
  split
  ·rename_i h4
   refine LJ (s:=⟨s.ms,s.wk+1⟩) I M hD hd V vu hfu h4 (hflex h4) gu tu ?_ e
   intro hn
   rcases hoc with h|h
   ·have:=congrArg Term.size e
    rw [lW h4,hn,nu,nu] at this
    omega
   ·exact h ⟨by simpa using h4,hn⟩
  ·rename_i h4
   have n4:w.kind≠4:=by simpa using h4
   obtain ⟨uk,un,us,ul⟩:=u
   rw [kg,if_neg h4,aH] at e
   injection e with e1 e2 e3 e4
   rw [Gd] at gu
   obtain ⟨⟨g4,g2,g3⟩,gl⟩:=gu
   rw [Tg] at tu
   have ho:(if bY w.kind=true then bX (ak s.ms v.n).level v.args ⟨w.kind,w.n,aB,[]⟩ d else (⟨w.kind,w.n,w.name,[]⟩,true))=(⟨uk,un,us,[]⟩,true)∧inner uk d=inner w.kind d:=by
    by_cases hk:uk=2∨uk=3
    ·obtain ⟨p1,p2⟩:=DU U hd hk (fun e=>(g2 e).1) (fun e=>(g3 e).1) us
     rw [e1] at p1
     rw [e1,e2] at p2
     rw [if_pos (qF.2 p1),p2,jJ hk,jJ p1]
     have hs:us=aB:=hk.elim (fun e=>(g2 e).2) (fun e=>(g3 e).2)
     rw [hs]
     exact ⟨rfl,rfl⟩
    ·have hk2:(uk==2)=false:=by simp;omega
     rw [bL (by rw [hk2];rfl)] at e1 e2 e3
     dsimp only at e1 e2 e3
     rw [← e1,← e2,← e3,if_neg (fun h=>hk (qF.1 h))]
     exact ⟨rfl,rfl⟩
   obtain ⟨ho,hin⟩:=ho
   rw [ho]
   simp only [if_true]
   rw [hin] at e4
   have hsl:∀ x ∈ ul,x.size<(σ v.n).size:=fun x hx=>by
    obtain ⟨i,hi⟩:=List.getElem?_of_mem hx
    have:=fF ⟨uk,un,us,ul⟩ i hi
    omega
   have hfu2:=hfu
   rw [cO,Bool.and_eq_true] at hfu2
   have hind:inner w.kind (D+d)=D+inner w.kind d:=by unfold inner;split <;> omega
   have hin0:0≤inner w.kind d:=cz hd
   rw [hind] at hfu2
   have gl:GdL (ak s.ms v.n).level ul (v.args.length+inner w.kind d):=by
    have:inner uk ((v.args.length:Int)+d)=v.args.length+inner uk d:=by unfold inner;split <;> omega
    rw [this,hin] at gl;exact gl
   have hmap:∀ (l:List Term) (s:Sv) (σ:Int→Term) (ul:List Term),Inv s.ms→iZ s.ms v D→(ak s.ms v.n).is=false→(∀ t ∈ l,aK s.ms t (D+inner w.kind d)=true)→Mod tg s.ms σ→GdL (ak s.ms v.n).level ul (v.args.length+inner w.kind d)→TgL tg (ak s.ms v.n).level ul→aC ul v.args (inner w.kind d)=l.map (evS σ)→(∀ x ∈ ul,x.size<(σ v.n).size) →
     Full (fun r:Sv × List Term=>∃ σ',AgS s.ms.length σ σ'∧Mod tg r.1.ms σ'∧r.2.map (evS σ')=ul) (mapS (fun s a=>lJ f s v a (inner w.kind d) (deep+1)) s l):=by
    intro l
    induction l with
    |nil =>
     intro s σ ul I V vu hf M gl tl e hsl
     rw [mapS]
     have:ul=[]:=by
      cases ul with
      |nil=>rfl
      |cons x xs=>rw [aC] at e;cases e
     subst this
     exact ⟨σ,fun _ _ _=>rfl,M,rfl⟩
    |cons t l ihl =>
     intro s σ ul I V vu hf M gl tl e hsl
     cases ul with
     |nil=>rw [aC] at e;cases e
     |cons x xs =>
      rw [aC,List.map_cons] at e
      injection e with e1 e2
      rw [GdL] at gl
      rw [TgL] at tl
      rw [mapS]
      have hx:=hsl x List.mem_cons_self
      refine Full.bind (ih s t _ (deep+1) σ x I hin0 V vu (hf t List.mem_cons_self) M gl.1 tl.1 e1 (.inl hx) (by omega)) fun r hr hP=>?_
      obtain ⟨s1,o1⟩:=r
      obtain ⟨σ1,A1,M1,ev1⟩:=hP
      dsimp only at M1 ev1 ⊢
      obtain ⟨TO,hw1,_⟩:=jC hD f s t _ _ s1 o1 I hin0 V vu (hf t List.mem_cons_self) hr
      have hE:=TO.ext
      have hlv:=hE.lev v.n V.n0 V.n1
      have hσ:=A1 v.n V.n0 V.n1
      refine Full.bind (ihl s1 σ1 xs TO.inv (V.ext hE) TO.free (fun w hw=>bH hE _ _ (hf w (List.mem_cons_of_mem _ hw))) M1 (by rw [hlv];exact gl.2) (by rw [hlv];exact tl.2) ?_ fun y hy=>?_) fun r hr2 hP=>?_
      ·rw [e2]
       exact List.map_congr_left fun y hy=>(jU A1 y _ (hf y (List.mem_cons_of_mem _ hy))).symm
      ·rw [hσ];exact hsl y (List.mem_cons_of_mem _ hy)
      ·obtain ⟨s2,os⟩:=r
       obtain ⟨σ2,A2,M2,ev2⟩:=hP
       dsimp only at M2 ev2
       refine ⟨σ2,A1.trans A2 hE.len,M2,?_⟩
       dsimp only
       rw [List.map_cons,ev2,jU A2 o1 _ TO.fits,ev1]
   refine Full.bind (hmap w.args ⟨s.ms,s.wk+1⟩ σ ul I V vu ((bT _ _ _).1 hfu2.2) M gl tu.2 e4 hsl) fun r hr hP=>?_
   obtain ⟨s2,os⟩:=r
   obtain ⟨σ2,A2,M2,ev2⟩:=hP
   dsimp only at M2 ev2 ⊢
   refine ⟨σ2,A2,M2,?_⟩
   have k4:(uk==4)=false:=by simpa using g4
   dsimp only
   rw [evS,k4,GL,ev2]
   rfl
theorem Ko {ms:List Va} {t:Term} (h:(t.kind==4)=true→(ak ms t.n).is=false):gK ms t=t:=by
 refine head_eq (.done ?_)
 cases h4:(t.kind==4)
 ·rfl
 ·rw [h h4];rfl
theorem zg {tg:Int→Int} {s:Sv} {σ:Int→Term} (I:Inv s.ms) (M:Mod tg s.ms σ) {v t:Term} {D:Int} (hD:0≤D) (hfv:aK s.ms v D=true) (v4:(v.kind==4)=true) (vu:(ak s.ms v.n).is=false) (hf:aK s.ms t D=true) (hflex:(t.kind==4)=true→(ak s.ms t.n).is=false) (hne:¬(t.kind=4∧t.n=v.n)) (e:evS σ v=evS σ t):Full (Rb tg s σ) (gQ s v t):=by
 have V:=dG hfv v4
 have hvs:∀ x ∈ v.args,iN x:=fun x hx=>gz (V.args x hx)
 rw [lW v4] at e
 unfold gQ
 have h5:(t.kind==5)=false:=by
  cases h5:(t.kind==5)
  ·rfl
  ·exfalso
   have k5:t.kind=5:=by simpa using h5
   have:=congrArg Term.kind e
   rw [kg,if_neg (by rw [k5];decide)] at this
   exact M.nl v.n V.n0 V.n1 ((qc hvs).1 (this.trans k5))
 rw [h5]
 simp only [Bool.false_eq_true,if_false]
 have g:=M.gd v.n V.n0 V.n1
 rw [V.ar] at g
 refine Full.bind (Lp hD 402 s t 0 0 σ (σ v.n) I (Int.le_refl _) V vu (by rw [Int.add_zero];exact hf) M (by rw [Int.add_zero];exact g) (M.tag v.n V.n0 V.n1) e (.inr (by rw [Ko hflex];exact hne)) (Nat.le_refl _)) fun r hr hP=>?_
 obtain ⟨s1,b⟩:=r
 obtain ⟨σ1,A1,M1,ev1⟩:=hP
 dsimp only at M1 ev1 ⊢
 have TO:=(jC hD 402 s t 0 0 s1 b I (Int.le_refl _) V vu (by rw [Int.add_zero];exact hf) hr).1
 have h1:=V.n1
 have hl:=TO.ext.len
 refine ⟨σ1,A1,Cg M1 V.n0 (by omega) TO.free ?_⟩
 rw [A1 v.n V.n0 V.n1,ev1]
theorem JE {tg:Int→Int}:∀ (f:Nat) (s:Sv) (a b:Term) (d deep:Int) (σ:Int→Term),Inv s.ms→0≤s.wk→0≤d→aK s.ms a d=true→aK s.ms b d=true→Mod tg s.ms σ→evS σ a=evS σ b→Full (Rb tg s σ) (eG f s a b deep):=by
 intro f
 induction f with
 |zero=>intro s a b d deep σ _ _ _ _ _ _ _;rw [eG];trivial
 |succ f ih =>
  intro s a b d deep σ I hw0 hd ha hb M e
  rw [eG]
  refine Full.bind (P:=fun s1=>s1=⟨s.ms,s.wk+1⟩) ?_ fun s1 hcn e1=>?_
  ·unfold kG
   split
   ·trivial
   ·split
    ·trivial
    ·rfl
  subst e1
  dsimp only
  obtain ⟨hfa,fla,_,_⟩:=dK I hd ha
  obtain ⟨hfb,flb,_,_⟩:=dK I hd hb
  rw [← CG I M hd ha,← CG I M hd hb] at e
  generalize gK s.ms a=u at *
  generalize gK s.ms b=w at *
  split
  ·rename_i hk
   simp only [Bool.and_eq_true] at hk
   exact KR (s:=⟨s.ms,s.wk+1⟩) I M hfa hfb hk.1 hk.2.1 (by simpa using hk.2.2) (fla hk.1) e
  ·rename_i hk
   split
   ·rename_i h4
    refine zg (s:=⟨s.ms,s.wk+1⟩) I M hd hfa h4 (fla h4) hfb flb (fun hh=>hk ?_) e
    rw [h4,hh.1,hh.2];simp
   ·rename_i h4
    split
    ·rename_i g4
     refine zg (s:=⟨s.ms,s.wk+1⟩) I M hd hfb g4 (flb g4) hfa fla (fun hh=>h4 (by rw [hh.1];rfl)) e.symm
    ·rename_i g4
     rw [kg,kg,if_neg h4,if_neg g4] at e
     injection e with e1 e2 e3 e4
     have hl:u.args.length=w.args.length:=by simpa using congrArg List.length e4
     have hul:kD u w=false:=by
      unfold kD
      rw [e1,e2,e3,hl];simp
     rw [hul]
     simp only [Bool.false_eq_true,if_false]
     have hfa2:=hfa
     have hfb2:=hfb
     rw [cO,Bool.and_eq_true] at hfa2 hfb2
     have hpos:=cz (k:=u.kind) hd
     rw [← e1] at hfb2
     have heach:∀ (l m:List Term) (s:Sv) (σ:Int→Term),Inv s.ms→0≤s.wk→(∀ t ∈ l,aK s.ms t (inner u.kind d)=true)→(∀ t ∈ m,aK s.ms t (inner u.kind d)=true)→Mod tg s.ms σ→l.map (evS σ)=m.map (evS σ)→Full (Rb tg s σ) (lL (fun s a b=>eG f s a b (deep+1)) s l m):=by
      intro l
      induction l with
      |nil =>
       intro m s σ I hw hl hm M e
       rw [lL]
       ·exact ⟨σ,fun _ _ _=>rfl,M⟩
       ·intro a l b m h;cases h
      |cons a l ihl =>
       intro m s σ I hw hl hm M e
       cases m with
       |nil=>cases e
       |cons b m =>
        rw [List.map_cons,List.map_cons] at e
        injection e with e1 e2
        rw [lL]
        refine Full.bind (ih s a b _ (deep+1) σ I hw hpos (hl a List.mem_cons_self) (hm b List.mem_cons_self) M e1) fun s1 hs hP=>?_
        obtain ⟨σ1,A1,M1⟩:=hP
        obtain ⟨S,hw1⟩:=nk f s a b _ _ s1 I hw hpos (hl a List.mem_cons_self) (hm b List.mem_cons_self) hs
        have hl1:=fun t ht=>bH S.ext t _ (hl t (List.mem_cons_of_mem _ ht))
        have hm1:=fun t ht=>bH S.ext t _ (hm t (List.mem_cons_of_mem _ ht))
        have e3:l.map (evS σ1)=m.map (evS σ1):=by
         rw [List.map_congr_left fun y hy=>jU A1 y _ (hl y (List.mem_cons_of_mem _ hy)),List.map_congr_left (l:=m) fun y hy=>jU A1 y _ (hm y (List.mem_cons_of_mem _ hy))]
         exact e2
        have key:=ihl m s1 σ1 S.inv hw1 hl1 hm1 M1 e3
        cases hr:lL (fun s a b=>eG f s a b (deep+1)) s1 l m with
        |clash=>rw [hr] at key;exact key
        |large e=>trivial
        |ok s2 =>
         rw [hr] at key
         obtain ⟨σ2,A2,M2⟩:=key
         exact ⟨σ2,A1.trans A2 S.ext.len,M2⟩
     exact heach u.args w.args ⟨s.ms,s.wk+1⟩ σ I (by show 0≤s.wk+1;omega) ((bT _ _ _).1 hfa2.2) ((bT _ _ _).1 hfb2.2) M e4
mutual
theorem IY {σ σ':Int→Term}:∀ t:Term,(∀ k ∈ bQ t,σ' k=σ k)→evS σ' t=evS σ t
 |⟨k,n,s,l⟩,h=>by
  rw [bQ] at h
  rw [evS,evS]
  cases h4:(k==4)
  ·rw [h4] at h
   simp only [Bool.false_eq_true,if_false] at h ⊢
   rw [EM l h]
  ·rw [h4] at h
   simp only [if_true] at h ⊢
   rw [h n List.mem_cons_self]
theorem EM {σ σ':Int→Term}:∀ t:List Term,(∀ k ∈ di t,σ' k=σ k)→evSL σ' t=evSL σ t
 |[],h=>by rw [evSL,evSL]
 |t::l,h=>by
  rw [di] at h
  rw [evSL,evSL,IY t fun k hk=>h k (List.mem_append.2 (.inl hk)),EM l fun k hk=>h k (List.mem_append.2 (.inr hk))]
end
theorem Fe:∀ (n:Nat) (t:Term),(eD n t).2=true→(eD n t).1.kind≠5
 |0,t,h=>by
  rw [eD] at h
  intro e
  have h:(t.kind != 5)=true:=h
  have e:t.kind=5:=e
  rw [e] at h;cases h
 |n+1,t,h=>by
  rw [eD] at h ⊢
  split at h
  ·cases h
  ·rename_i hn
   rw [if_neg hn]
   exact Fe n _ h
def bOf (v:Va):Term:=(eD (aX v.type) v.t).1
def bnds (k:Nat):List Term:=bR k (List.range k)
def gCon (k:Nat) (n:Int):Term:=⟨1,1+n,aB,bnds k⟩
noncomputable def genW (ms:List Va) (wf:WellFounded (En ms)):Nat→Term :=
 wf.fix fun n ih=>if (ak ms n).is then evS (fun m=>@dite _ (0≤m∧En ms m.toNat n) (Classical.propDecidable _) (fun h=>ih m.toNat h.2) (fun _=>aG)) (bOf (ak ms n)) else gCon (aX (ak ms n).type) n
noncomputable def genS (ms:List Va) (wf:WellFounded (En ms)):Int→Term:=fun m=>genW ms wf m.toNat
theorem Nr (ms:List Va) (wf:WellFounded (En ms)) (n:Nat):genW ms wf n=if (ak ms n).is then evS (fun m=>@dite _ (0≤m∧En ms m.toNat n) (Classical.propDecidable _) (fun _=>genW ms wf m.toNat) (fun _=>aG)) (bOf (ak ms n)) else gCon (aX (ak ms n).type) n:=by
 unfold genW
 exact wf.fix_eq _ _
theorem Cu {ms:List Va} (wf:WellFounded (En ms)) {n:Int} (h0:0≤n) (hu:(ak ms n).is=false):genS ms wf n=gCon (aX (ak ms n).type) n:=by
 unfold genS
 rw [Nr,Int.toNat_of_nonneg h0,hu]
 rfl
theorem EB {ms:List Va} (I:Inv ms) (wf:WellFounded (En ms)) {n:Int} (h0:0≤n) (h1:n<(ms.length:Int)) (hi:(ak ms n).is=true):genS ms wf n=evS (genS ms wf) (bOf (ak ms n)):=by
 show genW ms wf n.toNat=_
 rw [Nr,Int.toNat_of_nonneg h0,hi,if_pos rfl]
 refine (IY _ fun k hk=>?_).symm
 have hv:=(I.val _ (jQ h0 h1)).val hi
 have k0:=(rC hv.2.1 k hk).1
 have hE:0≤k∧En ms k.toNat n.toNat:=by
  refine ⟨k0,hi,?_⟩
  rw [Int.toNat_of_nonneg k0]
  exact lD _ _ hv.1 k hk
 rw [dif_pos hE]
 rfl
mutual
theorem Lt {tg:Int→Int} {a b:Int} (hab:a≤b):∀ t:Term,Tg tg a t→Tg tg b t
 |⟨k,n,s,l⟩,h=>by
  rw [Tg] at h ⊢
  exact ⟨fun e=>Int.le_trans (h.1 e) hab,Hz hab l h.2⟩
theorem Hz {tg:Int→Int} {a b:Int} (hab:a≤b):∀ t:List Term,TgL tg a t→TgL tg b t
 |[],h=>by rw [TgL];trivial
 |t::l,h=>by
  rw [TgL] at h ⊢
  exact ⟨Lt hab t h.1,Hz hab l h.2⟩
end
structure Ra (tg:Int→Int) (ms:List Va) (σ:Int→Term) (n:Int):Prop where
 gd:Gd (ak ms n).level (σ n) (aX (ak ms n).type)
 tag:Tg tg (ak ms n).level (σ n)
 nl:(σ n).kind≠5
mutual
theorem WK {tg:Int→Int} {ms:List Va} {σ:Int→Term} {lv:Int} (h0:tg 0≤lv):∀ (b:Term) (D:Int),0≤D→aK ms b D=true→gG ms lv b=true→(∀ k ∈ bQ b,Ra tg ms σ k)→Gd lv (evS σ b) D∧Tg tg lv (evS σ b)∧(b.kind≠5→(evS σ b).kind≠5)
 |⟨k,n,s,l⟩,D,hD,hf,hs,hm=>by
  rw [bQ] at hm
  rw [evS]
  cases h4:(k==4)
  ·rw [h4] at hm
   simp only [Bool.false_eq_true,if_false] at hm ⊢
   have hf2:=hf
   have hs2:=hs
   rw [aK,Bool.and_eq_true] at hf2
   rw [gG,Bool.and_eq_true] at hs2
   obtain ⟨g,t⟩:=RH h0 l (inner k D) (cz hD) hf2.2 hs2.2 hm
   refine ⟨?_,?_,fun h=>h⟩
   ·rw [Gd]
    refine ⟨⟨by simpa using h4,fun e=>⟨(gV hf e).2,mP hf (by show k≠1;omega)⟩,fun e=>⟨?_,mP hf (by show k≠1;omega)⟩⟩,g⟩
    have:=hs2.1
    unfold iB at this
    subst e
    simp at this
    omega
   ·rw [Tg]
    refine ⟨fun e=>?_,t⟩
    have:=hf2.1
    unfold bg aY at this
    subst e
    simp at this
    rw [this.2.2.2];exact h0
  ·rw [h4] at hm
   simp only [if_true] at hm ⊢
   have V:=dG hf h4
   have M:=hm n List.mem_cons_self
   have k4:k=4:=by simpa using h4
   have hs2:=hs
   rw [gG,Bool.and_eq_true] at hs2
   have hlv:(ak ms n).level≤lv:=by
    have:=hs2.1
    unfold iB at this
    subst k4
    simp at this
    exact this
   have hsm:∀ u ∈ l,iN u:=fun u hu=>gz (V.args u hu)
   have har:aX (ak ms n).type=l.length:=V.ar
   have g:=M.gd
   rw [har] at g
   refine ⟨?_,(uR hsm _ 0).2 (Lt hlv _ M.tag),fun _=>fun e=>M.nl ((qc hsm).1 e)⟩
   have:=Cw hlv hD (l:=l) (fun u hu=>⟨hsm u hu,pV (V.args u hu).2.1,fun e=>((V.args u hu).2.2.1 e).2,fun e=>?_⟩) (σ n) 0 (Int.le_refl _) (by rw [Int.add_zero];exact g)
   ·rw [Int.add_zero] at this;exact this
   ·have h5:=(oG _ _ _).1 hs2.2 u hu
    rw [sD,Bool.and_eq_true] at h5
    have:=h5.1
    unfold iB at this
    rw [e] at this
    simp at this
    omega
theorem RH {tg:Int→Int} {ms:List Va} {σ:Int→Term} {lv:Int} (h0:tg 0≤lv):∀ (b:List Term) (D:Int),0≤D→dY ms b D=true→nA ms lv b=true→(∀ k ∈ di b,Ra tg ms σ k)→GdL lv (evSL σ b) D∧TgL tg lv (evSL σ b)
 |[],D,hD,hf,hs,hm=>by rw [evSL,GdL,TgL];exact ⟨trivial,trivial⟩
 |t::l,D,hD,hf,hs,hm=>by
  rw [dY,Bool.and_eq_true] at hf
  rw [nA,Bool.and_eq_true] at hs
  rw [di] at hm
  obtain ⟨g,t1,_⟩:=WK h0 t D hD hf.1 hs.1 fun k hk=>hm k (List.mem_append.2 (.inl hk))
  obtain ⟨g2,t2⟩:=RH h0 l D hD hf.2 hs.2 fun k hk=>hm k (List.mem_append.2 (.inr hk))
  rw [evSL,GdL,TgL]
  exact ⟨⟨g,g2⟩,t1,t2⟩
end
def qP (ms:List Va) (m:Int):Int:=if 1≤m then (ak ms (m - 1)).level else 0
theorem Gz {ms:List Va} (I:Inv ms) (wf:WellFounded (En ms)):Mod (qP ms) ms (genS ms wf):=by
 have key:∀ n:Nat,n<ms.length→Ra (qP ms) ms (genS ms wf) n:=by
  intro n
  induction wf.apply n with
  |intro n _ ih =>
   intro hn
   have h0:(0:Int)≤n:=by omega
   have h1:(n:Int)<ms.length:=by omega
   have hty:=uQ (I.val _ (jQ h0 h1)).ty
   have t0:qP ms 0≤(ak ms n).level:=hty.2.1
   cases hi:(ak ms (n:Int)).is
   ·have e:=Cu wf h0 hi
    refine ⟨?_,?_,?_⟩
    ·rw [e]
     unfold gCon
     rw [Gd]
     refine ⟨⟨by decide,fun e=>absurd e (by decide),fun e=>absurd e (by decide)⟩,?_⟩
     have:∀ l:List Nat,(∀ i ∈ l,i<aX (ak ms (n:Int)).type)→GdL (ak ms (n:Int)).level (bR (aX (ak ms (n:Int)).type) l) (inner 1 (aX (ak ms (n:Int)).type:Int)):=by
      intro l
      induction l with
      |nil=>intro _;unfold bR;rw [List.map_nil,GdL];trivial
      |cons i l ihl =>
       intro hl
       have hi:=hl i List.mem_cons_self
       have h2:=ihl fun j hj=>hl j (List.mem_cons_of_mem _ hj)
       unfold bR at h2 ⊢
       rw [List.map_cons,GdL]
       refine ⟨?_,h2⟩
       rw [Gd]
       refine ⟨⟨by decide,fun _=>⟨?_,rfl⟩,fun e=>absurd e (by decide)⟩,by rw [GdL];trivial⟩
       show (_:Int)<inner 1 _
       unfold inner
       rw [if_neg (by decide)]
       omega
     exact this _ fun i hi=>by simpa using hi
    ·rw [e]
     unfold gCon
     rw [Tg]
     refine ⟨fun _=>?_,?_⟩
     ·unfold qP
      rw [if_pos (by omega),show (1:Int)+n - 1=n by omega]
      exact Int.le_refl _
     ·have:∀ (k:Nat) (l:List Nat),TgL (qP ms) (ak ms (n:Int)).level (bR k l):=by
       intro k l
       induction l with
       |nil=>unfold bR;rw [List.map_nil,TgL];trivial
       |cons i l ihl =>
        unfold bR at ihl ⊢
        rw [List.map_cons,TgL]
        refine ⟨?_,ihl⟩
        rw [Tg]
        exact ⟨fun e=>absurd e (by decide),by rw [TgL];trivial⟩
      exact this _ _
    ·rw [e];show (1:Int)≠5;decide
   ·have e:=EB I wf h0 h1 hi
    have hv:=(I.val _ (jQ h0 h1)).val hi
    obtain ⟨g,t,nl⟩:=WK (tg:=qP ms) (σ:=genS ms wf) t0 (bOf (ak ms (n:Int))) (aX (ak ms (n:Int)).type) (by omega) hv.2.1 hv.2.2.1 fun k hk=>by
     have hkd:=rC hv.2.1 k hk
     have hE:En ms k.toNat n:=by
      refine ⟨hi,?_⟩
      rw [Int.toNat_of_nonneg hkd.1]
      exact lD _ _ hv.1 k hk
     have:=ih k.toNat hE (by omega)
     rw [Int.toNat_of_nonneg hkd.1] at this
     exact this
    exact ⟨by rw [e];exact g,by rw [e];exact t,by rw [e];exact nl (Fe _ _ hv.1)⟩
 have key2:∀ n:Int,0≤n→n<(ms.length:Int)→Ra (qP ms) ms (genS ms wf) n:=fun n h0 h1=>by
  have:=key n.toNat (by omega)
  rw [Int.toNat_of_nonneg h0] at this
  exact this
 exact ⟨fun n h0 h1=>(key2 n h0 h1).gd,fun n h0 h1=>(key2 n h0 h1).tag,fun n h0 h1=>(key2 n h0 h1).nl,fun n h0 h1 hi=>EB I wf h0 h1 hi⟩
theorem BH {F:List Va} {d D:Int} {u w:Term} (hu:fw D u) (h:Val F d u w):w=u:=by
 have hk:=aS hu.1
 cases h with
 |@mk _ _ k x l hs2 hn hl ha =>
  cases hs2 with
  |zero =>
   rw [hk.2] at hl
   have:l=[]:=List.eq_nil_of_length_eq_zero hl
   subst this
   have:=pJ u
   rw [hk.2] at this
   exact this.symm
  |succ h4 hi ok hs =>
   have:u.kind=4:=by simpa using h4
   omega
theorem AR {tg:Int→Int} {ms:List Va} {σ:Int→Term} (hc:bi ms=0) (I:Inv ms) (M:Mod tg ms σ) {d:Int} {t v:Term} (h:Val ms d t v):0≤d→aK ms t d=true→evS σ t=evS σ v:=by
 induction h with
 |mk hs hn hl ha ih =>
  rename_i d t k u l
  intro hd hf
  have hu:(u.kind==4&&(ak ms u.n).is)=false:=by
   cases h4:(u.kind==4)
   ·rfl
   ·rw [(hn.var h4).2.2];rfl
  rw [ND I M hd (Kl hs hu) hf]
  have hfu:=Km hc hd hs hf
  have hf2:=hfu
  rw [cO,Bool.and_eq_true] at hf2
  have hmem:=(bT _ _ _).1 hf2.2
  cases h4:(u.kind==4)
  ·have hml:u.args.map (evS σ)=l.map (evS σ):=by
    refine List.ext_getElem (by simp [hl]) fun i h1 h2=>?_
    rw [List.getElem_map,List.getElem_map]
    rw [List.length_map] at h1 h2
    exact ih i _ _ (List.getElem?_eq_getElem h1) (List.getElem?_eq_getElem h2) (cz hd) (hmem _ (List.getElem_mem h1))
   rw [kg,h4,kg]
   dsimp only
   rw [h4,hml]
   rfl
  ·have V:=dG hfu h4
   have hle:l=u.args:=by
    refine List.ext_getElem hl fun i h1 h2=>?_
    exact BH (V.args _ (List.getElem_mem h2)) (ha i _ _ (List.getElem?_eq_getElem h2) (List.getElem?_eq_getElem h1))
   rw [hle,← pJ u]
end Go.Proofs.YthkjmiejaoomcaaGreat.Am
