/- Part of the proof of a law of layer 5: own texts, joined. -/
import Derived.Test.YthkjmiejaoomcaaGreatVk
set_option linter.unusedVariables false
set_option linter.unusedSimpArgs false
set_option linter.unnecessarySimpa false
namespace Go.Proofs.YthkjmiejaoomcaaGreat.Am
open Go Go.RowKit Go.Proofs
set_option maxRecDepth 100000
set_option maxHeartbeats 1000000
inductive Up {α:Type} (E:α→α→Prop):α→α→Prop
 |one {k n:α}:E k n→Up E k n
 |step {k j n:α}:E k j→Up E j n→Up E k n
theorem Up.trans {α:Type} {E:α→α→Prop} {k j n:α} (h:Up E k j) (h2:Up E j n):Up E k n:=by
 induction h with
 |one e=>exact .step e h2
 |step e _ ih=>exact .step e (ih h2)
theorem Up.last {α:Type} {E:α→α→Prop} {k n:α} (h:Up E k n):∃ x,E x n∧(k=x∨Up E k x):=by
 induction h with
 |one e=>exact ⟨_,e,.inl rfl⟩
 |step e _ ih =>
  obtain ⟨x,hx,h|h⟩:=ih
  ·subst h;exact ⟨_,hx,.inr (.one e)⟩
  ·exact ⟨x,hx,.inr (.step e h)⟩
theorem KT {α:Type} {E:α→α→Prop} {n:α} (h:Acc E n):¬ Up E n n:=by
 induction h with
 |intro n _ ih =>
  intro hu
  obtain ⟨x,hx,h|h⟩:=hu.last
  ·subst h;exact ih n hx hu
  ·exact ih x hx (Up.trans (.one hx) h)
mutual
def bQ:Term→List Int
 |⟨k,n,_,l⟩=>if k==4 then [n] else di l
def di:List Term→List Int
 |[]=>[]
 |t::ts=>bQ t++di ts
end
mutual
def oM:Term→Bool
 |⟨k,_,_,l⟩=>if k==4 then (di l).isEmpty&&jg l else jg l
def jg:List Term→Bool
 |[]=>true
 |t::ts=>oM t&&jg ts
end
def nz (ex:Int→CSt→Bool × CSt):List Int→CSt→Bool × CSt
 |[],es=>(false,es)
 |n::l,es=>if (ex n es).1 then (true,(ex n es).2) else nz ex l (ex n es).2
theorem vX (ex:Int→CSt→Bool × CSt):∀ (l m:List Int) (es:CSt),nz ex (l++m) es=if (nz ex l es).1 then (true,(nz ex l es).2) else nz ex m (nz ex l es).2
 |[],m,es=>rfl
 |n::l,m,es=>by
  rw [List.cons_append,nz,nz]
  cases (ex n es).1
  ·simp only [Bool.false_eq_true,if_false]
   exact vX ex l m _
  ·rfl
mutual
theorem uM (ex:Int→CSt→Bool × CSt):∀ (t:Term) (es:CSt),oM t=true→fK ex t es=nz ex (bQ t) es
 |⟨k,n,s,l⟩,es,h=>by
  rw [oM] at h
  rw [fK,bQ]
  cases hk:(k==4)
  ·simp only [hk,Bool.false_eq_true,if_false] at h ⊢
   exact uL ex l es h
  ·simp only [hk,if_true,Bool.and_eq_true] at h ⊢
   rw [nz]
   cases (ex n es).1
   ·simp only [Bool.false_eq_true,if_false]
    rw [uL ex l _ h.2,List.isEmpty_iff.1 h.1]
   ·rfl
theorem uL (ex:Int→CSt→Bool × CSt):∀ (l:List Term) (es:CSt),jg l=true→mF ex l es=nz ex (di l) es
 |[],es,_=>by rw [mF,di,nz]
 |t::l,es,h=>by
  rw [jg,Bool.and_eq_true] at h
  rw [mF,di,vX,uM ex t es h.1]
  split
  ·rfl
  ·exact uL ex l _ h.2
end
def Edge (vs:List Va) (k n:Int):Prop:=(ak vs n).is=true∧k ∈ bQ (ak vs n).t
structure mX (vs:List Va):Prop where
 plain:∀ n,(ak vs n).is=true→oM (ak vs n).t=true
 low:∀ n k,Edge vs k n→0≤k∧k<(vs.length:Int)
def vO (vs:List Va) (es:CSt):Prop:=∀ n,stOf es n=0∨stOf es n=1∨(stOf es n=2∧Acc (Edge vs) n)
theorem vO.one {vs:List Va} {es:CSt} (h:vO vs es) (n:Int):vO vs (mset n 1 es):=fun j=>by
 rw [ni]
 cases hj:(j==n)
 ·exact h j
 ·exact .inr (.inl rfl)
theorem vO.two {vs:List Va} {es:CSt} (h:vO vs es) {n:Int} (ha:Acc (Edge vs) n):vO vs (mset n 2 es):=fun j=>by
 rw [ni]
 cases hj:(j==n)
 ·exact h j
 ·have e:j=n:=by simpa using hj
  subst e
  exact .inr (.inr ⟨rfl,ha⟩)
theorem DD {vs:List Va} (ex:Int→CSt→Bool × CSt) (hex:∀ n es,Later es (ex n es).2) (f:Nat)
  (ih:∀ n es,0≤n→n<(vs.length:Int)→vO vs es→zeros vs.length es≤f→(ex n es).1=false→Acc (Edge vs) n∧vO vs (ex n es).2) :
  ∀ (l:List Int) (es:CSt),(∀ n ∈ l,0≤n∧n<(vs.length:Int))→vO vs es→zeros vs.length es≤f→(nz ex l es).1=false→(∀ n ∈ l,Acc (Edge vs) n)∧vO vs (nz ex l es).2
 |[],es,_,hk,_,_=>⟨fun n hn=>absurd hn (List.not_mem_nil),hk⟩
 |n::l,es,hl,hk,hz,hf=>by
  rw [nz] at hf ⊢
  cases hb:(ex n es).1
  ·simp only [hb,Bool.false_eq_true,if_false] at hf ⊢
   have h1:=ih n es (hl n (List.mem_cons_self ..)).1 (hl n (List.mem_cons_self ..)).2 hk hz hb
   have h2:=DD ex hex f ih l _ (fun m hm=>hl m (List.mem_cons_of_mem _ hm)) h1.2 (Nat.le_trans (mZ _ (hex n es)) hz) hf
   refine ⟨fun m hm=>?_,h2.2⟩
   rcases List.mem_cons.1 hm with rfl|hm
   ·exact h1.1
   ·exact h2.1 m hm
  ·simp only [hb,if_true] at hf;cases hf
theorem UA {vs:List Va} {n:Int} (hi:(ak vs n).is=false):Acc (Edge vs) n:=⟨_,fun k hk=>by have:=hk.1;rw [hi] at this;cases this⟩
theorem QL {vs:List Va} (hp:mX vs):∀ (f:Nat) (n:Int) (es:CSt),0≤n→n<(vs.length:Int)→vO vs es→zeros vs.length es≤f→(exF vs f n es).1=false→Acc (Edge vs) n∧vO vs (exF vs f n es).2:=by
 intro f
 induction f using Nat.strongRecOn with
 |ind f ih =>
 intro n es h0 h1 hk hz hf
 cases hi:(ak vs n).is
 ·rw [GK vs f n es hi]
  exact ⟨UA hi,hk⟩
 ·cases s1:(stOf es n==1)
  case true=>rw [NC vs f n es hi s1] at hf;cases hf
  cases s0:(stOf es n==0)
  case false =>
   rw [GJ vs f n es hi s1 s0]
   refine ⟨?_,hk⟩
   rcases hk n with h|h|h
   ·rw [h] at s0;cases s0
   ·rw [h] at s1;cases s1
   ·exact h.2
  have hz1:=De vs.length es n 1 (by decide) h0 h1 s0
  obtain ⟨f',rfl⟩:∃ f',f=f'+1:=⟨f - 1,by omega⟩
  rw [CF vs f' n es hi s0] at hf ⊢
  rw [uM _ _ _ (hp.plain n hi)] at hf ⊢
  cases hb:(nz (exF vs f') (bQ (ak vs n).t) (mset n 1 es)).1
  ·have h2:=DD (exF vs f') (tO vs f') f' (ih f' (by omega)) (bQ (ak vs n).t) (mset n 1 es) (fun k hk=>hp.low n k ⟨hi,hk⟩) (hk.one n) (by omega) hb
   have ha:Acc (Edge vs) n:=⟨_,fun k hk=>h2.1 k hk.2⟩
   simp only [Bool.false_eq_true,if_false]
   exact ⟨ha,h2.2.two ha⟩
  ·simp only [hb,if_true] at hf;cases hf
def Ju (es es':CSt):Prop:=∀ j,stOf es' j=1→stOf es j=1
theorem Ig {vs:List Va} (ex:Int→CSt→Bool × CSt):∀ (l:List Int) (es:CSt),
  (∀ n ∈ l,∀ es',Ju es es'→(ex n es').1=false∧Ju es' (ex n es').2)→(nz ex l es).1=false∧Ju es (nz ex l es).2
 |[],es,_=>⟨rfl,fun j h=>h⟩
 |n::l,es,h=>by
  have h1:=h n (List.mem_cons_self ..) es (fun j h=>h)
  rw [nz,h1.1]
  simp only [Bool.false_eq_true,if_false]
  have h2:=Ig (vs:=vs) ex l (ex n es).2 (fun m hm es' he=>h m (List.mem_cons_of_mem _ hm) es' (fun j hj=>h1.2 j (he j hj)))
  exact ⟨h2.1,fun j hj=>h1.2 j (h2.2 j hj)⟩
theorem Ug {vs:List Va} (hp:mX vs) (n:Int) (ha:Acc (Edge vs) n):∀ (f:Nat) (es:CSt),(∀ j,stOf es j=1→Up (Edge vs) n j)→(exF vs f n es).1=false∧Ju es (exF vs f n es).2:=by
 induction ha with
 |intro n hacc ih =>
  intro f es hu
  cases hi:(ak vs n).is
  ·rw [GK vs f n es hi]
   exact ⟨rfl,fun j h=>h⟩
  ·cases s1:(stOf es n==1)
   case true=>exact absurd (hu n (by simpa using s1)) (KT ⟨n,hacc⟩)
   cases s0:(stOf es n==0)
   case false =>
    rw [GJ vs f n es hi s1 s0]
    exact ⟨rfl,fun j h=>h⟩
   cases f with
   |zero =>
    rw [exF]
    exact ⟨by rw [hi,s1];rfl,fun j h=>h⟩
   |succ f =>
    rw [CF vs f n es hi s0,uM _ _ _ (hp.plain n hi)]
    have h1:=Ig (vs:=vs) (exF vs f) (bQ (ak vs n).t) (mset n 1 es) (fun k hk es' he=>by
     refine ih k ⟨hi,hk⟩ f es' (fun j hj=>?_)
     have hj:=he j hj
     rw [ni] at hj
     cases hjn:(j==n)
     ·rw [hjn] at hj
      exact .step ⟨hi,hk⟩ (hu j (by simpa using hj))
     ·have e:j=n:=by simpa using hjn
      subst e
      exact .one ⟨hi,hk⟩)
    rw [h1.1]
    simp only [Bool.false_eq_true,if_false]
    refine ⟨trivial,fun j hj=>?_⟩
    rw [ni] at hj
    cases hjn:(j==n)
    ·rw [hjn] at hj
     have hj:=h1.2 j (by simpa using hj)
     rw [ni,hjn] at hj
     simpa using hj
    ·rw [hjn] at hj;simp only [if_true] at hj;exact absurd hj (by decide)
theorem Ac (ex:Int→CSt→Bool × CSt) (n:Int) (es:CSt):fK ex (varT n) es=ex n es:=by
 rw [varT,fK]
 simp only [beq_self_eq_true,if_true]
 cases h:(ex n es).1
 ·simp only [Bool.false_eq_true,if_false]
  rw [mF,← h]
 ·simp only [if_true]
  rw [← h]
theorem yY {vs:List Va} (hp:mX vs):∀ (k i:Nat) (es:CSt),i+k=vs.length→vO vs es→zY (exF vs vs.length) k i es=false→∀ j:Nat,i≤j→j<vs.length→Acc (Edge vs) j
 |0,i,es,hk,_,_=>fun j h1 h2=>by omega
 |k+1,i,es,hk,hn,hc=>fun j h1 h2=>by
  rw [zY,Ac] at hc
  cases hb:(exF vs vs.length i es).1
  ·simp only [hb,Bool.false_eq_true,if_false] at hc
   have h3:=QL hp vs.length i es (by omega) (by omega) hn (Ho _ _) hb
   by_cases e:j=i
   ·subst e;exact h3.1
   ·exact yY hp k (i+1) _ (by omega) h3.2 hc j (by omega) h2
  ·simp only [hb,if_true] at hc;cases hc
theorem A8 {vs:List Va} (hp:mX vs) (ha:∀ j:Nat,j<vs.length→Acc (Edge vs) j):∀ (k i:Nat) (es:CSt),i+k=vs.length→(∀ j,stOf es j≠1)→zY (exF vs vs.length) k i es=false
 |0,i,es,hk,_=>rfl
 |k+1,i,es,hk,hn=>by
  have h3:=Ug hp i (ha i (by omega)) vs.length es (fun j hj=>absurd hj (hn j))
  rw [zY,Ac,h3.1]
  simp only [Bool.false_eq_true,if_false]
  exact A8 hp ha k (i+1) _ (by omega) (fun j hj=>hn j (h3.2 j hj))
theorem yX {vs:List Va} (hp:mX vs):ug vs=false↔∀ j:Nat,j<vs.length→Acc (Edge vs) j:=by
 have h0:∀ j,stOf [] j=0:=fun j=>rfl
 constructor
 ·intro h j hj
  exact yY hp vs.length 0 [] (by omega) (fun n=>.inl (h0 n)) h j (Nat.zero_le _) hj
 ·intro h
  exact A8 hp h vs.length 0 [] (by omega) (fun j hj=>by rw [h0] at hj;cases hj)
end Go.Proofs.YthkjmiejaoomcaaGreat.Am
