/- Part of the proof of a law of layer 5: own texts, joined. -/
import Derived.Test.YthkjmiejaoomcaaGreatSk
set_option linter.unusedVariables false
set_option linter.unusedSimpArgs false
set_option linter.unnecessarySimpa false
namespace Go.Proofs.YthkjmiejaoomcaaGreat.Am
open Go Go.RowKit Go.Proofs
set_option linter.unusedVariables false
set_option linter.unusedSimpArgs false
inductive Up {α:Type} (E:α→α→Prop):α→α→Prop
 |one {k n:α}:E k n→Up E k n
 |step {k j n:α}:E k j→Up E j n→Up E k n
theorem Up.trans {α:Type} {E:α→α→Prop} {k j n:α} (h:Up E k j) (h2:Up E j n):Up E k n:=by
 induction h with
 |one e=>exact .step e h2
 |step e _ ih=>exact .step e (ih h2)
theorem Up.last {α:Type} {E:α→α→Prop} {k n:α} (h:Up E k n):∃ x,E x n∧(k=x∨Up E k x):=by
 induction h with
 |one e=>exact ⟨_,e,.inl rfl⟩
 |step e _ ih =>
  obtain ⟨x,hx,h|h⟩:=ih
  ·subst h;exact ⟨_,hx,.inr (.one e)⟩
  ·exact ⟨x,hx,.inr (.step e h)⟩
theorem z4x {α:Type} {E:α→α→Prop} {n:α} (h:Acc E n):¬ Up E n n:=by
 induction h with
 |intro n _ ih =>
  intro hu
  obtain ⟨x,hx,h|h⟩:=hu.last
  ·subst h;exact ih n hx hu
  ·exact ih x hx (Up.trans (.one hx) h)
mutual
def zBl:Term→List Int
 |⟨k,n,_,l⟩=>if k==4 then [n] else zBy l
def zBy:List Term→List Int
 |[]=>[]
 |t::ts=>zBl t++zBy ts
end
mutual
def zJb:Term→Bool
 |⟨k,_,_,l⟩=>if k==4 then (zBy l).isEmpty&&zFh l else zFh l
def zFh:List Term→Bool
 |[]=>true
 |t::ts=>zJb t&&zFh ts
end
def zIf (ex:Int→CSt→Bool × CSt):List Int→CSt→Bool × CSt
 |[],es=>(false,es)
 |n::l,es=>if (ex n es).1 then (true,(ex n es).2) else zIf ex l (ex n es).2
theorem zN4 (ex:Int→CSt→Bool × CSt):∀ (l m:List Int) (es:CSt),zIf ex (l++m) es=if (zIf ex l es).1 then (true,(zIf ex l es).2) else zIf ex m (zIf ex l es).2
 |[],m,es=>rfl
 |n::l,m,es=>by
  rw [List.cons_append,zIf,zIf]
  cases (ex n es).1
  ·simp only [Bool.false_eq_true,if_false]
   exact zN4 ex l m _
  ·rfl
mutual
theorem zMw (ex:Int→CSt→Bool × CSt):∀ (t:Term) (es:CSt),zJb t=true→zDs ex t es=zIf ex (zBl t) es
 |⟨k,n,s,l⟩,es,h=>by
  rw [zJb] at h
  rw [zDs,zBl]
  cases hk:(k==4)
  ·simp only [hk,Bool.false_eq_true,if_false] at h ⊢
   exact zMv ex l es h
  ·simp only [hk,if_true,Bool.and_eq_true] at h ⊢
   rw [zIf]
   cases (ex n es).1
   ·simp only [Bool.false_eq_true,if_false]
    rw [zMv ex l _ h.2,List.isEmpty_iff.1 h.1]
   ·rfl
theorem zMv (ex:Int→CSt→Bool × CSt):∀ (l:List Term) (es:CSt),zFh l=true→zHv ex l es=zIf ex (zBy l) es
 |[],es,_=>by rw [zHv,zBy,zIf]
 |t::l,es,h=>by
  rw [zFh,Bool.and_eq_true] at h
  rw [zHv,zBy,zN4,zMw ex t es h.1]
  split
  ·rfl
  ·exact zMv ex l _ h.2
end
def Edge (vs:List Va) (k n:Int):Prop:=(zAi vs n).is=true∧k ∈ zBl (zAi vs n).t
structure zIa (vs:List Va):Prop where
 plain:∀ n,(zAi vs n).is=true→zJb (zAi vs n).t=true
 low:∀ n k,Edge vs k n→0≤k∧k<(vs.length:Int)
def zNu (vs:List Va) (es:CSt):Prop:=∀ n,stOf es n=0∨stOf es n=1∨(stOf es n=2∧Acc (Edge vs) n)
theorem zNu.one {vs:List Va} {es:CSt} (h:zNu vs es) (n:Int):zNu vs (mset n 1 es):=fun j=>by
 rw [zIe]
 cases hj:(j==n)
 ·exact h j
 ·exact .inr (.inl rfl)
theorem zNu.two {vs:List Va} {es:CSt} (h:zNu vs es) {n:Int} (ha:Acc (Edge vs) n):zNu vs (mset n 2 es):=fun j=>by
 rw [zIe]
 cases hj:(j==n)
 ·exact h j
 ·have e:j=n:=by simpa using hj
  subst e
  exact .inr (.inr ⟨rfl,ha⟩)
theorem zVu {vs:List Va} (ex:Int→CSt→Bool × CSt) (hex:∀ n es,Later es (ex n es).2) (f:Nat)
  (ih:∀ n es,0≤n→n<(vs.length:Int)→zNu vs es→zeros vs.length es≤f→(ex n es).1=false→Acc (Edge vs) n∧zNu vs (ex n es).2) :
  ∀ (l:List Int) (es:CSt),(∀ n ∈ l,0≤n∧n<(vs.length:Int))→zNu vs es→zeros vs.length es≤f→(zIf ex l es).1=false→(∀ n ∈ l,Acc (Edge vs) n)∧zNu vs (zIf ex l es).2
 |[],es,_,hk,_,_=>⟨fun n hn=>absurd hn (List.not_mem_nil),hk⟩
 |n::l,es,hl,hk,hz,hf=>by
  rw [zIf] at hf ⊢
  cases hb:(ex n es).1
  ·simp only [hb,Bool.false_eq_true,if_false] at hf ⊢
   have h1:=ih n es (hl n (List.mem_cons_self ..)).1 (hl n (List.mem_cons_self ..)).2 hk hz hb
   have h2:=zVu ex hex f ih l _ (fun m hm=>hl m (List.mem_cons_of_mem _ hm)) h1.2 (Nat.le_trans (zIc _ (hex n es)) hz) hf
   refine ⟨fun m hm=>?_,h2.2⟩
   rcases List.mem_cons.1 hm with rfl|hm
   ·exact h1.1
   ·exact h2.1 m hm
  ·simp only [hb,if_true] at hf;cases hf
theorem yIz {vs:List Va} {n:Int} (hi:(zAi vs n).is=false):Acc (Edge vs) n:=⟨_,fun k hk=>by have:=hk.1;rw [hi] at this;cases this⟩
theorem yD4 {vs:List Va} (hp:zIa vs):∀ (f:Nat) (n:Int) (es:CSt),0≤n→n<(vs.length:Int)→zNu vs es→zeros vs.length es≤f→(exF vs f n es).1=false→Acc (Edge vs) n∧zNu vs (exF vs f n es).2:=by
 intro f
 induction f using Nat.strongRecOn with
 |ind f ih =>
 intro n es h0 h1 hk hz hf
 cases hi:(zAi vs n).is
 ·rw [zZr vs f n es hi]
  exact ⟨yIz hi,hk⟩
 ·cases s1:(stOf es n==1)
  case true=>rw [z9r vs f n es hi s1] at hf;cases hf
  cases s0:(stOf es n==0)
  case false =>
   rw [zZq vs f n es hi s1 s0]
   refine ⟨?_,hk⟩
   rcases hk n with h|h|h
   ·rw [h] at s0;cases s0
   ·rw [h] at s1;cases s1
   ·exact h.2
  have hz1:=zU6 vs.length es n 1 (by decide) h0 h1 s0
  obtain ⟨f',rfl⟩:∃ f',f=f'+1:=⟨f - 1,by omega⟩
  rw [zUn vs f' n es hi s0] at hf ⊢
  rw [zMw _ _ _ (hp.plain n hi)] at hf ⊢
  cases hb:(zIf (exF vs f') (zBl (zAi vs n).t) (mset n 1 es)).1
  ·have h2:=zVu (exF vs f') (zMb vs f') f' (ih f' (by omega)) (zBl (zAi vs n).t) (mset n 1 es) (fun k hk=>hp.low n k ⟨hi,hk⟩) (hk.one n) (by omega) hb
   have ha:Acc (Edge vs) n:=⟨_,fun k hk=>h2.1 k hk.2⟩
   simp only [Bool.false_eq_true,if_false]
   exact ⟨ha,h2.2.two ha⟩
  ·simp only [hb,if_true] at hf;cases hf
def z2n (es es':CSt):Prop:=∀ j,stOf es' j=1→stOf es j=1
theorem z0v {vs:List Va} (ex:Int→CSt→Bool × CSt):∀ (l:List Int) (es:CSt),
  (∀ n ∈ l,∀ es',z2n es es'→(ex n es').1=false∧z2n es' (ex n es').2)→(zIf ex l es).1=false∧z2n es (zIf ex l es).2
 |[],es,_=>⟨rfl,fun j h=>h⟩
 |n::l,es,h=>by
  have h1:=h n (List.mem_cons_self ..) es (fun j h=>h)
  rw [zIf,h1.1]
  simp only [Bool.false_eq_true,if_false]
  have h2:=z0v (vs:=vs) ex l (ex n es).2 (fun m hm es' he=>h m (List.mem_cons_of_mem _ hm) es' (fun j hj=>h1.2 j (he j hj)))
  exact ⟨h2.1,fun j hj=>h1.2 j (h2.2 j hj)⟩
theorem yIg {vs:List Va} (hp:zIa vs) (n:Int) (ha:Acc (Edge vs) n):∀ (f:Nat) (es:CSt),(∀ j,stOf es j=1→Up (Edge vs) n j)→(exF vs f n es).1=false∧z2n es (exF vs f n es).2:=by
 induction ha with
 |intro n hacc ih =>
  intro f es hu
  cases hi:(zAi vs n).is
  ·rw [zZr vs f n es hi]
   exact ⟨rfl,fun j h=>h⟩
  ·cases s1:(stOf es n==1)
   case true=>exact absurd (hu n (by simpa using s1)) (z4x ⟨n,hacc⟩)
   cases s0:(stOf es n==0)
   case false =>
    rw [zZq vs f n es hi s1 s0]
    exact ⟨rfl,fun j h=>h⟩
   cases f with
   |zero =>
    rw [exF]
    exact ⟨by rw [hi,s1];rfl,fun j h=>h⟩
   |succ f =>
    rw [zUn vs f n es hi s0,zMw _ _ _ (hp.plain n hi)]
    have h1:=z0v (vs:=vs) (exF vs f) (zBl (zAi vs n).t) (mset n 1 es) (fun k hk es' he=>by
     refine ih k ⟨hi,hk⟩ f es' (fun j hj=>?_)
     have hj:=he j hj
     rw [zIe] at hj
     cases hjn:(j==n)
     ·rw [hjn] at hj
      exact .step ⟨hi,hk⟩ (hu j (by simpa using hj))
     ·have e:j=n:=by simpa using hjn
      subst e
      exact .one ⟨hi,hk⟩)
    rw [h1.1]
    simp only [Bool.false_eq_true,if_false]
    refine ⟨trivial,fun j hj=>?_⟩
    rw [zIe] at hj
    cases hjn:(j==n)
    ·rw [hjn] at hj
     have hj:=h1.2 j (by simpa using hj)
     rw [zIe,hjn] at hj
     simpa using hj
    ·rw [hjn] at hj;simp only [if_true] at hj;exact absurd hj (by decide)
theorem zR0 (ex:Int→CSt→Bool × CSt) (n:Int) (es:CSt):zDs ex (varT n) es=ex n es:=by
 rw [varT,zDs]
 simp only [beq_self_eq_true,if_true]
 cases h:(ex n es).1
 ·simp only [Bool.false_eq_true,if_false]
  rw [zHv,← h]
 ·simp only [if_true]
  rw [← h]
theorem zQy {vs:List Va} (hp:zIa vs):∀ (k i:Nat) (es:CSt),i+k=vs.length→zNu vs es→zRu (exF vs vs.length) k i es=false→∀ j:Nat,i≤j→j<vs.length→Acc (Edge vs) j
 |0,i,es,hk,_,_=>fun j h1 h2=>by omega
 |k+1,i,es,hk,hn,hc=>fun j h1 h2=>by
  rw [zRu,zR0] at hc
  cases hb:(exF vs vs.length i es).1
  ·simp only [hb,Bool.false_eq_true,if_false] at hc
   have h3:=yD4 hp vs.length i es (by omega) (by omega) hn (z0b _ _) hb
   by_cases e:j=i
   ·subst e;exact h3.1
   ·exact zQy hp k (i+1) _ (by omega) h3.2 hc j (by omega) h2
  ·simp only [hb,if_true] at hc;cases hc
theorem zSv {vs:List Va} (hp:zIa vs) (ha:∀ j:Nat,j<vs.length→Acc (Edge vs) j):∀ (k i:Nat) (es:CSt),i+k=vs.length→(∀ j,stOf es j≠1)→zRu (exF vs vs.length) k i es=false
 |0,i,es,hk,_=>rfl
 |k+1,i,es,hk,hn=>by
  have h3:=yIg hp i (ha i (by omega)) vs.length es (fun j hj=>absurd hj (hn j))
  rw [zRu,zR0,h3.1]
  simp only [Bool.false_eq_true,if_false]
  exact zSv hp ha k (i+1) _ (by omega) (fun j hj=>hn j (h3.2 j hj))
theorem zG9 {vs:List Va} (hp:zIa vs):zIq vs=false↔∀ j:Nat,j<vs.length→Acc (Edge vs) j:=by
 have h0:∀ j,stOf [] j=0:=fun j=>rfl
 constructor
 ·intro h j hj
  exact zQy hp vs.length 0 [] (by omega) (fun n=>.inl (h0 n)) h j (Nat.zero_le _) hj
 ·intro h
  exact zSv hp h vs.length 0 [] (by omega) (fun j hj=>by rw [h0] at hj;cases hj)
end Go.Proofs.YthkjmiejaoomcaaGreat.Am
namespace Go.Proofs.YthkjmiejaoomcaaGreat.Am
open Go Go.RowKit Go.Proofs
set_option linter.unusedVariables false
set_option linter.unusedSimpArgs false
end Go.Proofs.YthkjmiejaoomcaaGreat.Am
