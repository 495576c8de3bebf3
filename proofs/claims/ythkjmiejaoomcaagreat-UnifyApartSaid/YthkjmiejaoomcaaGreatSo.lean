/- Part of the proof of a law of layer 5: own texts, joined. -/
import Derived.Test.YthkjmiejaoomcaaGreatSh
import Derived.Test.YthkjmiejaoomcaaGreatSl
import Derived.Test.YthkjmiejaoomcaaGreatSn
set_option linter.unusedVariables false
set_option linter.unusedSimpArgs false
set_option linter.unnecessarySimpa false
namespace Go.Proofs.YthkjmiejaoomcaaGreat.Am
open Go Go.RowKit Go.Proofs
set_option linter.unusedVariables false
set_option linter.unusedSimpArgs false
def zKc:List Va→Int→Bool
 |[],_=>false
 |v::vs,left=>if v.is then (if decide ((v.t.size:Int)>left) then true else zKc vs (left - v.t.size)) else zKc vs left
def zA1 (vs:List Va):Int:=if (vs.length:Int)>2000 then 2 else if zKc vs 4000 then 2 else if vs.all (zFe vs) then (if zIq vs then 50 else 0) else 50
theorem zGr:∀ (vs:List Va) (left:Int),zKc vs left=false→∀ v ∈ vs,v.is=true→(v.t.size:Int)≤left
 |[],left,_,v,hv,_=>absurd hv List.not_mem_nil
 |w::vs,left,h,v,hv,hi=>by
  rw [zKc] at h
  cases hw:w.is
  ·rw [hw] at h
   rcases List.mem_cons.1 hv with rfl|hv
   ·rw [hw] at hi;cases hi
   ·exact zGr vs left (by simpa using h) v hv hi
  ·rw [hw] at h
   simp only [if_true] at h
   cases hd:decide ((w.t.size:Int)>left)
   ·rw [hd] at h
    simp only [Bool.false_eq_true,if_false] at h
    rcases List.mem_cons.1 hv with rfl|hv
    ·simpa using hd
    ·have:=zGr vs _ h v hv hi;omega
   ·rw [hd] at h;cases h
theorem zXo:∀ (n:Nat) (t:Term),(zCw n t).1.size≤t.size
 |0,t=>by rw [zCw];exact Nat.le_refl _
 |n+1,t=>by
  rw [zCw]
  split
  ·exact Nat.le_refl _
  ·rename_i hn
   obtain ⟨u,hu⟩:=zHz (by simpa using hn)
   rw [hu]
   simp only [List.headD_cons]
   have h1:=zXo n u
   have h2:=zDl t 0 (t:=u) (by rw [hu];rfl)
   omega
end Go.Proofs.YthkjmiejaoomcaaGreat.Am
namespace Go.Proofs.YthkjmiejaoomcaaGreat.Am
open Go Go.RowKit Go.Proofs
set_option linter.unusedVariables false
set_option linter.unusedSimpArgs false
theorem zVp {u:Term} (h:zAy u=true):(u.kind==4)=false∧u.args=[]:=by
 unfold zAy at h
 simp only [Bool.and_eq_true,Bool.or_eq_true,beq_iff_eq] at h
 refine ⟨?_,List.eq_nil_of_length_eq_zero (by omega)⟩
 rcases h.1 with e|e <;> rw [e] <;> rfl
theorem zKo (lv:Int):∀ (us pre:List Term),zHd lv pre us=true→∀ u ∈ us,zAy u=true
 |[],pre,_,u,hu=>absurd hu List.not_mem_nil
 |v::us,pre,h,u,hu=>by
  rw [zHd,Bool.and_eq_true] at h
  rcases List.mem_cons.1 hu with rfl|hu
  ·have:=h.1;unfold zJc at this
   rw [Bool.and_eq_true] at this
   exact this.1
  ·exact zKo lv us _ h.2 u hu
theorem zLt:∀ us:List Term,(∀ u ∈ us,zAy u=true)→zBy us=[]∧zFh us=true
 |[],_=>⟨by rw [zBy],by rw [zFh]⟩
 |u::us,h=>by
  have h1:=zVp (h u (List.mem_cons_self ..))
  have h2:=zLt us (fun v hv=>h v (List.mem_cons_of_mem _ hv))
  obtain ⟨k,n,s,l⟩:=u
  simp only at h1
  rw [zBy,zFh,zBl,zJb,h1.2,h1.1,zBy,zFh,h2.1,h2.2]
  exact ⟨rfl,rfl⟩
mutual
theorem zSj (vs:List Va):∀ (t:Term) (d:Int),zAv vs t d=true→zJb t=true
 |⟨k,n,s,l⟩,d,h=>by
  rw [zAv,Bool.and_eq_true] at h
  rw [zJb]
  cases hk:(k==4)
  ·simp only [Bool.false_eq_true,if_false]
   exact zQl vs l _ h.2
  ·simp only [if_true]
   have h1:=h.1
   have e:k=4:=by simpa using hk
   subst e
   simp only [zBb,zA4,Bool.and_eq_true] at h1
   have h2:zBv (zAi vs n) l=true:=by
    have:=h1.2.2.2
    simp at this
    exact this.2.2
   unfold zBv at h2
   rw [Bool.and_eq_true] at h2
   have h3:=zLt l (zKo _ l [] h2.2)
   rw [h3.1,h3.2];rfl
theorem zQl (vs:List Va):∀ (l:List Term) (d:Int),zDb vs l d=true→zFh l=true
 |[],d,_=>by rw [zFh]
 |t::l,d,h=>by
  rw [zDb,Bool.and_eq_true] at h
  rw [zFh,zSj vs t d h.1,zQl vs l d h.2];rfl
end
mutual
theorem zId (m:Nat):∀ t:Term,varsIn m t=true→∀ k ∈ zBl t,0≤k∧k<(m:Int)
 |⟨k,n,s,l⟩,h=>by
  rw [varsIn,Bool.and_eq_true] at h
  rw [zBl]
  cases hk:(k==4)
  ·simp only [Bool.false_eq_true,if_false]
   exact zNz m l h.2
  ·simp only [if_true]
   intro j hj
   rw [List.mem_singleton] at hj
   subst hj
   have h1:=h.1
   rw [hk] at h1
   simpa using h1
theorem zNz (m:Nat):∀ l:List Term,zEv m l=true→∀ k ∈ zBy l,0≤k∧k<(m:Int)
 |[],_=>by rw [zBy];intro k hk;exact absurd hk List.not_mem_nil
 |t::l,h=>by
  rw [zEv,Bool.and_eq_true] at h
  rw [zBy]
  intro k hk
  rcases List.mem_append.1 hk with hk|hk
  ·exact zId m t h.1 k hk
  ·exact zNz m l h.2 k hk
end
theorem zNg {t:Term} (h:zKv t=false):(t.kind==4)=false:=by
 unfold zKv at h
 rw [Bool.or_eq_false_iff] at h
 have h1:=h.1
 cases h4:(t.kind==4)
 ·rfl
 ·have e:t.kind=4:=by simpa using h4
  rw [e] at h1;simp at h1
theorem zS1:∀ (n:Nat) (t:Term),(zCw n t).2=true→zJb (zCw n t).1=true→zJb t=true
 |0,t,_,hp=>by rw [zCw] at hp;exact hp
 |n+1,t,h,hp=>by
  rw [zCw] at h hp
  cases hn:zKv t
  ·rw [hn] at h hp
   simp only [Bool.false_eq_true,if_false] at h hp
   obtain ⟨u,hu⟩:=zHz hn
   have hk:=zNg hn
   rw [hu] at h hp
   simp only [List.headD_cons] at h hp
   have:=zS1 n u h hp
   obtain ⟨a,b,c,l⟩:=t
   simp only at hu hk
   subst hu
   rw [zJb,hk,zFh,zFh,this];rfl
  ·rw [hn] at h;simp at h
theorem zXn (m:Nat):∀ (n:Nat) (t:Term),(zCw n t).2=true→varsIn m (zCw n t).1=true→varsIn m t=true
 |0,t,_,hp=>by rw [zCw] at hp;exact hp
 |n+1,t,h,hp=>by
  rw [zCw] at h hp
  cases hn:zKv t
  ·rw [hn] at h hp
   simp only [Bool.false_eq_true,if_false] at h hp
   obtain ⟨u,hu⟩:=zHz hn
   have hk:=zNg hn
   rw [hu] at h hp
   simp only [List.headD_cons] at h hp
   have:=zXn m n u h hp
   obtain ⟨a,b,c,l⟩:=t
   simp only at hu hk
   subst hu
   rw [varsIn,hk,zEv,zEv,this];rfl
  ·rw [hn] at h;simp at h
theorem zLn {vs:List Va} {n:Int} (hi:(zAi vs n).is=true):zAi vs n ∈ vs:=by
 unfold zAi at hi ⊢
 rw [List.getD_eq_getElem?_getD] at hi ⊢
 cases h:vs[n.toNat]? with
 |none=>rw [h] at hi;cases hi
 |some v=>exact List.mem_of_getElem? h
structure yEu (vs:List Va):Prop where
 plain:zIa vs
 sizes:Sizes vs
 vals:z2m vs
theorem zK4 (vs:List Va) (hl:zKc vs 4000=false) (hv:vs.all (zFe vs)=true):yEu vs:=by
 rw [List.all_eq_true] at hv
 have key:∀ v ∈ vs,v.is=true→varsIn vs.length v.t=true∧zJb v.t=true:=by
  intro v hm hi
  have h1:=hv v hm
  unfold zFe at h1
  rw [hi,Bool.and_eq_true] at h1
  have h2:=h1.2
  simp only [if_true] at h2
  unfold inF at h2
  simp only [Bool.and_eq_true] at h2
  obtain ⟨hb,hz,hf,hs⟩:=h2
  have h3:=(zH1 vs _).1 _ _ (Nat.le_refl _) hf
  have h4:=zSj vs _ _ hf
  exact ⟨zXn _ _ _ hb h3,zS1 _ _ hb h4⟩
 have hsz:=zGr vs 4000 hl
 refine ⟨⟨fun n hi=>(key _ (zLn hi) hi).2,fun n k he=>zId _ _ (key _ (zLn he.1) he.1).1 k he.2⟩,fun n hi=>?_,fun v hm hi=>⟨(key v hm hi).1,?_⟩⟩
 ·have:=hsz _ (zLn hi) hi;omega
 ·have:=hsz v hm hi;omega
end Go.Proofs.YthkjmiejaoomcaaGreat.Am
namespace Go.Proofs.YthkjmiejaoomcaaGreat.Am
open Go Go.RowKit Go.Proofs
set_option linter.unusedVariables false
set_option linter.unusedSimpArgs false
def zC4 (vs:List Va) (t:Term):Term:=(zCw t.args.length (zAi vs t.n).t).1
def zHu (d:Int) (u:Term):Prop:=zAy u=true∧u.name.toList=zAr.toList∧(u.kind=2→0≤u.n∧u.n<d)∧(u.kind=3→0≤u.n∧u.n<60)
structure zX5 (vs:List Va) (d:Int) (t:Term):Prop where
 n0:0≤t.n
 n1:t.n<(vs.length:Int)
 size:(zAi vs t.n).t.size≤4000
 body:(zCw t.args.length (zAi vs t.n).t).2=true
 fill:zH3 (zC4 vs t) t.args.length 0=true
 args:∀ u ∈ t.args,zHu d u
 len:t.args.length≤8
inductive zU3 (vs:List Va) (d:Int):Term→Nat→Term→Prop
 |zero {t:Term}:zU3 vs d t 0 t
 |succ {t:Term} {k:Nat} {u:Term} (h4:(t.kind==4)=true) (hi:(zAi vs t.n).is=true) (ok:zX5 vs d t) (hs:zU3 vs d (zB5 (zC4 vs t) t.args 0) k u):zU3 vs d t (k+1) u
structure zX7 (vs:List Va) (t:Term):Prop where
 var:(t.kind==4)=true→0≤t.n∧t.n<(vs.length:Int)∧(zAi vs t.n).is=false
 len:t.args.length≤8
inductive Val (vs:List Va):Int→Term→Term→Prop
 |mk {d:Int} {t:Term} {k:Nat} {u:Term} {l:List Term} (hs:zU3 vs d t k u) (hn:zX7 vs u) (hl:l.length=u.args.length)
   (ha:∀ (i:Nat) (a w:Term),u.args[i]?=some a→l[i]?=some w→Val vs (inner u.kind d) a w):Val vs d t ⟨u.kind,u.n,u.name,l⟩
theorem zHc (lv:Int):∀ (us pre:List Term),zHd lv pre us=true↔(∀ u ∈ us,zAy u=true∧(u.kind=3→lv≤u.n))∧(∀ u ∈ us,∀ b ∈ pre,isF u b=false)∧us.Pairwise (fun b u=>isF u b=false)
 |[],pre=>by simp [zHd]
 |v::us,pre=>by
  rw [zHd,Bool.and_eq_true,zHc lv us (pre++[v]),List.pairwise_cons]
  unfold zJc
  simp only [Bool.and_eq_true,Bool.not_eq_true',List.any_eq_false,Bool.and_eq_false_iff,beq_eq_false_iff_ne,decide_eq_false_iff_not,List.mem_cons,List.mem_append,List.not_mem_nil,or_false]
  constructor
  ·rintro ⟨⟨h1,h2,h3⟩,h4,h5,h6⟩
   refine ⟨?_,?_,fun u hu=>h5 u hu v (.inr rfl),h6⟩
   ·rintro u (rfl|hu)
    ·refine ⟨h1,fun h=>?_⟩
     rcases h2 with h2|h2
     ·exact absurd h h2
     ·omega
    ·exact h4 u hu
   ·rintro u (rfl|hu) b hb
    ·have:=h3 b hb;simpa using this
    ·exact h5 u hu b (.inl hb)
  ·rintro ⟨h1,h2,h3,h4⟩
   refine ⟨⟨(h1 v (.inl rfl)).1,?_,fun b hb=>by have:=h2 v (.inl rfl) b hb;simp [this]⟩,fun u hu=>h1 u (.inr hu),?_,h4⟩
   ·by_cases h:v.kind=3
    ·exact .inr (by have:=(h1 v (.inl rfl)).2 h;omega)
    ·exact .inl h
   ·rintro u hu b (hb|rfl)
    ·exact h2 u (.inr hu) b hb
    ·exact h3 u hu
theorem zK7 (us:List Term) (d:Int):∀ l:List Term,zBs l us d=l.map fun t=>zB5 t us d
 |[]=>by rw [zBs];rfl
 |t::l=>by rw [zBs,zK7 us d l];rfl
theorem zCj (vs:List Va) (d:Int):∀ l:List Term,zDb vs l d=true↔∀ t ∈ l,zAv vs t d=true
 |[]=>by simp [zDb]
 |t::l=>by rw [zDb,Bool.and_eq_true,zCj vs d l];simp
theorem zLw (vs:List Va) (lv:Int):∀ l:List Term,zHf vs lv l=true↔∀ t ∈ l,zEe vs lv t=true
 |[]=>by simp [zHf]
 |t::l=>by rw [zHf,Bool.and_eq_true,zLw vs lv l];simp
theorem zCu (vs:List Va) (t:Term) (d:Int):zAv vs t d=(zBb vs t.kind t.n t.name t.args d&&zDb vs t.args (inner t.kind d)):=by obtain ⟨a,b,c,l⟩:=t;rw [zAv]
theorem zNk (t:Term) (us:List Term) (d:Int):zB5 t us d=⟨(zCn t.kind t.n t.name us d).1,(zCn t.kind t.n t.name us d).2.1,(zCn t.kind t.n t.name us d).2.2,zBs t.args us (inner t.kind d)⟩:=by obtain ⟨k,n,s,l⟩:=t;rw [zB5]
theorem zBi {u:Term} (h:zAy u=true):(u.kind=2∨u.kind=3)∧u.args=[]:=by
 unfold zAy at h
 simp only [Bool.and_eq_true,Bool.or_eq_true,beq_iff_eq] at h
 exact ⟨h.1,List.eq_nil_of_length_eq_zero (by omega)⟩
theorem zUj {vs:List Va} {u:Term} {d:Int} (hs:zAy u=true) (hf:zAv vs u d=true):zHu d u:=by
 have hk:=zBi hs
 rw [zCu,Bool.and_eq_true] at hf
 have hh:=hf.1
 unfold zBb zA4 at hh
 refine ⟨hs,?_,fun h2=>?_,fun h3=>?_⟩
 ·rcases hk.1 with e|e <;> · rw [e] at hh;simp at hh;simpa using hh.1
 ·rw [h2] at hh;simp at hh;omega
 ·rw [h3] at hh;simp at hh;omega
theorem z8c {s:ByteArray} (h:s.toList=zAr.toList):s.size=0:=by
 have:=congrArg List.length h
 rw [zN0,zN0] at this
 exact this
theorem zUu {vs:List Va} {u:Term} {d:Int} (h:zHu d u) (l:List Term) (hl:(l.length:Int)≤8):zBb vs u.kind u.n u.name l d=true:=by
 obtain ⟨hs,hn,h2,h3⟩:=h
 have hz:=z8c hn
 have hk:=zBi hs
 unfold zBb zA4
 rw [hn,hz]
 rcases hk.1 with e|e
 ·have:=h2 e
  rw [e]
  simp
  omega
 ·have:=h3 e
  rw [e]
  simp
  omega
theorem yNc {d j:Int} {u:Term} (h:zHu d u) (hj:0≤j):zHu (d+j) ⟨u.kind,if u.kind==2 then u.n+j else u.n,u.name,[]⟩:=by
 obtain ⟨hs,hn,h2,h3⟩:=h
 have hk:=zBi hs
 refine ⟨?_,hn,fun e=>?_,fun e=>?_⟩
 ·unfold zAy
  rcases hk.1 with e|e <;> · simp [e]
 ·have e':u.kind=2:=e
  have:=h2 e'
  simp only [e',beq_self_eq_true,if_true]
  omega
 ·have e':u.kind=3:=e
  have:=h3 e'
  simp only [e']
  simpa using this
structure zRx (vs:List Va) (lv d:Int) (us:List Term):Prop where
 pos:0≤d
 args:∀ u ∈ us,zHu d u
 high:∀ u ∈ us,u.kind=3→lv≤u.n
 pair:us.Pairwise (fun b u=>isF u b=false)
theorem zF2 {us:List Term} {i:Nat} (h:i<us.length):us.getD i zBo ∈ us:=by
 rw [List.getD_eq_getElem?_getD,List.getElem?_eq_getElem h]
 exact List.getElem_mem h
theorem z04 {us:List Term} (h:us.Pairwise (fun b u=>isF u b=false)) {i k:Nat} (hi:i<us.length) (hk:k<us.length) (hne:i≠k):isF (us.getD i zBo) (us.getD k zBo)=false:=by
 rw [List.getD_eq_getElem?_getD,List.getElem?_eq_getElem hi,List.getD_eq_getElem?_getD,List.getElem?_eq_getElem hk]
 simp only [Option.getD_some]
 rw [List.pairwise_iff_getElem] at h
 rcases Nat.lt_or_gt_of_ne hne with h1|h1
 ·have:=h i k hi hk h1
  unfold isF at this ⊢
  rw [Bool.and_eq_false_iff] at this ⊢
  rcases this with e|e
  ·left;rw [beq_eq_false_iff_ne] at e ⊢;exact fun x=>e x.symm
  ·right;rw [beq_eq_false_iff_ne] at e ⊢;exact fun x=>e x.symm
 ·exact h k i hk hi h1
inductive zX6 (us:List Term) (j:Int) (x:Term):Prop
 |same (h:(zCn x.kind x.n x.name us j)=(x.kind,x.n,x.name)) (h2:x.kind=2→x.n<j)
 |put (h2:x.kind=2) (hj:j≤x.n) (i:Nat) (hi:i<us.length) (e:(i:Int)=us.length - 1 - (x.n - j)) (h:zCn x.kind x.n x.name us j=((us.getD i zBo).kind,(if (us.getD i zBo).kind==2 then (us.getD i zBo).n+j else (us.getD i zBo).n),(us.getD i zBo).name))
theorem z7h {us:List Term} {j:Int} {x:Term} (hx:x.kind=2→x.n<us.length+j):zX6 us j x:=by
 by_cases h2:x.kind=2
 ·by_cases hj:j≤x.n
  ·have:=hx h2
   obtain ⟨i,hi⟩:∃ i:Nat,(us.length:Int) - 1 - (x.n - j)=i:=⟨_,(Int.toNat_of_nonneg (by omega)).symm⟩
   refine .put h2 hj i (by omega) hi.symm ?_
   unfold zCn
   rw [h2,show decide (x.n≥j)=true from decide_eq_true hj,hi,Int.toNat_natCast]
   rfl
  ·refine .same ?_ fun _=>by omega
   unfold zCn
   rw [show decide (x.n≥j)=false from decide_eq_false (by omega),Bool.and_false]
   rfl
 ·refine .same ?_ fun h=>absurd h h2
  unfold zCn
  rw [show (x.kind==2)=false by simpa using h2]
  rfl
theorem z9e {vs:List Va} {lv d:Int} {us:List Term} (hp:zRx vs lv d us) {j:Int} {x:Term} (h:zX6 us j x):inner (zCn x.kind x.n x.name us j).1 (d+j)=d+inner x.kind j:=by
 cases h with
 |same h _ =>
  rw [h];unfold inner;split <;> omega
 |put h2 hj i hi e h =>
  rw [h,h2]
  have:=(zBi (hp.args _ (zF2 hi)).1).1
  unfold inner
  rcases this with e|e <;> rw [e] <;> simp
theorem yCy {vs:List Va} {lv d:Int} {us:List Term} (hp:zRx vs lv d us) {j:Int} {x:Term} (h:zX6 us j x):((zCn x.kind x.n x.name us j).1==4)=(x.kind==4):=by
 cases h with
 |same h _=>rw [h]
 |put h2 hj i hi e h =>
  rw [h,h2]
  have:=(zBi (hp.args _ (zF2 hi)).1).1
  rcases this with e|e <;> rw [e] <;> rfl
theorem zG1 {a b:Term}:isF a b=false↔a.kind≠b.kind∨a.n≠b.n:=by
 unfold isF
 rw [Bool.and_eq_false_iff]
 simp
theorem zV1 {vs:List Va} {lv d:Int} {us:List Term} (hp:zRx vs lv d us) {j:Int} (hj:0≤j) {x y:Term} (hx:zX6 us j x) (hy:zX6 us j y)
  (lx:x.kind=3→x.n<lv) (ly:y.kind=3→y.n<lv) (kx:x.kind=2∨x.kind=3) (ky:y.kind=2∨y.kind=3) (h:isF y x=false):isF (zB5 y us j) (zB5 x us j)=false:=by
 rw [zG1] at h ⊢
 rw [zNk,zNk]
 simp only
 cases hx with
 |same ex bx =>
  cases hy with
  |same ey _=>rw [ex,ey];exact h
  |put h2 hjy i hi e ey =>
   rw [ex,ey]
   have hu:=hp.args _ (zF2 hi)
   have hh:=hp.high _ (zF2 hi)
   generalize us.getD i zBo=u at *
   simp only
   rcases (zBi hu.1).1 with k2|k3
   ·have:=hu.2.2.1 k2
    rw [k2]
    rcases kx with e2|e3
    ·have:=bx e2
     right;simp;omega
    ·left;rw [e3];decide
   ·have:=hh k3
    rw [k3]
    rcases kx with e2|e3
    ·left;rw [e2];decide
    ·have:=lx e3
     right;simp;omega
 |put h2x hjx i hi e ex =>
  have hu:=hp.args _ (zF2 hi)
  have hh:=hp.high _ (zF2 hi)
  cases hy with
  |same ey byy =>
   rw [ex,ey]
   generalize us.getD i zBo=u at *
   simp only
   rcases (zBi hu.1).1 with k2|k3
   ·have:=hu.2.2.1 k2
    rw [k2]
    rcases ky with e2|e3
    ·have:=byy e2
     right;simp;omega
    ·left;rw [e3];decide
   ·have:=hh k3
    rw [k3]
    rcases ky with e2|e3
    ·left;rw [e2];decide
    ·have:=ly e3
     right;simp;omega
  |put h2y hjy i' hi' e' ey =>
   rw [ex,ey]
   have hne:i'≠i:=by
    intro h3
    subst h3
    rcases h with h|h
    ·exact h (h2y.trans h2x.symm)
    ·exact h (by omega)
   have hd:=z04 hp.pair hi' hi hne
   rw [zG1] at hd
   generalize us.getD i zBo=u at *
   generalize us.getD i' zBo=w at *
   simp only
   by_cases hk:w.kind=u.kind
   ·right
    have hn:w.n≠u.n:=by rcases hd with h|h;exact absurd hk h;exact h
    rw [hk]
    split <;> omega
   ·exact .inl hk
theorem z0w {vs:List Va} {lv:Int} {x:Term} (h:zEe vs lv x=true):x.kind=3→x.n<lv:=by
 intro e
 rw [zOp,Bool.and_eq_true] at h
 have h1:=h.1
 unfold zFg at h1
 rw [e] at h1
 simp at h1
 omega
theorem zFv {vs:List Va} {x:Term} {m:Int} (h:zAv vs x m=true):x.kind=2→0≤x.n∧x.n<m:=by
 intro e
 rw [zCu,Bool.and_eq_true] at h
 have h1:=h.1
 unfold zBb zA4 at h1
 rw [e] at h1
 simp at h1
 omega
theorem zYy {vs:List Va} {lv d:Int} {us:List Term} (hp:zRx vs lv d us) {j:Int} (hj:0≤j) {v:Va} {l:List Term} (hlv:v.level≤lv)
  (hl:zBv v l=true) (hf:∀ t ∈ l,zAv vs t (us.length+j)=true) (hs:∀ t ∈ l,zEe vs lv t=true):zBv v (zBs l us j)=true:=by
 unfold zBv at hl ⊢
 rw [Bool.and_eq_true] at hl ⊢
 refine ⟨by rw [zC1];exact hl.1,?_⟩
 obtain ⟨h1,_,h3⟩:=(zHc _ _ _).1 hl.2
 have hto:∀ t ∈ l,zX6 us j t:=fun t ht=>z7h fun h2=>(zFv (hf t ht) h2).2
 refine (zHc _ _ _).2 ⟨?_,fun u _ b hb=>absurd hb List.not_mem_nil,?_⟩
 ·rw [zK7]
  intro u hu
  obtain ⟨x,hx,rfl⟩:=List.mem_map.1 hu
  have hsx:=(h1 x hx).1
  have hnil:=(zBi hsx).2
  rw [zNk,hnil]
  cases hto x hx with
  |same e _ =>
   rw [e]
   refine ⟨?_,fun h3=>(h1 x hx).2 h3⟩
   unfold zAy at hsx ⊢
   rw [hnil] at hsx
   simpa [zBs] using hsx
  |put h2 hjx i hi e ey =>
   rw [ey]
   have hu:=hp.args _ (zF2 hi)
   have hh:=hp.high _ (zF2 hi)
   generalize us.getD i zBo=w at *
   refine ⟨?_,fun h3=>?_⟩
   ·unfold zAy
    rcases (zBi hu.1).1 with e|e <;> · rw [e];simp [zBs]
   ·have h3':w.kind=3:=h3
    have:=hh h3'
    simp only [h3']
    simp;omega
 ·rw [zK7,List.pairwise_map]
  refine List.Pairwise.imp_of_mem ?_ h3
  intro x y hx hy hxy
  exact zV1 hp hj (hto x hx) (hto y hy) (z0w (hs x hx)) (z0w (hs y hy)) (zBi (h1 x hx).1).1 (zBi (h1 y hy).1).1 hxy
mutual
theorem zG6 {vs:List Va} {lv d:Int} {us:List Term} (hp:zRx vs lv d us):∀ (b:Term) (j:Int),0≤j→zAv vs b (us.length+j)=true→zEe vs lv b=true→zAv vs (zB5 b us j) (d+j)=true
 |⟨k,n,s,l⟩,j,hj,hf,hs=>by
  have hf':=hf
  rw [zAv,Bool.and_eq_true] at hf
  rw [zEe,Bool.and_eq_true] at hs
  have hto:zX6 us j ⟨k,n,s,l⟩:=z7h fun h2=>(zFv hf' h2).2
  have hin:=z9e hp hto
  have hL:=zOb hp l (inner k j) (by unfold inner;split <;> omega) (by
   have:inner k ((us.length:Int)+j)=us.length+inner k j:=by unfold inner;split <;> omega
   rw [← this];exact hf.2) hs.2
  simp only at hin
  rw [zB5,zAv,hin,hL,Bool.and_true]
  have hlen:(l.length:Int)≤8:=by
   have:=hf.1
   unfold zBb at this
   simp only [Bool.and_eq_true,Bool.not_eq_true',decide_eq_false_iff_not] at this
   omega
  cases hto with
  |put h2 hjx i hi e ey =>
   simp only at ey
   rw [ey]
   have:=zUu (vs:=vs) (yNc (hp.args _ (zF2 hi)) hj) (zBs l us (inner k j)) (by rw [zC1];exact hlen)
   exact this
  |same ex bx =>
   simp only at ex
   rw [ex]
   have h1:=hf.1
   unfold zBb at h1 ⊢
   rw [zC1]
   simp only [Bool.and_eq_true] at h1 ⊢
   refine ⟨h1.1,h1.2.1,h1.2.2.1,?_⟩
   have ht:=h1.2.2.2
   unfold zA4 at ht ⊢
   rw [zC1]
   by_cases k1:k=1
   ·subst k1;simpa using ht
   by_cases k2:k=2
   ·subst k2
    have hb:=bx rfl
    have hb':n<j:=hb
    have:=zFv hf' rfl
    have h0:0≤n:=this.1
    have hd:=hp.pos
    simp at ht ⊢
    omega
   by_cases k3:k=3
   ·subst k3;simpa using ht
   by_cases k5:k=5
   ·subst k5;simpa using ht
   by_cases k4:k=4
   ·subst k4
    simp at ht ⊢
    refine ⟨ht.1,ht.2.1,?_⟩
    refine zYy hp hj ?_ ht.2.2 ?_ ?_
    ·have:=hs.1
     unfold zFg at this
     simp at this
     exact this
    ·have h2:=hf.2
     exact (zCj vs _ l).1 h2
    ·exact (zLw vs lv l).1 hs.2
   ·have e:zA4 vs k n l ((us.length:Int)+j)=false:=by unfold zA4;simp [k1,k2,k3,k4,k5]
    unfold zA4 at e
    rw [e] at ht
    cases ht
theorem zOb {vs:List Va} {lv d:Int} {us:List Term} (hp:zRx vs lv d us):∀ (l:List Term) (j:Int),0≤j→zDb vs l (us.length+j)=true→zHf vs lv l=true→zDb vs (zBs l us j) (d+j)=true
 |[],j,hj,hf,hs=>by rw [zBs,zDb]
 |t::l,j,hj,hf,hs=>by
  rw [zDb,Bool.and_eq_true] at hf
  rw [zHf,Bool.and_eq_true] at hs
  rw [zBs,zDb,zG6 hp t j hj hf.1 hs.1,zOb hp l j hj hf.2 hs.2];rfl
end
end Go.Proofs.YthkjmiejaoomcaaGreat.Am
namespace Go.Proofs.YthkjmiejaoomcaaGreat.Am
open Go Go.RowKit Go.Proofs
set_option linter.unusedVariables false
set_option linter.unusedSimpArgs false
mutual
def zRo (vs:List Va):Term→Bool
 |⟨k,n,_,l⟩=>!(k==4&&(zAi vs n).is)&&zL1 vs l
def zL1 (vs:List Va):List Term→Bool
 |[]=>true
 |t::ts=>zRo vs t&&zL1 vs ts
end
theorem z07 (vs:List Va) (t:Term):zRo vs t=(!(t.kind==4&&(zAi vs t.n).is)&&zL1 vs t.args):=by obtain ⟨a,b,c,l⟩:=t;rw [zRo]
theorem zNf (vs:List Va):∀ l:List Term,zL1 vs l=true↔∀ t ∈ l,zRo vs t=true
 |[]=>by simp [zL1]
 |t::l=>by rw [zL1,Bool.and_eq_true,zNf vs l];simp
theorem zHk {vs:List Va} {t:Term} {d:Int} (h:zAv vs t d=true):t.args.length≤8:=by
 rw [zCu,Bool.and_eq_true] at h
 have h1:=h.1
 unfold zBb at h1
 simp only [Bool.and_eq_true,Bool.not_eq_true',decide_eq_false_iff_not] at h1
 omega
theorem zHj {vs:List Va} {t:Term} {d:Int} (h:zAv vs t d=true) (h4:(t.kind==4)=true):0≤t.n∧t.n<(vs.length:Int)∧zBv (zAi vs t.n) t.args=true:=by
 rw [zCu,Bool.and_eq_true] at h
 have h1:=h.1
 have e:t.kind=4:=by simpa using h4
 unfold zBb zA4 at h1
 rw [e] at h1
 simp at h1
 exact ⟨h1.2.2.2.1,by omega,h1.2.2.2.2.2⟩
theorem zYl {vs:List Va} {u:Term} (h:zAy u=true):zRo vs u=true:=by
 have hk:=zBi h
 rw [z07,hk.2]
 rcases hk.1 with e|e <;> rw [e] <;> rfl
theorem zGb {v:Va} {l:List Term} (h:zBv v l=true):(∀ u ∈ l,zAy u=true∧(u.kind=3→v.level≤u.n))∧l.Pairwise (fun b u=>isF u b=false)∧zBg v.type=l.length:=by
 unfold zBv at h
 rw [Bool.and_eq_true] at h
 obtain ⟨h1,_,h3⟩:=(zHc _ _ _).1 h.2
 refine ⟨h1,h3,?_⟩
 have:=h.1
 simp only [beq_iff_eq] at this
 omega
theorem yBm {vs:List Va}:∀ (s:Nat) (v:Term) (d:Int),v.size≤s→zAv vs v d=true→zRo vs v=true→Val vs d v v:=by
 intro s
 induction s with
 |zero=>intro v d hs;obtain ⟨a,b,c,l⟩:=v;rw [Term.size] at hs;omega
 |succ s ih =>
  intro v d hs hf hn
  rw [z07,Bool.and_eq_true] at hn
  have hf':=hf
  rw [zCu,Bool.and_eq_true] at hf'
  have hL:=(zCj _ _ _).1 hf'.2
  have hN:=(zNf _ _).1 hn.2
  have:Val vs d v ⟨v.kind,v.n,v.name,v.args⟩:=by
   refine .mk .zero ⟨fun h4=>?_,zHk hf⟩ rfl fun i a w ha hw=>?_
   ·have:=zHj hf h4
    refine ⟨this.1,this.2.1,?_⟩
    have h1:=hn.1
    rw [h4] at h1
    simpa using h1
   ·rw [ha] at hw
    injection hw with hw
    subst hw
    have hm:=List.mem_of_getElem? ha
    have:=zDl v i ha
    exact ih a _ (by omega) (hL a hm) (hN a hm)
  obtain ⟨a,b,c,l⟩:=v
  exact this
theorem yBl {vs:List Va} {d:Int} {t v:Term} (h4:(t.kind==4)=true) (hi:(zAi vs t.n).is=true) (ok:zX5 vs d t) (h:Val vs d (zB5 (zC4 vs t) t.args 0) v):Val vs d t v:=by
 cases h with
 |mk hs hn hl ha=>exact .mk (.succ h4 hi ok hs) hn hl ha
def Good (vs:List Va) (d:Int) (t v:Term):Prop:=Val vs d t v∧zAv vs v d=true∧zRo vs v=true
def yA6 (vs:List Va) (n:Int):Prop:=∀ (us:List Term) (s:ByteArray) (d:Int),0≤d→zAv vs ⟨4,n,s,us⟩ d=true→∃ v,Good vs d ⟨4,n,s,us⟩ v
theorem zEi {k:Int} {d:Int} (h:0≤d):0≤inner k d:=by unfold inner;split <;> omega
mutual
theorem zMy {vs:List Va}:∀ (t:Term) (d:Int),0≤d→zAv vs t d=true→(∀ k ∈ zBl t,yA6 vs k)→∃ v,Good vs d t v
 |⟨k,n,s,l⟩,d,hd,hf,hk=>by
  rw [zBl] at hk
  cases h4:(k==4)
  ·rw [h4] at hk
   simp only [Bool.false_eq_true,if_false] at hk
   have hf':=hf
   rw [zAv,Bool.and_eq_true] at hf'
   obtain ⟨l',hl,hv,hf2,hn2⟩:=zO8 l (inner k d) (zEi hd) hf'.2 hk
   refine ⟨⟨k,n,s,l'⟩,?_,?_,?_⟩
   ·exact .mk (u:=⟨k,n,s,l⟩) .zero ⟨fun h=>absurd (show (k==4)=true from h) (by rw [h4];decide),zHk hf⟩ hl hv
   ·rw [zAv,hf2,Bool.and_true]
    have h1:=hf'.1
    unfold zBb zA4 at h1 ⊢
    rw [hl]
    have k4:¬ k=4:=by simpa using h4
    simp only [h4] at h1 ⊢
    exact h1
   ·rw [zRo,h4,hn2];rfl
  ·have e:k=4:=by simpa using h4
   subst e
   exact hk n (by simp) l s d hd hf
theorem zO8 {vs:List Va}:∀ (l:List Term) (d:Int),0≤d→zDb vs l d=true→(∀ k ∈ zBy l,yA6 vs k)→∃ l':List Term,l'.length=l.length∧(∀ (i:Nat) (a w:Term),l[i]?=some a→l'[i]?=some w→Val vs d a w)∧zDb vs l' d=true∧zL1 vs l'=true
 |[],d,hd,hf,hk=>⟨[],rfl,fun i a w ha=>by simp at ha,by rw [zDb],by rw [zL1]⟩
 |t::l,d,hd,hf,hk=>by
  rw [zDb,Bool.and_eq_true] at hf
  rw [zBy] at hk
  obtain ⟨v,hv,hf1,hn1⟩:=zMy t d hd hf.1 fun k hk'=>hk k (List.mem_append.2 (.inl hk'))
  obtain ⟨l',hl,hv',hf2,hn2⟩:=zO8 l d hd hf.2 fun k hk'=>hk k (List.mem_append.2 (.inr hk'))
  refine ⟨v::l',by simp [hl],fun i a w ha hw=>?_,by rw [zDb,hf1,hf2];rfl,by rw [zL1,hn1,hn2];rfl⟩
  cases i with
  |zero =>
   simp only [List.getElem?_cons_zero,Option.some.injEq] at ha hw
   subst ha;subst hw;exact hv
  |succ i =>
   simp only [List.getElem?_cons_succ] at ha hw
   exact hv' i a w ha hw
end
mutual
theorem zIp {vs:List Va} {lv d:Int} {us:List Term} (hp:zRx vs lv d us):∀ (b:Term) (j:Int),zAv vs b (us.length+j)=true→∀ k ∈ zBl (zB5 b us j),k ∈ zBl b
 |⟨k,n,s,l⟩,j,hf,m,hm=>by
  have hto:zX6 us j ⟨k,n,s,l⟩:=z7h fun h2=>(zFv hf h2).2
  have hk:=yCy hp hto
  simp only at hk
  rw [zB5,zBl,hk] at hm
  rw [zBl]
  rw [zAv,Bool.and_eq_true] at hf
  cases h4:(k==4)
  ·rw [h4] at hm
   simp only [Bool.false_eq_true,if_false] at hm ⊢
   refine zKm hp l (inner k j) ?_ m hm
   have:inner k ((us.length:Int)+j)=us.length+inner k j:=by unfold inner;split <;> omega
   rw [← this];exact hf.2
  ·rw [h4] at hm
   simp only [if_true] at hm ⊢
   cases hto with
   |same e _=>simp only at e;rw [e] at hm;exact hm
   |put h2 hj i hi e ey =>
    have e4:k=4:=by simpa using h4
    have e2:k=2:=h2
    omega
theorem zKm {vs:List Va} {lv d:Int} {us:List Term} (hp:zRx vs lv d us):∀ (l:List Term) (j:Int),zDb vs l (us.length+j)=true→∀ k ∈ zBy (zBs l us j),k ∈ zBy l
 |[],j,hf,m,hm=>by rw [zBs] at hm;exact hm
 |t::l,j,hf,m,hm=>by
  rw [zDb,Bool.and_eq_true] at hf
  rw [zBs,zBy] at hm
  rw [zBy]
  rcases List.mem_append.1 hm with hm|hm
  ·exact List.mem_append.2 (.inl (zIp hp t j hf.1 m hm))
  ·exact List.mem_append.2 (.inr (zKm hp l j hf.2 m hm))
end
theorem zLf:∀ (n:Nat) (t:Term),(zCw n t).2=true→∀ k ∈ zBl (zCw n t).1,k ∈ zBl t
 |0,t,_,k,hk=>by rw [zCw] at hk;exact hk
 |n+1,t,h,k,hk=>by
  rw [zCw] at h hk
  cases hn:zKv t
  ·rw [hn] at h hk
   simp only [Bool.false_eq_true,if_false] at h hk
   obtain ⟨u,hu⟩:=zHz hn
   have h4:=zNg hn
   rw [hu] at h hk
   simp only [List.headD_cons] at h hk
   have:=zLf n u h k hk
   obtain ⟨a,b,c,l⟩:=t
   simp only at hu h4
   subst hu
   rw [zBl,h4,zBy,zBy]
   simpa using this
  ·rw [hn] at h;simp at h
mutual
theorem zQk {vs:List Va}:∀ (b:Term) (m:Nat) (j:Int),zAv vs b (m+j)=true→zH3 b m j=true
 |⟨k,n,s,l⟩,m,j,hf=>by
  have hb:=zFv hf
  rw [zAv,Bool.and_eq_true] at hf
  rw [zH3,Bool.and_eq_true]
  refine ⟨?_,?_⟩
  ·by_cases e:k=2
   ·have:=hb e
    simp only at this
    simp;right;omega
   ·simp [e]
  ·refine zSk (vs:=vs) l m (inner k j) ?_
   have:inner k ((m:Int)+j)=m+inner k j:=by unfold inner;split <;> omega
   rw [← this];exact hf.2
theorem zSk {vs:List Va}:∀ (l:List Term) (m:Nat) (j:Int),zDb vs l (m+j)=true→zFw l m j=true
 |[],m,j,hf=>by rw [zFw]
 |t::l,m,j,hf=>by
  rw [zDb,Bool.and_eq_true] at hf
  rw [zFw,zQk t m j hf.1,zSk l m j hf.2];rfl
end
theorem step_ok {vs:List Va} (hc:zA1 vs=0) {t:Term} {d:Int} (hd:0≤d) (hf:zAv vs t d=true) (h4:(t.kind==4)=true) (hi:(zAi vs t.n).is=true) :
  zX5 vs d t∧zRx vs (zAi vs t.n).level d t.args∧zAv vs (zC4 vs t) t.args.length=true∧zEe vs (zAi vs t.n).level (zC4 vs t)=true:=by
 unfold zA1 at hc
 split at hc
 ·cases hc
 ·split at hc
  ·cases hc
  ·rename_i hl
   have hl':zKc vs 4000=false:=by simpa using hl
   split at hc
   ·rename_i hall
    rw [List.all_eq_true] at hall
    have hv:=zHj hf h4
    have hpat:=zGb hv.2.2
    have hmem:=zLn hi
    have hva:=hall _ hmem
    have hsz:=zGr vs 4000 hl' _ hmem hi
    unfold zFe at hva
    rw [hi,Bool.and_eq_true] at hva
    have h2:=hva.2
    simp only [if_true] at h2
    rw [hpat.2.2] at h2
    unfold inF at h2
    simp only [Bool.and_eq_true] at h2
    obtain ⟨hb,_,hfb,hsb⟩:=h2
    have hf':=hf
    rw [zCu,Bool.and_eq_true] at hf'
    have hin:inner t.kind d=d:=by
     have:t.kind=4:=by simpa using h4
     unfold inner;rw [this];rfl
    rw [hin] at hf'
    have hargs:∀ u ∈ t.args,zHu d u:=fun u hu=>zUj (hpat.1 u hu).1 ((zCj _ _ _).1 hf'.2 u hu)
    refine ⟨⟨hv.1,hv.2.1,by omega,hb,?_,hargs,zHk hf⟩,⟨hd,hargs,fun u hu=>(hpat.1 u hu).2,hpat.2.1⟩,hfb,hsb⟩
    exact zQk _ _ 0 (by rw [Int.add_zero];exact hfb)
   ·cases hc
theorem yIx {vs:List Va} (hc:zA1 vs=0) {n:Int} (ha:Acc (Edge vs) n):yA6 vs n:=by
 induction ha with
 |intro n _ ih =>
  intro us s d hd hf
  cases hi:(zAi vs n).is
  ·have hv:=zHj hf rfl
   have hpat:=zGb hv.2.2
   have hn:zRo vs ⟨4,n,s,us⟩=true:=by
    rw [zRo,hi,Bool.and_false,Bool.not_false,Bool.true_and]
    exact (zNf _ _).2 fun u hu=>zYl (hpat.1 u hu).1
   exact ⟨_,yBm _ _ d (Nat.le_refl _) hf hn,hf,hn⟩
  ·obtain ⟨ok,hp,hfb,hsb⟩:=step_ok hc (t:=⟨4,n,s,us⟩) hd hf rfl hi
   have hff:=zG6 hp (zC4 vs ⟨4,n,s,us⟩) 0 (Int.le_refl _) (by rw [Int.add_zero];exact hfb) hsb
   rw [Int.add_zero] at hff
   obtain ⟨v,hv,h1,h2⟩:=zMy _ d hd hff fun k hk=>ih k ⟨hi,zLf _ _ ok.body k (zIp hp _ 0 (by rw [Int.add_zero];exact hfb) k hk)⟩
   exact ⟨v,yBl rfl hi ok hv,h1,h2⟩
theorem zGf {vs:List Va} (hc:zA1 vs=0) {t:Term} {d:Int} (hd:0≤d) (hf:zAv vs t d=true):∃ v,Good vs d t v:=by
 have hc':=hc
 unfold zA1 at hc'
 split at hc'
 ·cases hc'
 ·split at hc'
  ·cases hc'
  ·rename_i hl
   have hl':zKc vs 4000=false:=by simpa using hl
   split at hc'
   ·rename_i hall
    split at hc'
    ·cases hc'
    ·rename_i hcirc
     have hacc:=(zG9 (zK4 vs hl' hall).plain).1 (by simpa using hcirc)
     have hvars:=zId _ _ ((zH1 vs _).1 t d (Nat.le_refl _) hf)
     refine zMy t d hd hf fun k hk=>?_
     have:=hvars k hk
     have h2:=hacc k.toNat (by omega)
     rw [Int.toNat_of_nonneg this.1] at h2
     exact yIx hc h2
   ·cases hc'
end Go.Proofs.YthkjmiejaoomcaaGreat.Am
