/- Part of the proof of a law of layer 5: own texts, joined. -/
import Derived.Test.YthkjmiejaoomcaaGreatRh
import Derived.Test.YthkjmiejaoomcaaGreatRl
import Derived.Test.YthkjmiejaoomcaaGreatRn
set_option linter.unusedVariables false
set_option linter.unusedSimpArgs false
set_option linter.unnecessarySimpa false
namespace Go.Proofs.YthkjmiejaoomcaaGreat.Am
open Go Go.RowKit Go.Proofs
set_option linter.unusedVariables false
set_option linter.unusedSimpArgs false
def zM7:List Va→Int→Bool
 |[],_=>false
 |v::vs,left=>if v.is then (if decide ((v.t.size:Int)>left) then true else zM7 vs (left - v.t.size)) else zM7 vs left
def zBd (vs:List Va):Int:=if (vs.length:Int)>2000 then 2 else if zM7 vs 4000 then 2 else if vs.all (zIp vs) then (if zQ8 vs then 50 else 0) else 50
theorem zHk:∀ (vs:List Va) (left:Int),zM7 vs left=false→∀ v ∈ vs,v.is=true→(v.t.size:Int)≤left
 |[],left,_,v,hv,_=>absurd hv List.not_mem_nil
 |w::vs,left,h,v,hv,hi=>by
  rw [zM7] at h
  cases hw:w.is
  ·rw [hw] at h
   rcases List.mem_cons.1 hv with rfl|hv
   ·rw [hw] at hi;cases hi
   ·exact zHk vs left (by simpa using h) v hv hi
  ·rw [hw] at h
   simp only [if_true] at h
   cases hd:decide ((w.t.size:Int)>left)
   ·rw [hd] at h
    simp only [Bool.false_eq_true,if_false] at h
    rcases List.mem_cons.1 hv with rfl|hv
    ·simpa using hd
    ·have:=zHk vs _ h v hv hi;omega
   ·rw [hd] at h;cases h
theorem z7i:∀ (n:Nat) (t:Term),(zDe n t).1.size≤t.size
 |0,t=>by rw [zDe];exact Nat.le_refl _
 |n+1,t=>by
  rw [zDe]
  split
  ·exact Nat.le_refl _
  ·rename_i hn
   obtain ⟨u,hu⟩:=zIv (by simpa using hn)
   rw [hu]
   simp only [List.headD_cons]
   have h1:=z7i n u
   have h2:=zDp t 0 (t:=u) (by rw [hu];rfl)
   omega
end Go.Proofs.YthkjmiejaoomcaaGreat.Am
namespace Go.Proofs.YthkjmiejaoomcaaGreat.Am
open Go Go.RowKit Go.Proofs
set_option linter.unusedVariables false
set_option linter.unusedSimpArgs false
theorem z5b {u:Term} (h:zBm u=true):(u.kind==4)=false∧u.args=[]:=by
 unfold zBm at h
 simp only [Bool.and_eq_true,Bool.or_eq_true,beq_iff_eq] at h
 refine ⟨?_,List.eq_nil_of_length_eq_zero (by omega)⟩
 rcases h.1 with e|e <;> rw [e] <;> rfl
theorem zMx (lv:Int):∀ (us pre:List Term),zH7 lv pre us=true→∀ u ∈ us,zBm u=true
 |[],pre,_,u,hu=>absurd hu List.not_mem_nil
 |v::us,pre,h,u,hu=>by
  rw [zH7,Bool.and_eq_true] at h
  rcases List.mem_cons.1 hu with rfl|hu
  ·have:=h.1;unfold zK6 at this
   rw [Bool.and_eq_true] at this
   exact this.1
  ·exact zMx lv us _ h.2 u hu
theorem zP6:∀ us:List Term,(∀ u ∈ us,zBm u=true)→zCl us=[]∧zFh us=true
 |[],_=>⟨by rw [zCl],by rw [zFh]⟩
 |u::us,h=>by
  have h1:=z5b (h u (List.mem_cons_self ..))
  have h2:=zP6 us (fun v hv=>h v (List.mem_cons_of_mem _ hv))
  obtain ⟨k,n,s,l⟩:=u
  simp only at h1
  rw [zCl,zFh,zBu,zK5,h1.2,h1.1,zCl,zFh,h2.1,h2.2]
  exact ⟨rfl,rfl⟩
mutual
theorem zYt (vs:List Va):∀ (t:Term) (d:Int),zAw vs t d=true→zK5 t=true
 |⟨k,n,s,l⟩,d,h=>by
  rw [zAw,Bool.and_eq_true] at h
  rw [zK5]
  cases hk:(k==4)
  ·simp only [Bool.false_eq_true,if_false]
   exact zWy vs l _ h.2
  ·simp only [if_true]
   have h1:=h.1
   have e:k=4:=by simpa using hk
   subst e
   simp only [zA4,zA1,Bool.and_eq_true] at h1
   have h2:zB4 (zAi vs n) l=true:=by
    have:=h1.2.2.2
    simp at this
    exact this.2.2
   unfold zB4 at h2
   rw [Bool.and_eq_true] at h2
   have h3:=zP6 l (zMx _ l [] h2.2)
   rw [h3.1,h3.2];rfl
theorem zWy (vs:List Va):∀ (l:List Term) (d:Int),zD3 vs l d=true→zFh l=true
 |[],d,_=>by rw [zFh]
 |t::l,d,h=>by
  rw [zD3,Bool.and_eq_true] at h
  rw [zFh,zYt vs t d h.1,zWy vs l d h.2];rfl
end
mutual
theorem zJa (m:Nat):∀ t:Term,varsIn m t=true→∀ k ∈ zBu t,0≤k∧k<(m:Int)
 |⟨k,n,s,l⟩,h=>by
  rw [varsIn,Bool.and_eq_true] at h
  rw [zBu]
  cases hk:(k==4)
  ·simp only [Bool.false_eq_true,if_false]
   exact zUe m l h.2
  ·simp only [if_true]
   intro j hj
   rw [List.mem_singleton] at hj
   subst hj
   have h1:=h.1
   rw [hk] at h1
   simpa using h1
theorem zUe (m:Nat):∀ l:List Term,zE1 m l=true→∀ k ∈ zCl l,0≤k∧k<(m:Int)
 |[],_=>by rw [zCl];intro k hk;exact absurd hk List.not_mem_nil
 |t::l,h=>by
  rw [zE1,Bool.and_eq_true] at h
  rw [zCl]
  intro k hk
  rcases List.mem_append.1 hk with hk|hk
  ·exact zJa m t h.1 k hk
  ·exact zUe m l h.2 k hk
end
theorem zTs {t:Term} (h:zUu t=false):(t.kind==4)=false:=by
 unfold zUu at h
 rw [Bool.or_eq_false_iff] at h
 have h1:=h.1
 cases h4:(t.kind==4)
 ·rfl
 ·have e:t.kind=4:=by simpa using h4
  rw [e] at h1;simp at h1
theorem zZa:∀ (n:Nat) (t:Term),(zDe n t).2=true→zK5 (zDe n t).1=true→zK5 t=true
 |0,t,_,hp=>by rw [zDe] at hp;exact hp
 |n+1,t,h,hp=>by
  rw [zDe] at h hp
  cases hn:zUu t
  ·rw [hn] at h hp
   simp only [Bool.false_eq_true,if_false] at h hp
   obtain ⟨u,hu⟩:=zIv hn
   have hk:=zTs hn
   rw [hu] at h hp
   simp only [List.headD_cons] at h hp
   have:=zZa n u h hp
   obtain ⟨a,b,c,l⟩:=t
   simp only at hu hk
   subst hu
   rw [zK5,hk,zFh,zFh,this];rfl
  ·rw [hn] at h;simp at h
theorem z7h (m:Nat):∀ (n:Nat) (t:Term),(zDe n t).2=true→varsIn m (zDe n t).1=true→varsIn m t=true
 |0,t,_,hp=>by rw [zDe] at hp;exact hp
 |n+1,t,h,hp=>by
  rw [zDe] at h hp
  cases hn:zUu t
  ·rw [hn] at h hp
   simp only [Bool.false_eq_true,if_false] at h hp
   obtain ⟨u,hu⟩:=zIv hn
   have hk:=zTs hn
   rw [hu] at h hp
   simp only [List.headD_cons] at h hp
   have:=z7h m n u h hp
   obtain ⟨a,b,c,l⟩:=t
   simp only at hu hk
   subst hu
   rw [varsIn,hk,zE1,zE1,this];rfl
  ·rw [hn] at h;simp at h
theorem zOd {vs:List Va} {n:Int} (hi:(zAi vs n).is=true):zAi vs n ∈ vs:=by
 unfold zAi at hi ⊢
 rw [List.getD_eq_getElem?_getD] at hi ⊢
 cases h:vs[n.toNat]? with
 |none=>rw [h] at hi;cases hi
 |some v=>exact List.mem_of_getElem? h
structure yKs (vs:List Va):Prop where
 plain:zI7 vs
 sizes:Sizes vs
 vals:yCd vs
theorem z9l (vs:List Va) (hl:zM7 vs 4000=false) (hv:vs.all (zIp vs)=true):yKs vs:=by
 rw [List.all_eq_true] at hv
 have key:∀ v ∈ vs,v.is=true→varsIn vs.length v.t=true∧zK5 v.t=true:=by
  intro v hm hi
  have h1:=hv v hm
  unfold zIp at h1
  rw [hi,Bool.and_eq_true] at h1
  have h2:=h1.2
  simp only [if_true] at h2
  unfold inF at h2
  simp only [Bool.and_eq_true] at h2
  obtain ⟨hb,hz,hf,hs⟩:=h2
  have h3:=(zQs vs _).1 _ _ (Nat.le_refl _) hf
  have h4:=zYt vs _ _ hf
  exact ⟨z7h _ _ _ hb h3,zZa _ _ hb h4⟩
 have hsz:=zHk vs 4000 hl
 refine ⟨⟨fun n hi=>(key _ (zOd hi) hi).2,fun n k he=>zJa _ _ (key _ (zOd he.1) he.1).1 k he.2⟩,fun n hi=>?_,fun v hm hi=>⟨(key v hm hi).1,?_⟩⟩
 ·have:=hsz _ (zOd hi) hi;omega
 ·have:=hsz v hm hi;omega
end Go.Proofs.YthkjmiejaoomcaaGreat.Am
namespace Go.Proofs.YthkjmiejaoomcaaGreat.Am
open Go Go.RowKit Go.Proofs
set_option linter.unusedVariables false
set_option linter.unusedSimpArgs false
def zCp (vs:List Va) (t:Term):Term:=(zDe t.args.length (zAi vs t.n).t).1
def zEv (d:Int) (u:Term):Prop:=zBm u=true∧u.name.toList=zAr.toList∧(u.kind=2→0≤u.n∧u.n<d)∧(u.kind=3→0≤u.n∧u.n<60)
structure yH6 (vs:List Va) (d:Int) (t:Term):Prop where
 n0:0≤t.n
 n1:t.n<(vs.length:Int)
 size:(zAi vs t.n).t.size≤4000
 body:(zDe t.args.length (zAi vs t.n).t).2=true
 fill:zQu (zCp vs t) t.args.length 0=true
 args:∀ u ∈ t.args,zEv d u
 len:t.args.length≤8
inductive yAg (vs:List Va) (d:Int):Term→Nat→Term→Prop
 |zero {t:Term}:yAg vs d t 0 t
 |succ {t:Term} {k:Nat} {u:Term} (h4:(t.kind==4)=true) (hi:(zAi vs t.n).is=true) (ok:yH6 vs d t) (hs:yAg vs d (zBi (zCp vs t) t.args 0) k u):yAg vs d t (k+1) u
structure yN9 (vs:List Va) (t:Term):Prop where
 var:(t.kind==4)=true→0≤t.n∧t.n<(vs.length:Int)∧(zAi vs t.n).is=false
 len:t.args.length≤8
inductive Val (vs:List Va):Int→Term→Term→Prop
 |mk {d:Int} {t:Term} {k:Nat} {u:Term} {l:List Term} (hs:yAg vs d t k u) (hn:yN9 vs u) (hl:l.length=u.args.length)
   (ha:∀ (i:Nat) (a w:Term),u.args[i]?=some a→l[i]?=some w→Val vs (inner u.kind d) a w):Val vs d t ⟨u.kind,u.n,u.name,l⟩
theorem zH6 (lv:Int):∀ (us pre:List Term),zH7 lv pre us=true↔(∀ u ∈ us,zBm u=true∧(u.kind=3→lv≤u.n))∧(∀ u ∈ us,∀ b ∈ pre,isF u b=false)∧us.Pairwise (fun b u=>isF u b=false)
 |[],pre=>by simp [zH7]
 |v::us,pre=>by
  rw [zH7,Bool.and_eq_true,zH6 lv us (pre++[v]),List.pairwise_cons]
  unfold zK6
  simp only [Bool.and_eq_true,Bool.not_eq_true',List.any_eq_false,Bool.and_eq_false_iff,beq_eq_false_iff_ne,decide_eq_false_iff_not,List.mem_cons,List.mem_append,List.not_mem_nil,or_false]
  constructor
  ·rintro ⟨⟨h1,h2,h3⟩,h4,h5,h6⟩
   refine ⟨?_,?_,fun u hu=>h5 u hu v (.inr rfl),h6⟩
   ·rintro u (rfl|hu)
    ·refine ⟨h1,fun h=>?_⟩
     rcases h2 with h2|h2
     ·exact absurd h h2
     ·omega
    ·exact h4 u hu
   ·rintro u (rfl|hu) b hb
    ·have:=h3 b hb;simpa using this
    ·exact h5 u hu b (.inl hb)
  ·rintro ⟨h1,h2,h3,h4⟩
   refine ⟨⟨(h1 v (.inl rfl)).1,?_,fun b hb=>by have:=h2 v (.inl rfl) b hb;simp [this]⟩,fun u hu=>h1 u (.inr hu),?_,h4⟩
   ·by_cases h:v.kind=3
    ·exact .inr (by have:=(h1 v (.inl rfl)).2 h;omega)
    ·exact .inl h
   ·rintro u hu b (hb|rfl)
    ·exact h2 u (.inr hu) b hb
    ·exact h3 u hu
theorem zDt (us:List Term) (d:Int):∀ l:List Term,zBc l us d=l.map fun t=>zBi t us d
 |[]=>by rw [zBc];rfl
 |t::l=>by rw [zBc,zDt us d l];rfl
theorem zBr (vs:List Va) (d:Int):∀ l:List Term,zD3 vs l d=true↔∀ t ∈ l,zAw vs t d=true
 |[]=>by simp [zD3]
 |t::l=>by rw [zD3,Bool.and_eq_true,zBr vs d l];simp
theorem zP7 (vs:List Va) (lv:Int):∀ l:List Term,zM0 vs lv l=true↔∀ t ∈ l,zFn vs lv t=true
 |[]=>by simp [zM0]
 |t::l=>by rw [zM0,Bool.and_eq_true,zP7 vs lv l];simp
theorem zCh (vs:List Va) (t:Term) (d:Int):zAw vs t d=(zA4 vs t.kind t.n t.name t.args d&&zD3 vs t.args (inner t.kind d)):=by obtain ⟨a,b,c,l⟩:=t;rw [zAw]
theorem zL0 (t:Term) (us:List Term) (d:Int):zBi t us d=⟨(zCc t.kind t.n t.name us d).1,(zCc t.kind t.n t.name us d).2.1,(zCc t.kind t.n t.name us d).2.2,zBc t.args us (inner t.kind d)⟩:=by obtain ⟨k,n,s,l⟩:=t;rw [zBi]
theorem zA2 {u:Term} (h:zBm u=true):(u.kind=2∨u.kind=3)∧u.args=[]:=by
 unfold zBm at h
 simp only [Bool.and_eq_true,Bool.or_eq_true,beq_iff_eq] at h
 exact ⟨h.1,List.eq_nil_of_length_eq_zero (by omega)⟩
theorem z2f {vs:List Va} {u:Term} {d:Int} (hs:zBm u=true) (hf:zAw vs u d=true):zEv d u:=by
 have hk:=zA2 hs
 rw [zCh,Bool.and_eq_true] at hf
 have hh:=hf.1
 unfold zA4 zA1 at hh
 refine ⟨hs,?_,fun h2=>?_,fun h3=>?_⟩
 ·rcases hk.1 with e|e <;> · rw [e] at hh;simp at hh;simpa using hh.1
 ·rw [h2] at hh;simp at hh;omega
 ·rw [h3] at hh;simp at hh;omega
theorem yF0 {s:ByteArray} (h:s.toList=zAr.toList):s.size=0:=by
 have:=congrArg List.length h
 rw [zUf,zUf] at this
 exact this
theorem z3h {vs:List Va} {u:Term} {d:Int} (h:zEv d u) (l:List Term) (hl:(l.length:Int)≤8):zA4 vs u.kind u.n u.name l d=true:=by
 obtain ⟨hs,hn,h2,h3⟩:=h
 have hz:=yF0 hn
 have hk:=zA2 hs
 unfold zA4 zA1
 rw [hn,hz]
 rcases hk.1 with e|e
 ·have:=h2 e
  rw [e]
  simp
  omega
 ·have:=h3 e
  rw [e]
  simp
  omega
theorem yN7 {d j:Int} {u:Term} (h:zEv d u) (hj:0≤j):zEv (d+j) ⟨u.kind,if u.kind==2 then u.n+j else u.n,u.name,[]⟩:=by
 obtain ⟨hs,hn,h2,h3⟩:=h
 have hk:=zA2 hs
 refine ⟨?_,hn,fun e=>?_,fun e=>?_⟩
 ·unfold zBm
  rcases hk.1 with e|e <;> · simp [e]
 ·have e':u.kind=2:=e
  have:=h2 e'
  simp only [e',beq_self_eq_true,if_true]
  omega
 ·have e':u.kind=3:=e
  have:=h3 e'
  simp only [e']
  simpa using this
structure zXu (vs:List Va) (lv d:Int) (us:List Term):Prop where
 pos:0≤d
 args:∀ u ∈ us,zEv d u
 high:∀ u ∈ us,u.kind=3→lv≤u.n
 pair:us.Pairwise (fun b u=>isF u b=false)
theorem zDg {us:List Term} {i:Nat} (h:i<us.length):us.getD i zA7 ∈ us:=by
 rw [List.getD_eq_getElem?_getD,List.getElem?_eq_getElem h]
 exact List.getElem_mem h
theorem yA5 {us:List Term} (h:us.Pairwise (fun b u=>isF u b=false)) {i k:Nat} (hi:i<us.length) (hk:k<us.length) (hne:i≠k):isF (us.getD i zA7) (us.getD k zA7)=false:=by
 rw [List.getD_eq_getElem?_getD,List.getElem?_eq_getElem hi,List.getD_eq_getElem?_getD,List.getElem?_eq_getElem hk]
 simp only [Option.getD_some]
 rw [List.pairwise_iff_getElem] at h
 rcases Nat.lt_or_gt_of_ne hne with h1|h1
 ·have:=h i k hi hk h1
  unfold isF at this ⊢
  rw [Bool.and_eq_false_iff] at this ⊢
  rcases this with e|e
  ·left;rw [beq_eq_false_iff_ne] at e ⊢;exact fun x=>e x.symm
  ·right;rw [beq_eq_false_iff_ne] at e ⊢;exact fun x=>e x.symm
 ·exact h k i hk hi h1
inductive z7w (us:List Term) (j:Int) (x:Term):Prop
 |same (h:(zCc x.kind x.n x.name us j)=(x.kind,x.n,x.name)) (h2:x.kind=2→x.n<j)
 |put (h2:x.kind=2) (hj:j≤x.n) (i:Nat) (hi:i<us.length) (e:(i:Int)=us.length - 1 - (x.n - j)) (h:zCc x.kind x.n x.name us j=((us.getD i zA7).kind,(if (us.getD i zA7).kind==2 then (us.getD i zA7).n+j else (us.getD i zA7).n),(us.getD i zA7).name))
theorem yFg {us:List Term} {j:Int} {x:Term} (hx:x.kind=2→x.n<us.length+j):z7w us j x:=by
 by_cases h2:x.kind=2
 ·by_cases hj:j≤x.n
  ·have:=hx h2
   obtain ⟨i,hi⟩:∃ i:Nat,(us.length:Int) - 1 - (x.n - j)=i:=⟨_,(Int.toNat_of_nonneg (by omega)).symm⟩
   refine .put h2 hj i (by omega) hi.symm ?_
   unfold zCc
   rw [h2,show decide (x.n≥j)=true from decide_eq_true hj,hi,Int.toNat_natCast]
   rfl
  ·refine .same ?_ fun _=>by omega
   unfold zCc
   rw [show decide (x.n≥j)=false from decide_eq_false (by omega),Bool.and_false]
   rfl
 ·refine .same ?_ fun h=>absurd h h2
  unfold zCc
  rw [show (x.kind==2)=false by simpa using h2]
  rfl
theorem yGo {vs:List Va} {lv d:Int} {us:List Term} (hp:zXu vs lv d us) {j:Int} {x:Term} (h:z7w us j x):inner (zCc x.kind x.n x.name us j).1 (d+j)=d+inner x.kind j:=by
 cases h with
 |same h _ =>
  rw [h];unfold inner;split <;> omega
 |put h2 hj i hi e h =>
  rw [h,h2]
  have:=(zA2 (hp.args _ (zDg hi)).1).1
  unfold inner
  rcases this with e|e <;> rw [e] <;> simp
theorem yJv {vs:List Va} {lv d:Int} {us:List Term} (hp:zXu vs lv d us) {j:Int} {x:Term} (h:z7w us j x):((zCc x.kind x.n x.name us j).1==4)=(x.kind==4):=by
 cases h with
 |same h _=>rw [h]
 |put h2 hj i hi e h =>
  rw [h,h2]
  have:=(zA2 (hp.args _ (zDg hi)).1).1
  rcases this with e|e <;> rw [e] <;> rfl
theorem zHx {a b:Term}:isF a b=false↔a.kind≠b.kind∨a.n≠b.n:=by
 unfold isF
 rw [Bool.and_eq_false_iff]
 simp
theorem z5h {vs:List Va} {lv d:Int} {us:List Term} (hp:zXu vs lv d us) {j:Int} (hj:0≤j) {x y:Term} (hx:z7w us j x) (hy:z7w us j y)
  (lx:x.kind=3→x.n<lv) (ly:y.kind=3→y.n<lv) (kx:x.kind=2∨x.kind=3) (ky:y.kind=2∨y.kind=3) (h:isF y x=false):isF (zBi y us j) (zBi x us j)=false:=by
 rw [zHx] at h ⊢
 rw [zL0,zL0]
 simp only
 cases hx with
 |same ex bx =>
  cases hy with
  |same ey _=>rw [ex,ey];exact h
  |put h2 hjy i hi e ey =>
   rw [ex,ey]
   have hu:=hp.args _ (zDg hi)
   have hh:=hp.high _ (zDg hi)
   generalize us.getD i zA7=u at *
   simp only
   rcases (zA2 hu.1).1 with k2|k3
   ·have:=hu.2.2.1 k2
    rw [k2]
    rcases kx with e2|e3
    ·have:=bx e2
     right;simp;omega
    ·left;rw [e3];decide
   ·have:=hh k3
    rw [k3]
    rcases kx with e2|e3
    ·left;rw [e2];decide
    ·have:=lx e3
     right;simp;omega
 |put h2x hjx i hi e ex =>
  have hu:=hp.args _ (zDg hi)
  have hh:=hp.high _ (zDg hi)
  cases hy with
  |same ey byy =>
   rw [ex,ey]
   generalize us.getD i zA7=u at *
   simp only
   rcases (zA2 hu.1).1 with k2|k3
   ·have:=hu.2.2.1 k2
    rw [k2]
    rcases ky with e2|e3
    ·have:=byy e2
     right;simp;omega
    ·left;rw [e3];decide
   ·have:=hh k3
    rw [k3]
    rcases ky with e2|e3
    ·left;rw [e2];decide
    ·have:=ly e3
     right;simp;omega
  |put h2y hjy i' hi' e' ey =>
   rw [ex,ey]
   have hne:i'≠i:=by
    intro h3
    subst h3
    rcases h with h|h
    ·exact h (h2y.trans h2x.symm)
    ·exact h (by omega)
   have hd:=yA5 hp.pair hi' hi hne
   rw [zHx] at hd
   generalize us.getD i zA7=u at *
   generalize us.getD i' zA7=w at *
   simp only
   by_cases hk:w.kind=u.kind
   ·right
    have hn:w.n≠u.n:=by rcases hd with h|h;exact absurd hk h;exact h
    rw [hk]
    split <;> omega
   ·exact .inl hk
theorem yAx {vs:List Va} {lv:Int} {x:Term} (h:zFn vs lv x=true):x.kind=3→x.n<lv:=by
 intro e
 rw [zU2,Bool.and_eq_true] at h
 have h1:=h.1
 unfold zFr at h1
 rw [e] at h1
 simp at h1
 omega
theorem zE6 {vs:List Va} {x:Term} {m:Int} (h:zAw vs x m=true):x.kind=2→0≤x.n∧x.n<m:=by
 intro e
 rw [zCh,Bool.and_eq_true] at h
 have h1:=h.1
 unfold zA4 zA1 at h1
 rw [e] at h1
 simp at h1
 omega
theorem z8v {vs:List Va} {lv d:Int} {us:List Term} (hp:zXu vs lv d us) {j:Int} (hj:0≤j) {v:Va} {l:List Term} (hlv:v.level≤lv)
  (hl:zB4 v l=true) (hf:∀ t ∈ l,zAw vs t (us.length+j)=true) (hs:∀ t ∈ l,zFn vs lv t=true):zB4 v (zBc l us j)=true:=by
 unfold zB4 at hl ⊢
 rw [Bool.and_eq_true] at hl ⊢
 refine ⟨by rw [zCw];exact hl.1,?_⟩
 obtain ⟨h1,_,h3⟩:=(zH6 _ _ _).1 hl.2
 have hto:∀ t ∈ l,z7w us j t:=fun t ht=>yFg fun h2=>(zE6 (hf t ht) h2).2
 refine (zH6 _ _ _).2 ⟨?_,fun u _ b hb=>absurd hb List.not_mem_nil,?_⟩
 ·rw [zDt]
  intro u hu
  obtain ⟨x,hx,rfl⟩:=List.mem_map.1 hu
  have hsx:=(h1 x hx).1
  have hnil:=(zA2 hsx).2
  rw [zL0,hnil]
  cases hto x hx with
  |same e _ =>
   rw [e]
   refine ⟨?_,fun h3=>(h1 x hx).2 h3⟩
   unfold zBm at hsx ⊢
   rw [hnil] at hsx
   simpa [zBc] using hsx
  |put h2 hjx i hi e ey =>
   rw [ey]
   have hu:=hp.args _ (zDg hi)
   have hh:=hp.high _ (zDg hi)
   generalize us.getD i zA7=w at *
   refine ⟨?_,fun h3=>?_⟩
   ·unfold zBm
    rcases (zA2 hu.1).1 with e|e <;> · rw [e];simp [zBc]
   ·have h3':w.kind=3:=h3
    have:=hh h3'
    simp only [h3']
    simp;omega
 ·rw [zDt,List.pairwise_map]
  refine List.Pairwise.imp_of_mem ?_ h3
  intro x y hx hy hxy
  exact z5h hp hj (hto x hx) (hto y hy) (yAx (hs x hx)) (yAx (hs y hy)) (zA2 (h1 x hx).1).1 (zA2 (h1 y hy).1).1 hxy
mutual
theorem zEb {vs:List Va} {lv d:Int} {us:List Term} (hp:zXu vs lv d us):∀ (b:Term) (j:Int),0≤j→zAw vs b (us.length+j)=true→zFn vs lv b=true→zAw vs (zBi b us j) (d+j)=true
 |⟨k,n,s,l⟩,j,hj,hf,hs=>by
  have hf':=hf
  rw [zAw,Bool.and_eq_true] at hf
  rw [zFn,Bool.and_eq_true] at hs
  have hto:z7w us j ⟨k,n,s,l⟩:=yFg fun h2=>(zE6 hf' h2).2
  have hin:=yGo hp hto
  have hL:=zUo hp l (inner k j) (by unfold inner;split <;> omega) (by
   have:inner k ((us.length:Int)+j)=us.length+inner k j:=by unfold inner;split <;> omega
   rw [← this];exact hf.2) hs.2
  simp only at hin
  rw [zBi,zAw,hin,hL,Bool.and_true]
  have hlen:(l.length:Int)≤8:=by
   have:=hf.1
   unfold zA4 at this
   simp only [Bool.and_eq_true,Bool.not_eq_true',decide_eq_false_iff_not] at this
   omega
  cases hto with
  |put h2 hjx i hi e ey =>
   simp only at ey
   rw [ey]
   have:=z3h (vs:=vs) (yN7 (hp.args _ (zDg hi)) hj) (zBc l us (inner k j)) (by rw [zCw];exact hlen)
   exact this
  |same ex bx =>
   simp only at ex
   rw [ex]
   have h1:=hf.1
   unfold zA4 at h1 ⊢
   rw [zCw]
   simp only [Bool.and_eq_true] at h1 ⊢
   refine ⟨h1.1,h1.2.1,h1.2.2.1,?_⟩
   have ht:=h1.2.2.2
   unfold zA1 at ht ⊢
   rw [zCw]
   by_cases k1:k=1
   ·subst k1;simpa using ht
   by_cases k2:k=2
   ·subst k2
    have hb:=bx rfl
    have hb':n<j:=hb
    have:=zE6 hf' rfl
    have h0:0≤n:=this.1
    have hd:=hp.pos
    simp at ht ⊢
    omega
   by_cases k3:k=3
   ·subst k3;simpa using ht
   by_cases k5:k=5
   ·subst k5;simpa using ht
   by_cases k4:k=4
   ·subst k4
    simp at ht ⊢
    refine ⟨ht.1,ht.2.1,?_⟩
    refine z8v hp hj ?_ ht.2.2 ?_ ?_
    ·have:=hs.1
     unfold zFr at this
     simp at this
     exact this
    ·have h2:=hf.2
     exact (zBr vs _ l).1 h2
    ·exact (zP7 vs lv l).1 hs.2
   ·have e:zA1 vs k n l ((us.length:Int)+j)=false:=by unfold zA1;simp [k1,k2,k3,k4,k5]
    unfold zA1 at e
    rw [e] at ht
    cases ht
theorem zUo {vs:List Va} {lv d:Int} {us:List Term} (hp:zXu vs lv d us):∀ (l:List Term) (j:Int),0≤j→zD3 vs l (us.length+j)=true→zM0 vs lv l=true→zD3 vs (zBc l us j) (d+j)=true
 |[],j,hj,hf,hs=>by rw [zBc,zD3]
 |t::l,j,hj,hf,hs=>by
  rw [zD3,Bool.and_eq_true] at hf
  rw [zM0,Bool.and_eq_true] at hs
  rw [zBc,zD3,zEb hp t j hj hf.1 hs.1,zUo hp l j hj hf.2 hs.2];rfl
end
end Go.Proofs.YthkjmiejaoomcaaGreat.Am
namespace Go.Proofs.YthkjmiejaoomcaaGreat.Am
open Go Go.RowKit Go.Proofs
set_option linter.unusedVariables false
set_option linter.unusedSimpArgs false
mutual
def zM5 (vs:List Va):Term→Bool
 |⟨k,n,_,l⟩=>!(k==4&&(zAi vs n).is)&&zQk vs l
def zQk (vs:List Va):List Term→Bool
 |[]=>true
 |t::ts=>zM5 vs t&&zQk vs ts
end
theorem yA8 (vs:List Va) (t:Term):zM5 vs t=(!(t.kind==4&&(zAi vs t.n).is)&&zQk vs t.args):=by obtain ⟨a,b,c,l⟩:=t;rw [zM5]
theorem zHj (vs:List Va):∀ l:List Term,zQk vs l=true↔∀ t ∈ l,zM5 vs t=true
 |[]=>by simp [zQk]
 |t::l=>by rw [zQk,Bool.and_eq_true,zHj vs l];simp
theorem zId {vs:List Va} {t:Term} {d:Int} (h:zAw vs t d=true):t.args.length≤8:=by
 rw [zCh,Bool.and_eq_true] at h
 have h1:=h.1
 unfold zA4 at h1
 simp only [Bool.and_eq_true,Bool.not_eq_true',decide_eq_false_iff_not] at h1
 omega
theorem zLy {vs:List Va} {t:Term} {d:Int} (h:zAw vs t d=true) (h4:(t.kind==4)=true):0≤t.n∧t.n<(vs.length:Int)∧zB4 (zAi vs t.n) t.args=true:=by
 rw [zCh,Bool.and_eq_true] at h
 have h1:=h.1
 have e:t.kind=4:=by simpa using h4
 unfold zA4 zA1 at h1
 rw [e] at h1
 simp at h1
 exact ⟨h1.2.2.2.1,by omega,h1.2.2.2.2.2⟩
theorem z8m {vs:List Va} {u:Term} (h:zBm u=true):zM5 vs u=true:=by
 have hk:=zA2 h
 rw [yA8,hk.2]
 rcases hk.1 with e|e <;> rw [e] <;> rfl
theorem zH9 {v:Va} {l:List Term} (h:zB4 v l=true):(∀ u ∈ l,zBm u=true∧(u.kind=3→v.level≤u.n))∧l.Pairwise (fun b u=>isF u b=false)∧zBj v.type=l.length:=by
 unfold zB4 at h
 rw [Bool.and_eq_true] at h
 obtain ⟨h1,_,h3⟩:=(zH6 _ _ _).1 h.2
 refine ⟨h1,h3,?_⟩
 have:=h.1
 simp only [beq_iff_eq] at this
 omega
theorem yIm {vs:List Va}:∀ (s:Nat) (v:Term) (d:Int),v.size≤s→zAw vs v d=true→zM5 vs v=true→Val vs d v v:=by
 intro s
 induction s with
 |zero=>intro v d hs;obtain ⟨a,b,c,l⟩:=v;rw [Term.size] at hs;omega
 |succ s ih =>
  intro v d hs hf hn
  rw [yA8,Bool.and_eq_true] at hn
  have hf':=hf
  rw [zCh,Bool.and_eq_true] at hf'
  have hL:=(zBr _ _ _).1 hf'.2
  have hN:=(zHj _ _).1 hn.2
  have:Val vs d v ⟨v.kind,v.n,v.name,v.args⟩:=by
   refine .mk .zero ⟨fun h4=>?_,zId hf⟩ rfl fun i a w ha hw=>?_
   ·have:=zLy hf h4
    refine ⟨this.1,this.2.1,?_⟩
    have h1:=hn.1
    rw [h4] at h1
    simpa using h1
   ·rw [ha] at hw
    injection hw with hw
    subst hw
    have hm:=List.mem_of_getElem? ha
    have:=zDp v i ha
    exact ih a _ (by omega) (hL a hm) (hN a hm)
  obtain ⟨a,b,c,l⟩:=v
  exact this
theorem yAj {vs:List Va} {d:Int} {t v:Term} (h4:(t.kind==4)=true) (hi:(zAi vs t.n).is=true) (ok:yH6 vs d t) (h:Val vs d (zBi (zCp vs t) t.args 0) v):Val vs d t v:=by
 cases h with
 |mk hs hn hl ha=>exact .mk (.succ h4 hi ok hs) hn hl ha
def Good (vs:List Va) (d:Int) (t v:Term):Prop:=Val vs d t v∧zAw vs v d=true∧zM5 vs v=true
def yH8 (vs:List Va) (n:Int):Prop:=∀ (us:List Term) (s:ByteArray) (d:Int),0≤d→zAw vs ⟨4,n,s,us⟩ d=true→∃ v,Good vs d ⟨4,n,s,us⟩ v
theorem zEw {k:Int} {d:Int} (h:0≤d):0≤inner k d:=by unfold inner;split <;> omega
mutual
theorem zTf {vs:List Va}:∀ (t:Term) (d:Int),0≤d→zAw vs t d=true→(∀ k ∈ zBu t,yH8 vs k)→∃ v,Good vs d t v
 |⟨k,n,s,l⟩,d,hd,hf,hk=>by
  rw [zBu] at hk
  cases h4:(k==4)
  ·rw [h4] at hk
   simp only [Bool.false_eq_true,if_false] at hk
   have hf':=hf
   rw [zAw,Bool.and_eq_true] at hf'
   obtain ⟨l',hl,hv,hf2,hn2⟩:=zVm l (inner k d) (zEw hd) hf'.2 hk
   refine ⟨⟨k,n,s,l'⟩,?_,?_,?_⟩
   ·exact .mk (u:=⟨k,n,s,l⟩) .zero ⟨fun h=>absurd (show (k==4)=true from h) (by rw [h4];decide),zId hf⟩ hl hv
   ·rw [zAw,hf2,Bool.and_true]
    have h1:=hf'.1
    unfold zA4 zA1 at h1 ⊢
    rw [hl]
    have k4:¬ k=4:=by simpa using h4
    simp only [h4] at h1 ⊢
    exact h1
   ·rw [zM5,h4,hn2];rfl
  ·have e:k=4:=by simpa using h4
   subst e
   exact hk n (by simp) l s d hd hf
theorem zVm {vs:List Va}:∀ (l:List Term) (d:Int),0≤d→zD3 vs l d=true→(∀ k ∈ zCl l,yH8 vs k)→∃ l':List Term,l'.length=l.length∧(∀ (i:Nat) (a w:Term),l[i]?=some a→l'[i]?=some w→Val vs d a w)∧zD3 vs l' d=true∧zQk vs l'=true
 |[],d,hd,hf,hk=>⟨[],rfl,fun i a w ha=>by simp at ha,by rw [zD3],by rw [zQk]⟩
 |t::l,d,hd,hf,hk=>by
  rw [zD3,Bool.and_eq_true] at hf
  rw [zCl] at hk
  obtain ⟨v,hv,hf1,hn1⟩:=zTf t d hd hf.1 fun k hk'=>hk k (List.mem_append.2 (.inl hk'))
  obtain ⟨l',hl,hv',hf2,hn2⟩:=zVm l d hd hf.2 fun k hk'=>hk k (List.mem_append.2 (.inr hk'))
  refine ⟨v::l',by simp [hl],fun i a w ha hw=>?_,by rw [zD3,hf1,hf2];rfl,by rw [zQk,hn1,hn2];rfl⟩
  cases i with
  |zero =>
   simp only [List.getElem?_cons_zero,Option.some.injEq] at ha hw
   subst ha;subst hw;exact hv
  |succ i =>
   simp only [List.getElem?_cons_succ] at ha hw
   exact hv' i a w ha hw
end
mutual
theorem zKh {vs:List Va} {lv d:Int} {us:List Term} (hp:zXu vs lv d us):∀ (b:Term) (j:Int),zAw vs b (us.length+j)=true→∀ k ∈ zBu (zBi b us j),k ∈ zBu b
 |⟨k,n,s,l⟩,j,hf,m,hm=>by
  have hto:z7w us j ⟨k,n,s,l⟩:=yFg fun h2=>(zE6 hf h2).2
  have hk:=yJv hp hto
  simp only at hk
  rw [zBi,zBu,hk] at hm
  rw [zBu]
  rw [zAw,Bool.and_eq_true] at hf
  cases h4:(k==4)
  ·rw [h4] at hm
   simp only [Bool.false_eq_true,if_false] at hm ⊢
   refine zMw hp l (inner k j) ?_ m hm
   have:inner k ((us.length:Int)+j)=us.length+inner k j:=by unfold inner;split <;> omega
   rw [← this];exact hf.2
  ·rw [h4] at hm
   simp only [if_true] at hm ⊢
   cases hto with
   |same e _=>simp only at e;rw [e] at hm;exact hm
   |put h2 hj i hi e ey =>
    have e4:k=4:=by simpa using h4
    have e2:k=2:=h2
    omega
theorem zMw {vs:List Va} {lv d:Int} {us:List Term} (hp:zXu vs lv d us):∀ (l:List Term) (j:Int),zD3 vs l (us.length+j)=true→∀ k ∈ zCl (zBc l us j),k ∈ zCl l
 |[],j,hf,m,hm=>by rw [zBc] at hm;exact hm
 |t::l,j,hf,m,hm=>by
  rw [zD3,Bool.and_eq_true] at hf
  rw [zBc,zCl] at hm
  rw [zCl]
  rcases List.mem_append.1 hm with hm|hm
  ·exact List.mem_append.2 (.inl (zKh hp t j hf.1 m hm))
  ·exact List.mem_append.2 (.inr (zMw hp l j hf.2 m hm))
end
theorem zNh:∀ (n:Nat) (t:Term),(zDe n t).2=true→∀ k ∈ zBu (zDe n t).1,k ∈ zBu t
 |0,t,_,k,hk=>by rw [zDe] at hk;exact hk
 |n+1,t,h,k,hk=>by
  rw [zDe] at h hk
  cases hn:zUu t
  ·rw [hn] at h hk
   simp only [Bool.false_eq_true,if_false] at h hk
   obtain ⟨u,hu⟩:=zIv hn
   have h4:=zTs hn
   rw [hu] at h hk
   simp only [List.headD_cons] at h hk
   have:=zNh n u h k hk
   obtain ⟨a,b,c,l⟩:=t
   simp only at hu h4
   subst hu
   rw [zBu,h4,zCl,zCl]
   simpa using this
  ·rw [hn] at h;simp at h
mutual
theorem zWx {vs:List Va}:∀ (b:Term) (m:Nat) (j:Int),zAw vs b (m+j)=true→zQu b m j=true
 |⟨k,n,s,l⟩,m,j,hf=>by
  have hb:=zE6 hf
  rw [zAw,Bool.and_eq_true] at hf
  rw [zQu,Bool.and_eq_true]
  refine ⟨?_,?_⟩
  ·by_cases e:k=2
   ·have:=hb e
    simp only at this
    simp;right;omega
   ·simp [e]
  ·refine zYu (vs:=vs) l m (inner k j) ?_
   have:inner k ((m:Int)+j)=m+inner k j:=by unfold inner;split <;> omega
   rw [← this];exact hf.2
theorem zYu {vs:List Va}:∀ (l:List Term) (m:Nat) (j:Int),zD3 vs l (m+j)=true→zJo l m j=true
 |[],m,j,hf=>by rw [zJo]
 |t::l,m,j,hf=>by
  rw [zD3,Bool.and_eq_true] at hf
  rw [zJo,zWx t m j hf.1,zYu l m j hf.2];rfl
end
theorem step_ok {vs:List Va} (hc:zBd vs=0) {t:Term} {d:Int} (hd:0≤d) (hf:zAw vs t d=true) (h4:(t.kind==4)=true) (hi:(zAi vs t.n).is=true) :
  yH6 vs d t∧zXu vs (zAi vs t.n).level d t.args∧zAw vs (zCp vs t) t.args.length=true∧zFn vs (zAi vs t.n).level (zCp vs t)=true:=by
 unfold zBd at hc
 split at hc
 ·cases hc
 ·split at hc
  ·cases hc
  ·rename_i hl
   have hl':zM7 vs 4000=false:=by simpa using hl
   split at hc
   ·rename_i hall
    rw [List.all_eq_true] at hall
    have hv:=zLy hf h4
    have hpat:=zH9 hv.2.2
    have hmem:=zOd hi
    have hva:=hall _ hmem
    have hsz:=zHk vs 4000 hl' _ hmem hi
    unfold zIp at hva
    rw [hi,Bool.and_eq_true] at hva
    have h2:=hva.2
    simp only [if_true] at h2
    rw [hpat.2.2] at h2
    unfold inF at h2
    simp only [Bool.and_eq_true] at h2
    obtain ⟨hb,_,hfb,hsb⟩:=h2
    have hf':=hf
    rw [zCh,Bool.and_eq_true] at hf'
    have hin:inner t.kind d=d:=by
     have:t.kind=4:=by simpa using h4
     unfold inner;rw [this];rfl
    rw [hin] at hf'
    have hargs:∀ u ∈ t.args,zEv d u:=fun u hu=>z2f (hpat.1 u hu).1 ((zBr _ _ _).1 hf'.2 u hu)
    refine ⟨⟨hv.1,hv.2.1,by omega,hb,?_,hargs,zId hf⟩,⟨hd,hargs,fun u hu=>(hpat.1 u hu).2,hpat.2.1⟩,hfb,hsb⟩
    exact zWx _ _ 0 (by rw [Int.add_zero];exact hfb)
   ·cases hc
theorem yNd {vs:List Va} (hc:zBd vs=0) {n:Int} (ha:Acc (Edge vs) n):yH8 vs n:=by
 induction ha with
 |intro n _ ih =>
  intro us s d hd hf
  cases hi:(zAi vs n).is
  ·have hv:=zLy hf rfl
   have hpat:=zH9 hv.2.2
   have hn:zM5 vs ⟨4,n,s,us⟩=true:=by
    rw [zM5,hi,Bool.and_false,Bool.not_false,Bool.true_and]
    exact (zHj _ _).2 fun u hu=>z8m (hpat.1 u hu).1
   exact ⟨_,yIm _ _ d (Nat.le_refl _) hf hn,hf,hn⟩
  ·obtain ⟨ok,hp,hfb,hsb⟩:=step_ok hc (t:=⟨4,n,s,us⟩) hd hf rfl hi
   have hff:=zEb hp (zCp vs ⟨4,n,s,us⟩) 0 (Int.le_refl _) (by rw [Int.add_zero];exact hfb) hsb
   rw [Int.add_zero] at hff
   obtain ⟨v,hv,h1,h2⟩:=zTf _ d hd hff fun k hk=>ih k ⟨hi,zNh _ _ ok.body k (zKh hp _ 0 (by rw [Int.add_zero];exact hfb) k hk)⟩
   exact ⟨v,yAj rfl hi ok hv,h1,h2⟩
theorem zQo {vs:List Va} (hc:zBd vs=0) {t:Term} {d:Int} (hd:0≤d) (hf:zAw vs t d=true):∃ v,Good vs d t v:=by
 have hc':=hc
 unfold zBd at hc'
 split at hc'
 ·cases hc'
 ·split at hc'
  ·cases hc'
  ·rename_i hl
   have hl':zM7 vs 4000=false:=by simpa using hl
   split at hc'
   ·rename_i hall
    split at hc'
    ·cases hc'
    ·rename_i hcirc
     have hacc:=(zW8 (z9l vs hl' hall).plain).1 (by simpa using hcirc)
     have hvars:=zJa _ _ ((zQs vs _).1 t d (Nat.le_refl _) hf)
     refine zTf t d hd hf fun k hk=>?_
     have:=hvars k hk
     have h2:=hacc k.toNat (by omega)
     rw [Int.toNat_of_nonneg this.1] at h2
     exact yNd hc h2
   ·cases hc'
end Go.Proofs.YthkjmiejaoomcaaGreat.Am
