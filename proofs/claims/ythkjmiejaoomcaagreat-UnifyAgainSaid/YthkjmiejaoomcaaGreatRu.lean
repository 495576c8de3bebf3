/- Part of the proof of a law of layer 5: own texts, joined. -/
import Derived.Test.YthkjmiejaoomcaaGreatRt
import Derived.Test.YthkjmiejaoomcaaGreatRp
import Derived.Test.YthkjmiejaoomcaaGreatRq
set_option linter.unusedVariables false
set_option linter.unusedSimpArgs false
set_option linter.unnecessarySimpa false
namespace Go.Proofs.YthkjmiejaoomcaaGreat.Am
open Go Go.RowKit Go.Proofs
set_option linter.unusedVariables false
set_option linter.unusedSimpArgs false
theorem zVo {vs:List Va} {a b:Term} (h:(zDd vs a b).2.2=0) (hi:(zDd vs a b).2.1=true):zBd (zDd vs a b).1=0∧ExtS vs (zDd vs a b).1:=by
 unfold zDd at h hi ⊢
 split at h
 case isFalse hft=>rw [if_neg hft] at hi;cases hi
 rename_i hft
 obtain ⟨hc,hfa,hfb⟩:=zLg hft
 rw [if_pos hft] at hi ⊢
 cases hs:zDi 402 ⟨vs,0⟩ a b 0 with
 |clash=>rw [hs] at hi;cases hi
 |large e =>
  rw [hs] at hi
  exfalso
  revert hi
  dsimp only
  split <;> exact fun h=>by cases h
 |ok s =>
  rw [hs] at hi
  dsimp only at hi ⊢
  obtain ⟨S,_⟩:=zLs 402 ⟨vs,0⟩ a b 0 0 s (zIx hc) (show (0:Int)≤0 by decide) (by decide) hfa hfb hs
  cases hk:(zBd s.ms==2||zBd s.ms==50)
  ·rw [hk] at hi
   rw [if_neg (by decide)]
   refine ⟨?_,S.ext⟩
   rw [Bool.or_eq_false_iff] at hk
   have h2:zBd s.ms=2∨zBd s.ms=50∨zBd s.ms=0:=by
    unfold zBd
    repeat' split
    all_goals simp
   rcases h2 with h2|h2|h2
   ·rw [h2] at hk;exact absurd hk.1 (by decide)
   ·rw [h2] at hk;exact absurd hk.2 (by decide)
   ·exact h2
  ·rw [hk] at hi;cases hi
end Go.Proofs.YthkjmiejaoomcaaGreat.Am
namespace Go.Proofs.YthkjmiejaoomcaaGreat.Am
open Go Go.RowKit Go.Proofs
set_option linter.unusedVariables false
set_option linter.unusedSimpArgs false
set_option maxRecDepth 100000
set_option maxHeartbeats 1000000
def Lg {α:Type} (r:Rz α):Prop:=∀ e,r=.large e→(e==2||e==5)=true
theorem Lg.bind {α β:Type} {r:Rz α} {f:α→Rz β} (h:Lg r) (k:∀ a,r=.ok a→Lg (f a)):Lg (r.bind f):=by
 cases r with
 |ok a=>exact k a rfl
 |clash=>intro e he;cases he
 |large e=>intro e' he;injection he with he;subst he;exact h e rfl
theorem Lg.ok {α:Type} (a:α):Lg (Rz.ok a):=fun e he=>by cases he
theorem Lg.clash {α:Type}:Lg (Rz.clash:Rz α):=fun e he=>by cases he
theorem Lg.two {α:Type}:Lg (Rz.large 2:Rz α):=fun e he=>by injection he with he;subst he;rfl
theorem Lg.five {α:Type}:Lg (Rz.large 5:Rz α):=fun e he=>by injection he with he;subst he;rfl
theorem yBu (s:Sv) (d:Int):Lg (zGh s d):=by
 unfold zGh
 split
 ·exact Lg.two
 ·split
  ·exact Lg.five
  ·exact Lg.ok _
theorem yBl (s:Sv) (lv:Int) (ty:Ty):Lg (zF8 s lv ty):=by
 unfold zF8
 split
 ·exact Lg.two
 ·exact Lg.ok _
theorem yL5 (s:Sv) (v t:Term) (d:Int):Lg (zMa s v t d):=by
 unfold zMa
 split
 ·exact Lg.clash
 ·dsimp only
  split
  ·exact Lg.ok _
  ·split
   ·exact Lg.two
   ·exact (yBl _ _ _).bind fun _ _=>Lg.ok _
theorem yK0 {g:Sv→Term→Rz (Sv × Term)} (h:∀ s t,Lg (g s t)):∀ (l:List Term) (s:Sv),Lg (mapS g s l)
 |[],s=>Lg.ok _
 |t::l,s=>by
  rw [mapS]
  exact (h s t).bind fun a _=>(yK0 h l a.1).bind fun _ _=>Lg.ok _
theorem yEm:∀ (f:Nat) (s:Sv) (v t:Term) (d deep:Int),Lg (zKw f s v t d deep)
 |0,_,_,_,_,_=>Lg.five
 |f+1,s,v,t,d,deep=>by
  rw [zKw]
  refine (yBu _ _).bind fun s2 _=>?_
  dsimp only
  split
  ·exact yL5 _ _ _ _
  ·generalize (if zDf _ then _ else _:Term × Bool)=o
   split
   ·exact (yK0 (fun s t=>yEm f s v t _ _) _ _).bind fun _ _=>Lg.ok _
   ·exact Lg.clash
theorem z7l (s:Sv) (v t:Term):Lg (zE3 s v t):=by
 unfold zE3
 split
 ·exact Lg.clash
 ·exact (yEm _ _ _ _ _ _).bind fun _ _=>Lg.ok _
theorem yKo (s:Sv) (a b:Term):Lg (zGi s a b):=by
 unfold zGi
 split
 ·unfold zGa
  exact (yBl _ _ _).bind fun _ _=>Lg.ok _
 ·exact Lg.ok _
theorem yG8 {g:Sv→Term→Term→Rz Sv} (h:∀ s a b,Lg (g s a b)):∀ (l m:List Term) (s:Sv),Lg (zI2 g s l m)
 |a::l,b::m,s=>by
  rw [zI2]
  exact (h s a b).bind fun s2 _=>yG8 h l m s2
 |[],_,s=>by cases ‹List Term› <;> exact Lg.ok _
 |_::_,[],s=>Lg.ok _
theorem yAu:∀ (f:Nat) (s:Sv) (a b:Term) (deep:Int),Lg (zDi f s a b deep)
 |0,_,_,_,_=>Lg.five
 |f+1,s,a,b,deep=>by
  rw [zDi]
  refine (yBu _ _).bind fun s2 _=>?_
  dsimp only
  split
  ·exact yKo _ _ _
  ·split
   ·exact z7l _ _ _
   ·split
    ·exact z7l _ _ _
    ·split
     ·exact Lg.clash
     ·exact yG8 (fun s a b=>yAu f s a b _) _ _ _
theorem zYe {F:List Va} {a b:Term} (hft:(zH0 F a b==0)=true) (hE:EqV F 0 a b):zDd F a b=(F,true,0)∨∃ e,zDd F a b=([],false,e)∧(e==2||e==5)=true:=by
 obtain ⟨hc,hfa,hfb⟩:=zLg hft
 unfold zDd
 rw [if_pos hft]
 rcases yCq hc 402 0 0 0 a b (Int.le_refl 0) hfa hfb hE with ⟨w,hw⟩|⟨e,he⟩
 ·left
  rw [hw]
  dsimp only
  rw [hc];rfl
 ·right
  have hl:=yAu 402 ⟨F,0⟩ a b 0 e he
  rw [he]
  dsimp only
  refine ⟨e,?_,hl⟩
  cases hz:(e==0)
  ·rfl
  ·have:e=0:=by simpa using hz
   subst this;cases hl
theorem z8c {vs:List Va} {a b:Term} (h:(zDd vs a b).2.2=0) (hi:(zDd vs a b).2.1=true):(zH0 (zDd vs a b).1 a b==0)=true∧EqV (zDd vs a b).1 0 a b:=by
 obtain ⟨hck,hE⟩:=zVo h hi
 have hft:(zH0 vs a b==0)=true:=by
  cases hz:(zH0 vs a b==0)
  ·unfold zDd at hi
   rw [hz] at hi;cases hi
  ·rfl
 obtain ⟨hc,hfa,hfb⟩:=zLg hft
 constructor
 ·unfold zH0 at hft ⊢
  rw [hc] at hft
  rw [hck]
  have e:∀ t,(zDs vs t==0)=true→zDs (zDd vs a b).1 t=0:=fun t ht=>by
   unfold zDs at ht ⊢
   split at ht
   ·rename_i h1
    rw [if_pos h1]
    split at ht
    ·rename_i h2;rw [if_pos (zBw hE _ _ h2)]
    ·cases ht
   ·rename_i h1;exact absurd ht h1
  have hft:(zCq vs [a,b]==0)=true:=hft
  show (zCq _ [a,b]==0)=true
  rw [zCq,zCq,zCq] at hft ⊢
  split at hft
  ·rename_i h1
   split at hft
   ·rename_i h2
    rw [e a h1,e b h2];rfl
   ·rename_i h2;exact absurd hft h2
  ·rename_i h1;exact absurd hft h1
 ·unfold zDd at h hi hck ⊢
  rw [if_pos hft] at h hi hck ⊢
  cases hs:zDi 402 ⟨vs,0⟩ a b 0 with
  |clash=>rw [hs] at hi;cases hi
  |large e =>
   rw [hs] at hi
   exfalso
   revert hi
   dsimp only
   split <;> exact fun h=>by cases h
  |ok s =>
   rw [hs] at hi hck
   dsimp only at hi hck ⊢
   cases hk:(zBd s.ms==2||zBd s.ms==50)
   ·rw [hk,if_neg (by decide)] at hck
    rw [if_neg (by decide)]
    dsimp only at hck ⊢
    exact z8k hck 402 ⟨vs,0⟩ a b 0 0 s (zIx hc) (show (0:Int)≤0 by decide) (Int.le_refl 0) hfa hfb hs (ExtS.refl _)
   ·rw [hk] at hi;cases hi
end Go.Proofs.YthkjmiejaoomcaaGreat.Am
namespace Go.Proofs.YthkjmiejaoomcaaGreat.Am
open Go Go.RowKit Go.Proofs
set_option linter.unusedVariables false
set_option linter.unusedSimpArgs false
set_option maxRecDepth 100000
set_option maxHeartbeats 1000000
def OkNs (vs:List Va) (s:NS):Prop:=∀ n v,mget n s.nms=some v→v.ord.length=zBj (zAi vs n).type∧∀ y ∈ v.ord,y<zBj (zAi vs n).type
theorem yJl {vs:List Va} {pars:Int} {t:Term} {D:Int} (V:zGe vs t D) {s:NS} {v:Nm} {s':NS} (ok:OkNs vs s) (h:zWg vs pars t s=some (v,s')):OkNs vs s':=by
 unfold zWg at h
 cases hg:mget t.n s.nms with
 |some w =>
  rw [hg] at h
  injection h with h;injection h with h1 h2
  subst h2
  exact ok
 |none =>
  rw [hg] at h
  dsimp only at h
  unfold z8z at h
  split at h
  ·cases h
  ·injection h with h;injection h with h1 h2
   subst h2
   intro n v hv
   rw [zHs] at hv
   split at hv
   ·rename_i e
    have e:n=t.n:=by simpa using e
    injection hv with hv
    subst hv;subst e
    rw [V.ar];exact zYk t
   ·exact ok n v hv
theorem z4y:∀ l:List Term,(∀ t ∈ l,t.size=1)→sizes l=l.length
 |[],_=>rfl
 |t::l,h=>by rw [sizes,h t (.head _),z4y l fun u hu=>h u (.tail _ hu),List.length_cons];omega
theorem yAv:∀ l:List Term,l.length≤sizes l
 |[]=>Nat.le_refl _
 |⟨a,b,c,m⟩::l=>by have:=yAv l;rw [sizes,Term.size,List.length_cons];omega
theorem yCn {t:Term} (h:zBm t=true):t.size=1:=by
 obtain ⟨k,n,s,l⟩:=t
 simp only [zBm,Bool.and_eq_true,beq_iff_eq] at h
 have:l=[]:=List.eq_nil_of_length_eq_zero (by omega)
 subst this;rfl
theorem z13 {vs:List Va} {g:NS→Term→Option (Term × NS)} {D:Int} (hg:∀ s t r s',zAw vs t D=true→OkNs vs s→g s t=some (r,s')→r.size≤t.size∧OkNs vs s'):∀ (l:List Term) (s:NS) (o:List Term) (s':NS),(∀ t ∈ l,zAw vs t D=true)→OkNs vs s→mapN g s l=some (o,s')→sizes o≤sizes l∧o.length=l.length∧(∀ (i:Nat) (r t:Term),o[i]?=some r→l[i]?=some t→r.size≤t.size)∧OkNs vs s'
 |[],s,o,s',_,ok,h=>by
  rw [mapN] at h
  injection h with h;injection h with h1 h2
  subst h1;subst h2
  exact ⟨Nat.le_refl _,rfl,fun i r t hr=>by simp at hr,ok⟩
 |t::l,s,o,s',hf,ok,h=>by
  rw [mapN] at h
  cases hgt:g s t with
  |none=>rw [hgt] at h;cases h
  |some p =>
   rw [hgt] at h
   dsimp only [Option.bind] at h
   obtain ⟨r,s2⟩:=p
   obtain ⟨h1,ok2⟩:=hg s t r s2 (hf t (.head _)) ok hgt
   cases hm:mapN g s2 l with
   |none=>rw [hm] at h;cases h
   |some q =>
    rw [hm] at h
    obtain ⟨o2,s3⟩:=q
    injection h with h;injection h with e1 e2
    subst e1;subst e2
    obtain ⟨h2,h3,h4,h5⟩:=z13 hg l s2 o2 s3 (fun u hu=>hf u (.tail _ hu)) ok2 hm
    refine ⟨by rw [sizes,sizes];dsimp only;omega,by simp [h3],fun i r' t' hr ht=>?_,h5⟩
    cases i with
    |zero =>
     simp only [List.getElem?_cons_zero,Option.some.injEq] at hr ht
     subst hr;subst ht;exact h1
    |succ i =>
     simp only [List.getElem?_cons_succ] at hr ht
     exact h4 i r' t' hr ht
theorem yEp (vs:List Va) (pars:Int):∀ (f:Nat) (D:Int) (s:NS) (t r:Term) (s':NS),zAw vs t D=true→OkNs vs s→zFq vs pars f s t=some (r,s')→r.size≤t.size∧OkNs vs s':=by
 intro f
 induction f with
 |zero=>intro D s t r s' _ _ h;rw [zFq] at h;cases h
 |succ f ih =>
  intro D s t r s' hf ok h
  rw [zFq] at h
  cases k4:(t.kind==4)
  ·rw [k4] at h
   simp only [Bool.false_eq_true,if_false] at h
   cases hm:mapN (zFq vs pars f) s t.args with
   |none=>rw [hm] at h;cases h
   |some q =>
    rw [hm] at h
    obtain ⟨o,s2⟩:=q
    injection h with h;injection h with e1 e2
    subst e1;subst e2
    rw [zCh,Bool.and_eq_true] at hf
    obtain ⟨h1,_,_,h2⟩:=z13 (ih (inner t.kind D)) t.args s o s2 ((zBr _ _ _).1 hf.2) ok hm
    refine ⟨?_,h2⟩
    obtain ⟨k,n,nm,l⟩:=t
    dsimp only at h1
    rw [Term.size,Term.size]
    dsimp only
    omega
  ·rw [k4,if_pos rfl] at h
   have V:=zDy hf k4
   cases hm:zWg vs pars t s with
   |none=>rw [hm] at h;cases h
   |some q =>
    rw [hm] at h
    obtain ⟨v,s2⟩:=q
    injection h with h;injection h with e1 e2
    subst e1;subst e2
    obtain ⟨h1,h2⟩:=yF1 V ok hm
    refine ⟨?_,yJl V ok hm⟩
    have hs:sizes (v.ord.map fun i=>t.args.getD i zA7)=v.ord.length:=by
     rw [z4y _ fun u hu=>?_,List.length_map]
     obtain ⟨i,hi,rfl⟩:=List.mem_map.1 hu
     exact yCn (V.args _ (List.mem_of_getElem? (zLf zA7 (h2 i hi)))).1
    unfold named
    rw [Term.size,hs,h1]
    obtain ⟨k,n,nm,l⟩:=t
    rw [Term.size]
    have:=yAv l
    dsimp only;omega
theorem zWj (vs:List Va) (n:Int) (l:List Term):(zMt vs n l).1.length≤20000∧∀ t ∈ (zMt vs n l).1,t.size≤4000:=by
 have triv:([]:List Term).length≤20000∧∀ t ∈ ([]:List Term),t.size≤4000:=⟨by simp,by simp⟩
 unfold zMt
 split
 ·rename_i hc
  have hc0:zBd vs=0:=by simpa using hc
  split
  ·exact triv
  ·rename_i hb
   split
   ·rename_i hle
    have hle:zGc vs l=0:=by simpa using hle
    split
    ·rename_i hve
     have hve:zF9 vs l=0:=by simpa using hve
     split
     ·exact triv
     ·rename_i q hm
      obtain ⟨o,s2⟩:=q
      have hb3:l.length≤20000:=by
       simp only [Bool.or_eq_true,decide_eq_true_eq,not_or] at hb
       omega
      obtain ⟨_,h1,h2,_⟩:=z13 (yEp vs n 4000 0) (l.map (valC vs)) ⟨[],[]⟩ o s2 (fun t ht=>by
       obtain ⟨y,hy,rfl⟩:=List.mem_map.1 ht
       exact (zVn (zQo hc0 (Int.le_refl 0) (zWk l hle y hy))).2.1) (fun n v hv=>absurd hv (by simp [mget])) hm
      rw [List.length_map] at h1
      refine ⟨by dsimp only;omega,fun t ht=>?_⟩
      obtain ⟨i,hi,e⟩:=List.getElem_of_mem ht
      have hr:o[i]?=some t:=by rw [← e];exact List.getElem?_eq_getElem hi
      dsimp only at hi
      obtain ⟨y,hy⟩:∃ y,l[i]?=some y:=⟨_,List.getElem?_eq_getElem (by omega)⟩
      have:=h2 i t (valC vs y) hr (by rw [List.getElem?_map,hy];rfl)
      have:=zTe l hve y (List.mem_of_getElem? hy)
      omega
    ·exact triv
   ·exact triv
 ·exact triv
end Go.Proofs.YthkjmiejaoomcaaGreat.Am
