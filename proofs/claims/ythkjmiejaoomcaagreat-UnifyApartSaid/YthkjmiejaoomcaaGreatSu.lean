/- Part of the proof of a law of layer 5: own texts, joined. -/
import Derived.Test.YthkjmiejaoomcaaGreatSt
import Derived.Test.YthkjmiejaoomcaaGreatSp
import Derived.Test.YthkjmiejaoomcaaGreatSq
set_option linter.unusedVariables false
set_option linter.unusedSimpArgs false
set_option linter.unnecessarySimpa false
namespace Go.Proofs.YthkjmiejaoomcaaGreat.Am
open Go Go.RowKit Go.Proofs
set_option linter.unusedVariables false
set_option linter.unusedSimpArgs false
theorem zW1 {vs:List Va}:∀ (k:Nat) (t:Term) (d:Int),zAv vs t (d+k)=true→zAv vs (zDh k t) d=true
 |0,t,d,h=>by simpa [zDh] using h
 |k+1,t,d,h=>by
  rw [zDh]
  refine zW1 k _ d ?_
  rw [zAv,zDb,zDb,Bool.and_true]
  have e:inner 5 (d+k)=d+((k+1:Nat):Int):=by
   have:inner 5 (d+k)=d+k+1:=rfl
   rw [this];push_cast;omega
  rw [e,h,Bool.and_true]
  unfold zBb zA4
  have hz:(zAr.size:Int)=0:=rfl
  simp
  decide
theorem zVw {vs:List Va} {lv:Int}:∀ (k:Nat) (t:Term),zEe vs lv t=true→zEe vs lv (zDh k t)=true
 |0,t,h=>h
 |k+1,t,h=>by
  rw [zDh]
  refine zVw k _ ?_
  rw [zEe,zHf,zHf,h];rfl
theorem z1z:∀ (k:Nat) (t:Term),dep (zDh k t)=dep t+k
 |0,t=>by rw [zDh];simp
 |k+1,t=>by
  rw [zDh,z1z k,dep,depL,depL]
  have:=(zQw t.size).1 t (Nat.le_refl _)
  push_cast;omega
theorem z9a {vs:List Va} (hc:zA1 vs=0) {n:Int} (h0:0≤n) (h1:n<(vs.length:Int)):fitAll vs (zFt vs n)=0∧zEe vs (zAi vs n).level (zFt vs n)=true:=by
 have h8:=zEb (zAi vs n).type
 unfold zFt
 generalize hm:zBg (zAi vs n).type=m at *
 have hr:∀ k ∈ List.range m,k<m:=fun k hk=>List.mem_range.1 hk
 have hb:=zZ1 hr
 have hlen:(zCm m (List.range m)).length=m:=by simp [zCm]
 have hbk:∀ u ∈ zCm m (List.range m),u.kind=2:=fun u hu=>by
  obtain ⟨k,_,rfl⟩:=List.mem_map.1 hu;rfl
 have hd:dep (sVar n (zCm m (List.range m)))≤2:=by
  rw [dep]
  have:∀ l:List Term,(∀ u ∈ l,zAy u=true)→depL l≤1:=by
   intro l
   induction l with
   |nil=>intro _;rw [depL];decide
   |cons u l ih =>
    intro h
    rw [depL]
    have h1:=ih fun w hw=>h w (List.mem_cons_of_mem _ hw)
    have hk:=(zBi (h u List.mem_cons_self)).2
    obtain ⟨a,b,c,q⟩:=u
    simp only at hk
    subst hk
    have:dep ⟨a,b,c,[]⟩=1:=by rw [dep,depL];rfl
    omega
  have:=this _ fun u hu=>(hb u hu).1
  omega
 refine ⟨zSl.2 ⟨hc,yBu ?_ ?_,zW1 m _ 0 ?_⟩,zVw m _ (zLl (Int.le_refl _) fun u hu=>⟨(hb u hu).1,fun e=>?_⟩)⟩
 ·rw [zPk,zLk fun u hu=>(hb u hu).1,hlen];omega
 ·rw [z1z];omega
 ·rw [Int.zero_add]
  exact zJw h0 h1 (by rw [hm,hlen]) hb (fun u hu e=>by rw [hbk u hu] at e;cases e) (zQ6 List.pairwise_lt_range)
 ·rw [hbk u hu] at e;cases e
theorem zPb {vs:List Va} {a b:Term} (h:(zC0 vs a b).2.2=0) (hi:(zC0 vs a b).2.1=true):zA1 (zC0 vs a b).1=0∧ExtS vs (zC0 vs a b).1:=by
 unfold zC0 at h hi ⊢
 split at h
 case isFalse hft=>rw [if_neg hft] at hi;cases hi
 rename_i hft
 obtain ⟨hc,hfa,hfb⟩:=zH2 hft
 rw [if_pos hft] at hi ⊢
 cases hs:zDo 402 ⟨vs,0⟩ a b 0 with
 |clash=>rw [hs] at hi;cases hi
 |large e =>
  rw [hs] at hi
  exfalso
  revert hi
  dsimp only
  split <;> exact fun h=>by cases h
 |ok s =>
  rw [hs] at hi
  dsimp only at hi ⊢
  obtain ⟨S,_⟩:=zOn 402 ⟨vs,0⟩ a b 0 0 s (zG2 hc) (show (0:Int)≤0 by decide) (by decide) hfa hfb hs
  cases hk:(zA1 s.ms==2||zA1 s.ms==50)
  ·rw [hk] at hi
   rw [if_neg (by decide)]
   refine ⟨?_,S.ext⟩
   rw [Bool.or_eq_false_iff] at hk
   have h2:zA1 s.ms=2∨zA1 s.ms=50∨zA1 s.ms=0:=by
    unfold zA1
    repeat' split
    all_goals simp
   rcases h2 with h2|h2|h2
   ·rw [h2] at hk;exact absurd hk.1 (by decide)
   ·rw [h2] at hk;exact absurd hk.2 (by decide)
   ·exact h2
  ·rw [hk] at hi;cases hi
end Go.Proofs.YthkjmiejaoomcaaGreat.Am
namespace Go.Proofs.YthkjmiejaoomcaaGreat.Am
open Go Go.RowKit Go.Proofs
set_option linter.unusedVariables false
set_option linter.unusedSimpArgs false
set_option maxRecDepth 100000
set_option maxHeartbeats 1000000
def OkNs (vs:List Va) (s:NS):Prop:=∀ n v,mget n s.nms=some v→v.ord.length=zBg (zAi vs n).type∧∀ y ∈ v.ord,y<zBg (zAi vs n).type
theorem yCo {vs:List Va} {pars:Int} {t:Term} {D:Int} (V:zFn vs t D) {s:NS} {v:Nm} {s':NS} (ok:OkNs vs s) (h:zKx vs pars t s=some (v,s')):OkNs vs s':=by
 unfold zKx at h
 cases hg:mget t.n s.nms with
 |some w =>
  rw [hg] at h
  injection h with h;injection h with h1 h2
  subst h2
  exact ok
 |none =>
  rw [hg] at h
  dsimp only at h
  unfold zT6 at h
  split at h
  ·cases h
  ·injection h with h;injection h with h1 h2
   subst h2
   intro n v hv
   rw [zGx] at hv
   split at hv
   ·rename_i e
    have e:n=t.n:=by simpa using e
    injection hv with hv
    subst hv;subst e
    rw [V.ar];exact zR9 t
   ·exact ok n v hv
theorem zVo:∀ l:List Term,(∀ t ∈ l,t.size=1)→sizes l=l.length
 |[],_=>rfl
 |t::l,h=>by rw [sizes,h t (.head _),zVo l fun u hu=>h u (.tail _ hu),List.length_cons];omega
theorem z0s:∀ l:List Term,l.length≤sizes l
 |[]=>Nat.le_refl _
 |⟨a,b,c,m⟩::l=>by have:=z0s l;rw [sizes,Term.size,List.length_cons];omega
theorem z2v {t:Term} (h:zAy t=true):t.size=1:=by
 obtain ⟨k,n,s,l⟩:=t
 simp only [zAy,Bool.and_eq_true,beq_iff_eq] at h
 have:l=[]:=List.eq_nil_of_length_eq_zero (by omega)
 subst this;rfl
theorem zL3 {vs:List Va} {g:NS→Term→Option (Term × NS)} {D:Int} (hg:∀ s t r s',zAv vs t D=true→OkNs vs s→g s t=some (r,s')→r.size≤t.size∧OkNs vs s'):∀ (l:List Term) (s:NS) (o:List Term) (s':NS),(∀ t ∈ l,zAv vs t D=true)→OkNs vs s→mapN g s l=some (o,s')→sizes o≤sizes l∧o.length=l.length∧(∀ (i:Nat) (r t:Term),o[i]?=some r→l[i]?=some t→r.size≤t.size)∧OkNs vs s'
 |[],s,o,s',_,ok,h=>by
  rw [mapN] at h
  injection h with h;injection h with h1 h2
  subst h1;subst h2
  exact ⟨Nat.le_refl _,rfl,fun i r t hr=>by simp at hr,ok⟩
 |t::l,s,o,s',hf,ok,h=>by
  rw [mapN] at h
  cases hgt:g s t with
  |none=>rw [hgt] at h;cases h
  |some p =>
   rw [hgt] at h
   dsimp only [Option.bind] at h
   obtain ⟨r,s2⟩:=p
   obtain ⟨h1,ok2⟩:=hg s t r s2 (hf t (.head _)) ok hgt
   cases hm:mapN g s2 l with
   |none=>rw [hm] at h;cases h
   |some q =>
    rw [hm] at h
    obtain ⟨o2,s3⟩:=q
    injection h with h;injection h with e1 e2
    subst e1;subst e2
    obtain ⟨h2,h3,h4,h5⟩:=zL3 hg l s2 o2 s3 (fun u hu=>hf u (.tail _ hu)) ok2 hm
    refine ⟨by rw [sizes,sizes];dsimp only;omega,by simp [h3],fun i r' t' hr ht=>?_,h5⟩
    cases i with
    |zero =>
     simp only [List.getElem?_cons_zero,Option.some.injEq] at hr ht
     subst hr;subst ht;exact h1
    |succ i =>
     simp only [List.getElem?_cons_succ] at hr ht
     exact h4 i r' t' hr ht
theorem zPd (vs:List Va) (pars:Int):∀ (f:Nat) (D:Int) (s:NS) (t r:Term) (s':NS),zAv vs t D=true→OkNs vs s→zD6 vs pars f s t=some (r,s')→r.size≤t.size∧OkNs vs s':=by
 intro f
 induction f with
 |zero=>intro D s t r s' _ _ h;rw [zD6] at h;cases h
 |succ f ih =>
  intro D s t r s' hf ok h
  rw [zD6] at h
  cases k4:(t.kind==4)
  ·rw [k4] at h
   simp only [Bool.false_eq_true,if_false] at h
   cases hm:mapN (zD6 vs pars f) s t.args with
   |none=>rw [hm] at h;cases h
   |some q =>
    rw [hm] at h
    obtain ⟨o,s2⟩:=q
    injection h with h;injection h with e1 e2
    subst e1;subst e2
    rw [zCu,Bool.and_eq_true] at hf
    obtain ⟨h1,_,_,h2⟩:=zL3 (ih (inner t.kind D)) t.args s o s2 ((zCj _ _ _).1 hf.2) ok hm
    refine ⟨?_,h2⟩
    obtain ⟨k,n,nm,l⟩:=t
    dsimp only at h1
    rw [Term.size,Term.size]
    dsimp only
    omega
  ·rw [k4,if_pos rfl] at h
   have V:=zDn hf k4
   cases hm:zKx vs pars t s with
   |none=>rw [hm] at h;cases h
   |some q =>
    rw [hm] at h
    obtain ⟨v,s2⟩:=q
    injection h with h;injection h with e1 e2
    subst e1;subst e2
    obtain ⟨h1,h2⟩:=z8d V ok hm
    refine ⟨?_,yCo V ok hm⟩
    have hs:sizes (v.ord.map fun i=>t.args.getD i zBo)=v.ord.length:=by
     rw [zVo _ fun u hu=>?_,List.length_map]
     obtain ⟨i,hi,rfl⟩:=List.mem_map.1 hu
     exact z2v (V.args _ (List.mem_of_getElem? (zJo zBo (h2 i hi)))).1
    unfold named
    rw [Term.size,hs,h1]
    obtain ⟨k,n,nm,l⟩:=t
    rw [Term.size]
    have:=z0s l
    dsimp only;omega
theorem zP7 (vs:List Va) (n:Int) (l:List Term):(zDf vs n l).1.length≤20000∧∀ t ∈ (zDf vs n l).1,t.size≤4000:=by
 have triv:([]:List Term).length≤20000∧∀ t ∈ ([]:List Term),t.size≤4000:=⟨by simp,by simp⟩
 unfold zDf
 split
 ·rename_i hc
  have hc0:zA1 vs=0:=by simpa using hc
  split
  ·exact triv
  ·rename_i hb
   split
   ·rename_i hle
    have hle:zB4 vs l=0:=by simpa using hle
    split
    ·rename_i hve
     have hve:zB2 vs l=0:=by simpa using hve
     split
     ·exact triv
     ·rename_i q hm
      obtain ⟨o,s2⟩:=q
      have hb3:l.length≤20000:=by
       simp only [Bool.or_eq_true,decide_eq_true_eq,not_or] at hb
       omega
      obtain ⟨_,h1,h2,_⟩:=zL3 (zPd vs n 4000 0) (l.map (valC vs)) ⟨[],[]⟩ o s2 (fun t ht=>by
       obtain ⟨y,hy,rfl⟩:=List.mem_map.1 ht
       exact (zF8 (zGf hc0 (Int.le_refl 0) (zJm l hle y hy))).2.1) (fun n v hv=>absurd hv (by simp [mget])) hm
      rw [List.length_map] at h1
      refine ⟨by dsimp only;omega,fun t ht=>?_⟩
      obtain ⟨i,hi,e⟩:=List.getElem_of_mem ht
      have hr:o[i]?=some t:=by rw [← e];exact List.getElem?_eq_getElem hi
      dsimp only at hi
      obtain ⟨y,hy⟩:∃ y,l[i]?=some y:=⟨_,List.getElem?_eq_getElem (by omega)⟩
      have:=h2 i t (valC vs y) hr (by rw [List.getElem?_map,hy];rfl)
      have:=zMx l hve y (List.mem_of_getElem? hy)
      omega
    ·exact triv
   ·exact triv
 ·exact triv
end Go.Proofs.YthkjmiejaoomcaaGreat.Am
namespace Go.Proofs.YthkjmiejaoomcaaGreat.Am
open Go Go.RowKit Go.Proofs
set_option linter.unusedVariables false
set_option linter.unusedSimpArgs false
set_option maxRecDepth 100000
set_option maxHeartbeats 1000000
mutual
def shT (ρ:Int→Int):Term→Term
 |⟨k,n,s,l⟩=>⟨k,if k==4 then ρ n else n,s,shL ρ l⟩
def shL (ρ:Int→Int):List Term→List Term
 |[]=>[]
 |t::ts=>shT ρ t::shL ρ ts
end
theorem zVt (ρ:Int→Int):∀ l:List Term,shL ρ l=l.map (shT ρ)
 |[]=>by rw [shL];rfl
 |t::l=>by rw [shL,zVt ρ l];rfl
theorem zHw (ρ:Int→Int) (t:Term):shT ρ t=⟨t.kind,if t.kind==4 then ρ t.n else t.n,t.name,t.args.map (shT ρ)⟩:=by
 obtain ⟨k,n,s,l⟩:=t
 rw [shT,zVt]
theorem zE3 (ρ:Int→Int) (t:Term):(shT ρ t).kind=t.kind:=by rw [zHw]
theorem zKr (ρ:Int→Int) (t:Term):(shT ρ t).name=t.name:=by rw [zHw]
theorem zC9 (ρ:Int→Int) (t:Term):(shT ρ t).args=t.args.map (shT ρ):=by rw [zHw]
theorem zLu (ρ:Int→Int) {t:Term} (h:(t.kind==4)=true):(shT ρ t).n=ρ t.n:=by rw [zHw];simp only [h,if_true]
theorem sh_n (ρ:Int→Int) {t:Term} (h:(t.kind==4)=false):(shT ρ t).n=t.n:=by rw [zHw];simp [h]
theorem sh_no (ρ:Int→Int):shT ρ zBo=zBo:=by rw [zHw];rfl
theorem z6l (ρ:Int→Int) {u:Term} (h:zAy u=true):shT ρ u=u:=by
 obtain ⟨k,n,s,l⟩:=u
 simp only [zAy,Bool.and_eq_true,Bool.or_eq_true,beq_iff_eq] at h
 have:l=[]:=List.eq_nil_of_length_eq_zero (by omega)
 subst this
 rw [zHw]
 rcases h.1 with e|e <;> subst e <;> rfl
theorem zC2 (ρ:Int→Int):∀ {l:List Term},(∀ u ∈ l,zAy u=true)→l.map (shT ρ)=l
 |[],_=>rfl
 |u::l,h=>by rw [List.map_cons,z6l ρ (h u (.head _)),zC2 ρ fun v hv=>h v (.tail _ hv)]
mutual
theorem zYm (ρ:Int→Int):∀ t:Term,(shT ρ t).size=t.size
 |⟨k,n,s,l⟩=>by rw [shT,Term.size,Term.size,z0t ρ l]
theorem z0t (ρ:Int→Int):∀ l:List Term,sizes (shL ρ l)=sizes l
 |[]=>by rw [shL]
 |t::l=>by rw [shL,sizes,sizes,zYm ρ t,z0t ρ l]
end
theorem yBv (ρ:Int→Int) (t:Term):zKv (shT ρ t)=zKv t:=by
 unfold zKv
 rw [zE3,zKr,zC9,List.length_map]
 cases h5:(t.kind != 5)
 ·have:(t.kind==4)=false:=by
   have:t.kind=5:=by simpa using h5
   rw [this];rfl
  rw [sh_n ρ this]
 ·rfl
theorem zTl (ρ:Int→Int):∀ (m:Nat) (t:Term),zCw m (shT ρ t)=(shT ρ (zCw m t).1,(zCw m t).2)
 |0,t=>by rw [zCw,zCw,zE3]
 |m+1,t=>by
  rw [zCw,zCw,yBv]
  split
  ·rfl
  ·rw [zC9]
   have:(t.args.map (shT ρ)).headD zBo=shT ρ (t.args.headD zBo):=by
    cases t.args with
    |nil=>rw [List.map_nil];exact (sh_no ρ).symm
    |cons a l=>rfl
   rw [this,zTl ρ m]
theorem z01 {k n:Int} {s:ByteArray} {us:List Term} {d:Int} (hs:∀ u ∈ us,zAy u=true):((zCn k n s us d).1==4)=(k==4)∧((k==4)=true→zCn k n s us d=(k,n,s)):=by
 unfold zCn
 cases h2:(k==2)
 ·exact ⟨rfl,fun _=>rfl⟩
 ·have k2:k=2:=by simpa using h2
  subst k2
  refine ⟨?_,fun h=>by cases h⟩
  split
  ·dsimp only
   cases hg:us[((us.length:Int) - 1 - (n - d)).toNat]? with
   |none=>rw [List.getD_eq_getElem?_getD,hg];rfl
   |some a =>
    rw [List.getD_eq_getElem?_getD,hg]
    have:=hs a (List.mem_of_getElem? hg)
    simp only [zAy,Bool.and_eq_true,Bool.or_eq_true,beq_iff_eq] at this
    show (a.kind==4)=false
    rcases this.1 with e|e <;> rw [e] <;> rfl
  ·rfl
mutual
theorem zPn (ρ:Int→Int) {us:List Term} (hs:∀ u ∈ us,zAy u=true):∀ (t:Term) (d:Int),zB5 (shT ρ t) us d=shT ρ (zB5 t us d)
 |⟨k,n,s,l⟩,d=>by
  obtain ⟨h1,h2⟩:=z01 (k:=k) (n:=n) (s:=s) (us:=us) (d:=d) hs
  rw [shT,zB5,zB5,shT,zR3 ρ hs l,h1]
  cases h4:(k==4)
  ·rfl
  ·have k4:k=4:=by simpa using h4
   subst k4
   rw [h2 rfl]
   have:=(z01 (k:=4) (n:=ρ n) (s:=s) (us:=us) (d:=d) hs).2 rfl
   simp only [if_true]
   rw [this]
theorem zR3 (ρ:Int→Int) {us:List Term} (hs:∀ u ∈ us,zAy u=true):∀ (l:List Term) (d:Int),zBs (shL ρ l) us d=shL ρ (zBs l us d)
 |[],d=>by rw [shL,zBs,shL]
 |t::l,d=>by rw [shL,zBs,zBs,shL,zPn ρ hs t,zR3 ρ hs l]
end
mutual
theorem zVs (ρ:Int→Int):∀ (t:Term) (m:Nat) (d:Int),zH3 (shT ρ t) m d=zH3 t m d
 |⟨k,n,s,l⟩,m,d=>by
  rw [shT,zH3,zH3,zR4 ρ l]
  cases h4:(k==4)
  ·rfl
  ·have k4:k=4:=by simpa using h4
   subst k4
   rfl
theorem zR4 (ρ:Int→Int):∀ (l:List Term) (m:Nat) (d:Int),zFw (shL ρ l) m d=zFw l m d
 |[],m,d=>by rw [shL]
 |t::l,m,d=>by rw [shL,zFw,zFw,zVs ρ t,zR4 ρ l]
end
def shV (ρ:Int→Int) (v:Va):Va:=⟨v.level,v.type,v.is,shT ρ v.t⟩
def Emb (ρ:Int→Int) (ms F:List Va):Prop:=∀ n:Int,0≤n→n<(ms.length:Int)→0≤ρ n∧ρ n<(F.length:Int)∧zAi F (ρ n)=shV ρ (zAi ms n)
theorem zPo {ρ:Int→Int} {ms F:List Va} (E:Emb ρ ms F) {t:Term} (h4:(t.kind==4)=true) (n0:0≤t.n) (n1:t.n<(ms.length:Int)):zC4 F (shT ρ t)=shT ρ (zC4 ms t):=by
 unfold zC4
 rw [zLu ρ h4,(E t.n n0 n1).2.2,zC9,List.length_map]
 show (zCw t.args.length (shT ρ (zAi ms t.n).t)).1=_
 rw [zTl]
theorem yGh {ρ:Int→Int} {ms F:List Va} (E:Emb ρ ms F) {d:Int} {t:Term} (h4:(t.kind==4)=true) (s:zX5 ms d t):zX5 F d (shT ρ t)∧(shT ρ t).args=t.args:=by
 have ha:(shT ρ t).args=t.args:=by rw [zC9];exact zC2 ρ fun u hu=>(s.args u hu).1
 obtain ⟨e1,e2,e3⟩:=E t.n s.n0 s.n1
 have hn:=zLu ρ h4
 refine ⟨⟨by rw [hn];exact e1,by rw [hn];exact e2,?_,?_,?_,by rw [ha];exact s.args,by rw [ha];exact s.len⟩,ha⟩
 ·rw [hn,e3]
  show (shT ρ (zAi ms t.n).t).size≤4000
  rw [zYm];exact s.size
 ·rw [hn,e3,ha]
  show (zCw t.args.length (shT ρ (zAi ms t.n).t)).2=true
  rw [zTl];exact s.body
 ·rw [ha,zPo E h4 s.n0 s.n1,zVs];exact s.fill
theorem yC3 {ρ:Int→Int} {ms F:List Va} (E:Emb ρ ms F) {d:Int} {t u:Term} {k:Nat} (h:zU3 ms d t k u):zU3 F d (shT ρ t) k (shT ρ u):=by
 induction h with
 |zero=>exact .zero
 |succ h4 hi ok hs ih =>
  obtain ⟨s,ha⟩:=yGh E h4 ok
  refine .succ (by rw [zE3];exact h4) ?_ s ?_
  ·rw [zLu ρ h4,(E _ ok.n0 ok.n1).2.2];exact hi
  ·rw [ha,zPo E h4 ok.n0 ok.n1,zPn ρ (fun u hu=>(ok.args u hu).1)];exact ih
theorem yG6 {ρ:Int→Int} {ms F:List Va} (E:Emb ρ ms F) {u:Term} (h:zX7 ms u):zX7 F (shT ρ u):=by
 refine ⟨fun h4=>?_,by rw [zC9,List.length_map];exact h.len⟩
 rw [zE3] at h4
 obtain ⟨a,b,c⟩:=h.var h4
 obtain ⟨e1,e2,e3⟩:=E u.n a b
 rw [zLu ρ h4]
 exact ⟨e1,e2,by rw [e3];exact c⟩
theorem yJt {ρ:Int→Int} {ms F:List Va} (E:Emb ρ ms F) {d:Int} {t v:Term} (h:Val ms d t v):Val F d (shT ρ t) (shT ρ v):=by
 induction h with
 |mk hs hn hl ha ih =>
  rename_i d t k u l
  have:shT ρ ⟨u.kind,u.n,u.name,l⟩=⟨(shT ρ u).kind,(shT ρ u).n,(shT ρ u).name,l.map (shT ρ)⟩:=by rw [zHw,zHw]
  rw [this]
  refine .mk (yC3 E hs) (yG6 E hn) (by rw [zC9,List.length_map,List.length_map,hl]) (fun i a w hi hw=>?_)
  rw [zC9,List.getElem?_map] at hi
  rw [List.getElem?_map] at hw
  cases hu:u.args[i]? with
  |none=>rw [hu] at hi;cases hi
  |some a' =>
   cases hv:l[i]? with
   |none=>rw [hv] at hw;cases hw
   |some w' =>
    rw [hu] at hi;rw [hv] at hw
    injection hi with hi;injection hw with hw
    subst hi;subst hw
    rw [zE3]
    exact ih i a' w' hu hv
theorem z9h {vs:List Va} {d:Int} {t u:Term} {k:Nat} (h:zU3 vs d t k u):∀ {j:Nat} {w:Term},zU3 vs d t j w→zX7 vs u→zX7 vs w→u=w:=by
 induction h with
 |zero =>
  intro j w h2 hu hw
  cases h2 with
  |zero=>rfl
  |succ h4 hi _ _=>have:=(hu.var h4).2.2;rw [hi] at this;cases this
 |succ h4 hi _ _ ih =>
  intro j w h2 hu hw
  cases h2 with
  |zero=>have:=(hw.var h4).2.2;rw [hi] at this;cases this
  |succ _ _ _ hs2=>exact ih hs2 hu hw
theorem yF3 {vs:List Va} {d:Int} {t v:Term} (h:Val vs d t v):∀ {w:Term},Val vs d t w→v=w:=by
 induction h with
 |mk hs hn hl ha ih =>
  rename_i d t k u l
  intro w h2
  cases h2 with
  |mk hs2 hn2 hl2 ha2 =>
   rename_i k2 u2 l2
   have e:=z9h hs hs2 hn hn2
   subst e
   congr 1
   refine List.ext_getElem? fun i=>?_
   by_cases hi:i<u.args.length
   ·have h1:l[i]?=some (l[i]'(by omega)):=List.getElem?_eq_getElem (by omega)
    have h2:l2[i]?=some (l2[i]'(by omega)):=List.getElem?_eq_getElem (by omega)
    rw [h1,h2]
    congr 1
    exact ih i _ _ (List.getElem?_eq_getElem hi) h1 (ha2 i _ _ (List.getElem?_eq_getElem hi) h2)
   ·rw [List.getElem?_eq_none (by omega),List.getElem?_eq_none (by omega)]
theorem yF4 {ρ:Int→Int} {ms F:List Va} (E:Emb ρ ms F) {t:Term} (h1:∃ v,Good ms 0 t v) (h2:∃ v,Good F 0 (shT ρ t) v):valC F (shT ρ t)=shT ρ (valC ms t) :=
 yF3 (zF8 h2).1 (yJt E (zF8 h1).1)
end Go.Proofs.YthkjmiejaoomcaaGreat.Am
namespace Go.Proofs.YthkjmiejaoomcaaGreat.Am
open Go Go.RowKit Go.Proofs
set_option linter.unusedVariables false
set_option linter.unusedSimpArgs false
set_option maxRecDepth 100000
set_option maxHeartbeats 1000000
def Lg {α:Type} (r:Rz α):Prop:=∀ e,r=.large e→(e==2||e==5)=true
theorem Lg.bind {α β:Type} {r:Rz α} {f:α→Rz β} (h:Lg r) (k:∀ a,r=.ok a→Lg (f a)):Lg (r.bind f):=by
 cases r with
 |ok a=>exact k a rfl
 |clash=>intro e he;cases he
 |large e=>intro e' he;injection he with he;subst he;exact h e rfl
theorem Lg.ok {α:Type} (a:α):Lg (Rz.ok a):=fun e he=>by cases he
theorem Lg.clash {α:Type}:Lg (Rz.clash:Rz α):=fun e he=>by cases he
theorem Lg.two {α:Type}:Lg (Rz.large 2:Rz α):=fun e he=>by injection he with he;subst he;rfl
theorem Lg.five {α:Type}:Lg (Rz.large 5:Rz α):=fun e he=>by injection he with he;subst he;rfl
theorem z11 (s:Sv) (d:Int):Lg (zGh s d):=by
 unfold zGh
 split
 ·exact Lg.two
 ·split
  ·exact Lg.five
  ·exact Lg.ok _
theorem z1q (s:Sv) (lv:Int) (ty:Ty):Lg (zE0 s lv ty):=by
 unfold zE0
 split
 ·exact Lg.two
 ·exact Lg.ok _
theorem yGs (s:Sv) (v t:Term) (d:Int):Lg (zI6 s v t d):=by
 unfold zI6
 split
 ·exact Lg.clash
 ·dsimp only
  split
  ·exact Lg.ok _
  ·split
   ·exact Lg.two
   ·exact (z1q _ _ _).bind fun _ _=>Lg.ok _
theorem yFf {g:Sv→Term→Rz (Sv × Term)} (h:∀ s t,Lg (g s t)):∀ (l:List Term) (s:Sv),Lg (mapS g s l)
 |[],s=>Lg.ok _
 |t::l,s=>by
  rw [mapS]
  exact (h s t).bind fun a _=>(yFf h l a.1).bind fun _ _=>Lg.ok _
theorem z5y:∀ (f:Nat) (s:Sv) (v t:Term) (d deep:Int),Lg (zIz f s v t d deep)
 |0,_,_,_,_,_=>Lg.five
 |f+1,s,v,t,d,deep=>by
  rw [zIz]
  refine (z11 _ _).bind fun s2 _=>?_
  dsimp only
  split
  ·exact yGs _ _ _ _
  ·generalize (if zDy _ then _ else _:Term × Bool)=o
   split
   ·exact (yFf (fun s t=>z5y f s v t _ _) _ _).bind fun _ _=>Lg.ok _
   ·exact Lg.clash
theorem zXs (s:Sv) (v t:Term):Lg (zEy s v t):=by
 unfold zEy
 split
 ·exact Lg.clash
 ·exact (z5y _ _ _ _ _ _).bind fun _ _=>Lg.ok _
theorem yEr (s:Sv) (a b:Term):Lg (zGm s a b):=by
 unfold zGm
 split
 ·unfold zFi
  exact (z1q _ _ _).bind fun _ _=>Lg.ok _
 ·exact Lg.ok _
theorem z90 {g:Sv→Term→Term→Rz Sv} (h:∀ s a b,Lg (g s a b)):∀ (l m:List Term) (s:Sv),Lg (zH4 g s l m)
 |a::l,b::m,s=>by
  rw [zH4]
  exact (h s a b).bind fun s2 _=>z90 h l m s2
 |[],_,s=>by cases ‹List Term› <;> exact Lg.ok _
 |_::_,[],s=>Lg.ok _
theorem zOo:∀ (f:Nat) (s:Sv) (a b:Term) (deep:Int),Lg (zDo f s a b deep)
 |0,_,_,_,_=>Lg.five
 |f+1,s,a,b,deep=>by
  rw [zDo]
  refine (z11 _ _).bind fun s2 _=>?_
  dsimp only
  split
  ·exact yEr _ _ _
  ·split
   ·exact zXs _ _ _
   ·split
    ·exact zXs _ _ _
    ·split
     ·exact Lg.clash
     ·exact z90 (fun s a b=>zOo f s a b _) _ _ _
end Go.Proofs.YthkjmiejaoomcaaGreat.Am
namespace Go.Proofs.YthkjmiejaoomcaaGreat.Am
open Go Go.RowKit Go.Proofs
set_option linter.unusedVariables false
set_option linter.unusedSimpArgs false
set_option maxRecDepth 100000
set_option maxHeartbeats 1000000
theorem yD5 {ρ:Int→Int} {ms F:List Va} (E:Emb ρ ms F) {t:Term} (h0:(t.kind==4)=true→0≤t.n∧t.n<(ms.length:Int)):((shT ρ t).kind==4&&(zAi F (shT ρ t).n).is)=(t.kind==4&&(zAi ms t.n).is):=by
 rw [zE3]
 cases h4:(t.kind==4)
 ·rfl
 ·obtain ⟨a,b⟩:=h0 h4
  rw [zLu ρ h4,(E _ a b).2.2];rfl
theorem yC5 {ρ:Int→Int} {ms F:List Va} (I:Inv ms) (E:Emb ρ ms F) {d:Int} (hd:0≤d) {t u:Term} {k:Nat} (h:zMs ms k t u):zAv ms t d=true→zMs F k (shT ρ t) (shT ρ u):=by
 induction h with
 |done h =>
  intro hf
  refine .done ?_
  rw [yD5 E fun h4=>⟨(zHj hf h4).1,(zHj hf h4).2.1⟩]
  exact h
 |step h4 hi hs ih =>
  intro hf
  have V:=zDn hf h4
  have hsim:=fun u hu=>(V.args u hu).1
  obtain ⟨hp,h2,h3,_⟩:=zTg I hd hf h4 hi
  have hff:=zG6 hp (zC4 ms _) 0 (Int.le_refl _) (by rw [Int.add_zero];exact h2) h3
  rw [Int.add_zero] at hff
  refine .step (by rw [zE3];exact h4) ?_ ?_
  ·rw [zLu ρ h4,(E _ V.n0 V.n1).2.2];exact hi
  ·rw [zC9,zC2 ρ hsim,zPo E h4 V.n0 V.n1,zPn ρ hsim]
   exact ih hff
theorem zUi {ρ:Int→Int} {ms F:List Va} (I:Inv ms) (E:Emb ρ ms F) {d:Int} (hd:0≤d) {t:Term} (hf:zAv ms t d=true):zEx F (shT ρ t)=shT ρ (zEx ms t):=by
 obtain ⟨k,h⟩:=z1p I hd hf
 exact head_eq (yC5 I E hd h.hs hf)
theorem zYn (ρ:Int→Int):∀ (m:Nat) (t:Term),zDh m (shT ρ t)=shT ρ (zDh m t)
 |0,t=>rfl
 |m+1,t=>by
  rw [zDh,zDh,← zYn ρ m]
  have:shT ρ ⟨5,0,zAr,[t]⟩=⟨5,0,zAr,[shT ρ t]⟩:=by rw [zHw];rfl
  rw [this]
def RR {α β:Type} (R:α→β→Prop):Rz α→Rz β→Prop
 |_,.large _=>True
 |.ok a,.ok b=>R a b
 |.clash,.clash=>True
 |_,_=>False
theorem RR.far {α β:Type} {R:α→β→Prop} (r:Rz α) (e:Int):RR R r (.large e:Rz β):=by cases r <;> trivial
theorem RR.bind {α β γ δ:Type} {R:α→β→Prop} {R2:γ→δ→Prop} {r:Rz α} {r':Rz β} {f:α→Rz γ} {g:β→Rz δ} (h:RR R r r') (k:∀ a b,r=.ok a→R a b→RR R2 (f a) (g b)):RR R2 (r.bind f) (r'.bind g):=by
 cases r' with
 |large e=>exact RR.far _ e
 |ok b =>
  cases r with
  |ok a=>exact k a b rfl h
  |clash=>exact h.elim
  |large e=>exact h.elim
 |clash =>
  cases r with
  |ok a=>exact h.elim
  |clash=>trivial
  |large e=>exact h.elim
structure SimS (k:Nat) (base:List Va) (s s':Sv):Prop where
 emb:Emb (fun n=>n+k) s.ms s'.ms
 len:s'.ms.length=s.ms.length+k
 wk:s'.wk=s.wk
 low:∀ n:Int,0≤n→n<(k:Int)→zAi s'.ms n=zAi base n
abbrev mv (k:Nat):Term→Term:=shT fun n=>n+k
theorem zXg {k:Nat} {base:List Va} {s s':Sv} (S:SimS k base s s') (deep:Int):RR (SimS k base) (zGh s deep) (zGh s' deep):=by
 unfold zGh
 rw [S.wk]
 split
 ·exact RR.far _ _
 ·split
  ·exact RR.far _ _
  ·exact ⟨S.emb,S.len,rfl,S.low⟩
theorem zMz {ms:List Va} {w:Va} {n:Int} (h0:0≤n):zAi (ms++[w]) n=if n=ms.length then w else zAi ms n:=by
 unfold zAi
 rw [zE6]
 by_cases e:n=(ms.length:Int)
 ·rw [if_pos e,if_pos (by omega)]
 ·rw [if_neg e,if_neg (by omega)]
theorem zWy {k:Nat} {base:List Va} {s s':Sv} (S:SimS k base s s') (lv:Int) (ty:Ty):RR (fun (a b:Sv × Int)=>SimS k base a.1 b.1∧a.2=(s.ms.length:Int)∧b.2=a.2+(k:Int)∧a.1.ms.length=s.ms.length+1) (zE0 s lv ty) (zE0 s' lv ty):=by
 unfold zE0
 by_cases h2:(s'.ms.length:Int)≥2000
 ·rw [decide_eq_true h2,if_pos rfl];exact RR.far _ _
 ·have hl:=S.len
  rw [decide_eq_false h2,decide_eq_false (show ¬ (s.ms.length:Int)≥2000 by omega)]
  refine ⟨⟨fun n n0 n1=>?_,?_,S.wk,fun n n0 n1=>?_⟩,rfl,?_,?_⟩
  ·dsimp only at n1 ⊢
   rw [List.length_append] at n1
   simp only [List.length_cons,List.length_nil] at n1
   rw [zMz (by omega),zMz n0]
   by_cases e:n=(s.ms.length:Int)
   ·rw [if_pos (by omega),if_pos e]
    refine ⟨by omega,by rw [List.length_append];simp;omega,?_⟩
    unfold shV zJi
    congr 1
   ·obtain ⟨a,b,c⟩:=S.emb n n0 (by omega)
    rw [if_neg (by omega),if_neg e]
    exact ⟨a,by rw [List.length_append];simp;omega,c⟩
  ·dsimp only
   rw [List.length_append,List.length_append];simp;omega
  ·dsimp only
   rw [zMz n0,if_neg (by omega)];exact S.low n n0 n1
  ·dsimp only;omega
  ·dsimp only;rw [List.length_append];simp
theorem zO9 {ms:List Va} {n m:Int} {w:Va} (n0:0≤n) (n1:n<(ms.length:Int)) (m0:0≤m):zAi (ms.set n.toNat w) m=if m=n then w else zAi ms m:=by
 unfold zAi
 rw [zIn]
 by_cases e:m=n
 ·rw [if_pos e,if_pos ⟨by omega,by omega⟩]
 ·rw [if_neg e,if_neg (fun h=>e (by omega))]
theorem zUs {k:Nat} {base:List Va} {s s':Sv} (S:SimS k base s s') {n:Int} (n0:0≤n) (n1:n<(s.ms.length:Int)) (b:Term):SimS k base (zH8 s n b) (zH8 s' (n+k) (mv k b)):=by
 have hl:=S.len
 unfold zH8
 refine ⟨fun m m0 m1=>?_,?_,S.wk,fun m m0 m1=>?_⟩
 ·dsimp only at m1 ⊢
  rw [List.length_set] at m1
  obtain ⟨a,c,e⟩:=S.emb m m0 m1
  refine ⟨a,by rw [List.length_set];exact c,?_⟩
  rw [zO9 (by omega) (by omega) (by omega),zO9 n0 n1 m0]
  by_cases q:m=n
  ·rw [if_pos (by omega),if_pos q,(S.emb n n0 n1).2.2]
   unfold zQ4 shV
   dsimp only
   rw [zYn]
  ·rw [if_neg (by omega),if_neg q];exact e
 ·dsimp only
  rw [List.length_set,List.length_set];exact hl
 ·dsimp only
  rw [zO9 (by omega) (by omega) m0,if_neg (by omega)]
  exact S.low m m0 m1
theorem z08 (k:Nat) (n:Int) {l:List Term} (h:∀ u ∈ l,zAy u=true):mv k (sVar n l)=sVar (n+k) l:=by
 show shT (fun n=>n+(k:Int)) (sVar n l)=_
 rw [zHw]
 show (⟨4,n+k,zAr,l.map (mv k)⟩:Term)=_
 rw [zC2 _ h]
theorem zN6 {lv:Int} {us:List Term} {y:Term} {d:Int} (hy:zAy y=true) (h:(zDe lv us y d).2=true):zAy (zDe lv us y d).1=true:=by
 have go:∀ z:Term,(zGi us z d).2=true→zAy (zGi us z d).1=true:=fun z hz=>by
  unfold zGi at hz ⊢
  split at hz
  ·rfl
  ·cases hz
 unfold zDe at h ⊢
 split
 ·rename_i h2
  rw [if_pos h2] at h
  split
  ·exact hy
  ·rename_i h3
   rw [if_neg h3] at h
   exact go _ h
 ·rename_i h2
  rw [if_neg h2] at h
  split
  ·exact hy
  ·rename_i h3
   rw [if_neg h3] at h
   exact go _ h
theorem zK1 {lv:Int} {us:List Term} {d:Int}:∀ (l:List Term) (i:Nat),(∀ u ∈ l,zAy u=true)→∀ u ∈ (zGe lv us d l i).2,zAy u=true
 |[],i,_,u,hu=>absurd hu (by rw [zGe];exact List.not_mem_nil)
 |y::l,i,h,u,hu=>by
  rw [zGe] at hu
  split at hu
  ·rename_i hp
   rcases List.mem_cons.1 hu with rfl|hu
   ·exact zN6 (h y (.head _)) hp
   ·exact zK1 l _ (fun w hw=>h w (.tail _ hw)) u hu
  ·exact zK1 l _ (fun w hw=>h w (.tail _ hw)) u hu
theorem zQr {a b:Int}:∀ (l:List Term) (i:Nat),∀ p ∈ zEm a b l i,p.2 ∈ l
 |[],i,p,hp=>absurd hp (by rw [zEm];exact List.not_mem_nil)
 |y::l,i,p,hp=>by
  rw [zEm] at hp
  split at hp
  ·rcases List.mem_cons.1 hp with rfl|hp
   ·exact .head _
   ·exact .tail _ (zQr l _ p hp)
  ·exact .tail _ (zQr l _ p hp)
theorem zWl (ρ:Int→Int) (v:Va):(shV ρ v).level=v.level:=rfl
theorem yGd (ρ:Int→Int) (v:Va):(shV ρ v).type=v.type:=rfl
theorem z7z (ρ:Int→Int) (v:Va):nmsF (shV ρ v)=nmsF v:=rfl
def yLl (s:Sv) (vn:Int) (va:List Term) (tn:Int) (ta:List Term) (d lo lw:Int) (no nw:List ByteArray) (tg:Ty):Rz (Sv × Term) :=
 if tn==vn then .clash else
 if ((zGe lo va d ta 0).1.length:Int)==nw.length&&decide (lw≤lo) then .ok (s,sVar tn ((zGe lo va d ta 0).2++(zEm lo lw va 0).map fun p=>sBnd ((va.length:Int) - 1 - p.1+d)))
 else if decide (((zGe lo va d ta 0).1.length:Int)+(zEm lo lw va 0).length>8) then .large 2
 else (zE0 s (min lw lo) (zBp (zA7 nw (zGe lo va d ta 0).1++zA7 no ((zEm lo lw va 0).map (·.1))) tg)).bind fun r =>
  .ok (zH8 r.1 tn (sVar r.2 (zCm nw.length (zGe lo va d ta 0).1++(zEm lo lw va 0).map (·.2))),sVar r.2 ((zGe lo va d ta 0).2++(zEm lo lw va 0).map fun p=>sBnd ((va.length:Int) - 1 - p.1+d)))
theorem yE6 (s:Sv) (v t:Term) (d:Int):zI6 s v t d=yLl s v.n v.args t.n t.args d (zAi s.ms v.n).level (zAi s.ms t.n).level (nmsF (zAi s.ms v.n)) (nmsF (zAi s.ms t.n)) (zCe (zAi s.ms t.n).type):=rfl
theorem yBx {k:Nat} {base:List Va} {s s':Sv} (S:SimS k base s s') {v t:Term} {d D D2:Int} (V:zFn s.ms v D) (T:zFn s.ms t D2) (v4:(v.kind==4)=true) (t4:(t.kind==4)=true):RR (fun a b=>SimS k base a.1 b.1∧b.2=mv k a.2) (zI6 s v t d) (zI6 s' (mv k v) (mv k t) d):=by
 have hv:(mv k v).n=v.n+k:=zLu (fun n=>n+(k:Int)) v4
 have ht:(mv k t).n=t.n+k:=zLu (fun n=>n+(k:Int)) t4
 have av:(mv k v).args=v.args:=by rw [zC9];exact zC2 _ fun u hu=>(V.args u hu).1
 have at_:(mv k t).args=t.args:=by rw [zC9];exact zC2 _ fun u hu=>(T.args u hu).1
 have ev:zAi s'.ms (v.n+k)=shV (fun n=>n+(k:Int)) (zAi s.ms v.n):=(S.emb v.n V.n0 V.n1).2.2
 have et:zAi s'.ms (t.n+k)=shV (fun n=>n+(k:Int)) (zAi s.ms t.n):=(S.emb t.n T.n0 T.n1).2.2
 rw [yE6,yE6,hv,ht,av,at_,ev,et,zWl,zWl,z7z,z7z,yGd]
 have hks:=zK1 (lv:=(zAi s.ms v.n).level) (us:=v.args) (d:=d) t.args 0 fun u hu=>(T.args u hu).1
 have hex:∀ p ∈ zEm (zAi s.ms v.n).level (zAi s.ms t.n).level v.args 0,zAy p.2=true:=fun p hp=>(V.args _ (zQr _ _ p hp)).1
 have n0:=T.n0
 have n1:=T.n1
 generalize (zAi s.ms v.n).level=lo at *
 generalize (zAi s.ms t.n).level=lw at *
 generalize nmsF (zAi s.ms v.n)=no at *
 generalize nmsF (zAi s.ms t.n)=nw at *
 have hout:∀ u ∈ (zGe lo v.args d t.args 0).2++(zEm lo lw v.args 0).map fun p=>sBnd ((v.args.length:Int) - 1 - p.1+d),zAy u=true:=fun u hu=>by
  rcases List.mem_append.1 hu with hu|hu
  ·exact hks u hu
  ·obtain ⟨p,_,rfl⟩:=List.mem_map.1 hu;rfl
 have hback:∀ u ∈ zCm nw.length (zGe lo v.args d t.args 0).1++(zEm lo lw v.args 0).map (·.2),zAy u=true:=fun u hu=>by
  rcases List.mem_append.1 hu with hu|hu
  ·obtain ⟨p,_,rfl⟩:=List.mem_map.1 hu;rfl
  ·obtain ⟨p,hp,rfl⟩:=List.mem_map.1 hu;exact hex p hp
 have ec:(t.n+(k:Int)==v.n+(k:Int))=(t.n==v.n):=by
  cases h:(t.n==v.n)
  ·simp only [beq_eq_false_iff_ne] at h ⊢;omega
  ·have:t.n=v.n:=by simpa using h
   rw [this];simp
 unfold yLl
 rw [ec]
 split
 ·trivial
 ·split
  ·exact ⟨S,(z08 k _ hout).symm⟩
  ·split
   ·exact RR.far _ _
   ·refine (zWy S _ _).bind fun a b _ hab=>?_
    obtain ⟨S2,e1,e2,e3⟩:=hab
    refine ⟨?_,?_⟩
    ·show SimS k base (zH8 a.1 t.n _) (zH8 b.1 (t.n+k) _)
     rw [e2,← z08 k a.2 hback]
     exact zUs S2 n0 (by omega) _
    ·show sVar b.2 _=mv k (sVar a.2 _)
     rw [e2,z08 k a.2 hout]
end Go.Proofs.YthkjmiejaoomcaaGreat.Am
namespace Go.Proofs.YthkjmiejaoomcaaGreat.Am
open Go Go.RowKit Go.Proofs
set_option linter.unusedVariables false
set_option linter.unusedSimpArgs false
set_option maxRecDepth 100000
set_option maxHeartbeats 1000000
structure TI (v:Term) (D:Int) (s:Sv):Prop where
 inv:Inv s.ms
 var:zFn s.ms v D
 free:(zAi s.ms v.n).is=false
theorem z8m {k:Nat} {base:List Va} {v:Term} {D e:Int} {g g':Sv→Term→Rz (Sv × Term)}
  (hg:∀ s s' t,SimS k base s s'→TI v D s→zAv s.ms t e=true→RR (fun a b=>SimS k base a.1 b.1∧b.2=mv k a.2) (g s t) (g' s' (mv k t)))
  (hn:∀ s t a,TI v D s→zAv s.ms t e=true→g s t=.ok a→TI v D a.1∧ExtS s.ms a.1.ms) :
  ∀ (l:List Term) (s s':Sv),SimS k base s s'→TI v D s→(∀ t ∈ l,zAv s.ms t e=true)→RR (fun a b=>SimS k base a.1 b.1∧b.2=a.2.map (mv k)) (mapS g s l) (mapS g' s' (l.map (mv k)))
 |[],s,s',S,I,hf=>⟨S,rfl⟩
 |t::l,s,s',S,I,hf=>by
  rw [List.map_cons,mapS,mapS]
  refine (hg s s' t S I (hf t (.head _))).bind fun a b ha hab=>?_
  obtain ⟨S2,e1⟩:=hab
  obtain ⟨I2,E2⟩:=hn s t a I (hf t (.head _)) ha
  refine (z8m hg hn l a.1 b.1 S2 I2 fun u hu=>zEa E2 _ _ (hf u (.tail _ hu))).bind fun q r _ hqr=>?_
  refine ⟨hqr.1,?_⟩
  dsimp only
  rw [List.map_cons,e1,hqr.2]
theorem yHa (k:Nat) (a b:Int) (s:ByteArray) (l:List Term) (h:(a==4)=false):mv k ⟨a,b,s,l⟩=⟨a,b,s,l.map (mv k)⟩:=by
 show shT (fun n=>n+(k:Int)) _=_
 rw [zHw]
 dsimp only
 rw [h];rfl
theorem z0i {k:Nat} {base:List Va} {v:Term} {D:Int} (hD:0≤D) (v4:(v.kind==4)=true):∀ (f:Nat) (s s':Sv) (t:Term) (d deep:Int),SimS k base s s'→TI v D s→0≤d→zAv s.ms t (D+d)=true→RR (fun a b=>SimS k base a.1 b.1∧b.2=mv k a.2) (zIz f s v t d deep) (zIz f s' (mv k v) (mv k t) d deep)
 |0,s,s',t,d,deep,S,I,hd,hf=>RR.far _ _
 |f+1,s,s',t,d,deep,S,I,hd,hf=>by
  rw [zIz,zIz]
  refine (zXg S deep).bind fun a b ha S=>?_
  obtain ⟨e1,_,_⟩:=zJ6 ha
  have I1:TI v D a:=by
   rw [e1];exact ⟨I.inv,I.var,I.free⟩
  have hf1:zAv a.ms t (D+d)=true:=by rw [e1];exact hf
  have hh:zEx b.ms (mv k t)=mv k (zEx a.ms t):=zUi I1.inv S.emb (by omega) hf1
  obtain ⟨hfu,hflex,_,_⟩:=zD3 I1.inv (by omega:0≤D+d) hf1
  dsimp only
  rw [hh]
  generalize zEx a.ms t=u at *
  have hk:(mv k u).kind=u.kind:=zE3 _ _
  have ev:zAi b.ms (v.n+k)=shV (fun n=>n+(k:Int)) (zAi a.ms v.n):=(S.emb v.n I1.var.n0 I1.var.n1).2.2
  have hv:(mv k v).n=v.n+k:=zLu (fun n=>n+(k:Int)) v4
  have av:(mv k v).args=v.args:=by rw [zC9];exact zC2 _ fun u hu=>(I1.var.args u hu).1
  have hnm:(mv k u).name=u.name:=zKr _ _
  have har:(mv k u).args=u.args.map (mv k):=zC9 _ _
  rw [hk,hv,av,ev,hnm,har,zWl]
  cases u4:(u.kind==4)
  case true =>
   rw [if_pos rfl,if_pos rfl]
   exact yBx S I1.var (zDn hfu u4) v4 u4
  have hn:(mv k u).n=u.n:=sh_n (fun n=>n+(k:Int)) u4
  rw [hn]
  simp only [Bool.false_eq_true,if_false]
  have ho4:∀ o:Term × Bool,o=(if zDy u.kind then zDe (zAi a.ms v.n).level v.args ⟨u.kind,u.n,zAr,[]⟩ d else (⟨u.kind,u.n,u.name,[]⟩,true))→o.2=true→(o.1.kind==4)=false:=fun o ho ho2=>by
   subst ho
   split at ho2
   ·rename_i hp
    have hsim:zAy ⟨u.kind,u.n,zAr,[]⟩=true:=by
     unfold zDy at hp
     unfold zAy
     dsimp only
     rw [hp];rfl
    have h2:=zN6 hsim ho2
    rw [if_pos hp]
    simp only [zAy,Bool.and_eq_true,Bool.or_eq_true,beq_iff_eq] at h2
    rcases h2.1 with e|e <;> rw [e] <;> rfl
   ·rename_i hp
    rw [if_neg hp];exact u4
  generalize (if zDy u.kind then zDe (zAi a.ms v.n).level v.args ⟨u.kind,u.n,zAr,[]⟩ d else (⟨u.kind,u.n,u.name,[]⟩,true))=o at *
  cases ho:o.2
  ·exact trivial
  ·simp only [if_true]
   have hfa:∀ w ∈ u.args,zAv a.ms w (D+inner u.kind d)=true:=by
    rw [zCu,Bool.and_eq_true] at hfu
    have h2:=(zCj _ _ _).1 hfu.2
    have e:inner u.kind (D+d)=D+inner u.kind d:=by unfold inner;split <;> omega
    rw [e] at h2;exact h2
   refine (z8m (v:=v) (D:=D) (e:=D+inner u.kind d) (fun s s' t S I hf=>z0i hD v4 f s s' t _ _ S I (zEi hd) hf) (fun s t r I hf hr=>?_) u.args a b S I1 hfa).bind fun q r _ hqr=>?_
   ·obtain ⟨T,_,_⟩:=zI3 hD f s t (inner u.kind d) (deep+1) r.1 r.2 I.inv (zEi hd) I.var I.free hf hr
    exact ⟨⟨T.inv,I.var.ext T.ext,T.free⟩,T.ext⟩
   ·refine ⟨hqr.1,?_⟩
    dsimp only
    rw [yHa k _ _ _ _ (ho4 o rfl ho),hqr.2]
end Go.Proofs.YthkjmiejaoomcaaGreat.Am
namespace Go.Proofs.YthkjmiejaoomcaaGreat.Am
open Go Go.RowKit Go.Proofs
set_option linter.unusedVariables false
set_option linter.unusedSimpArgs false
set_option maxRecDepth 100000
set_option maxHeartbeats 1000000
theorem z3m {k:Nat} {base:List Va} {s s':Sv} (S:SimS k base s s') {n:Int} (n0:0≤n) (n1:n<(s.ms.length:Int)) (keep:List Nat):RR (SimS k base) (zFi s n keep) (zFi s' (n+k) keep):=by
 have e:zAi s'.ms (n+k)=shV (fun n=>n+(k:Int)) (zAi s.ms n):=(S.emb n n0 n1).2.2
 unfold zFi
 rw [e]
 dsimp only
 rw [zWl,z7z,yGd]
 refine (zWy S _ _).bind fun a b _ hab=>?_
 obtain ⟨S2,e1,e2,e3⟩:=hab
 show SimS k base (zH8 a.1 n _) (zH8 b.1 (n+k) _)
 rw [e2,← z08 k a.2 fun u hu=>by obtain ⟨p,_,rfl⟩:=List.mem_map.1 hu;rfl]
 exact zUs S2 n0 (by omega) _
theorem yA2 {k:Nat} {base:List Va} {s s':Sv} (S:SimS k base s s') {a b:Term} {D D2:Int} (A:zFn s.ms a D) (B:zFn s.ms b D2) (a4:(a.kind==4)=true):RR (SimS k base) (zGm s a b) (zGm s' (mv k a) (mv k b)):=by
 have aa:(mv k a).args=a.args:=by rw [zC9];exact zC2 _ fun u hu=>(A.args u hu).1
 have ab:(mv k b).args=b.args:=by rw [zC9];exact zC2 _ fun u hu=>(B.args u hu).1
 have an:(mv k a).n=a.n+k:=zLu (fun n=>n+(k:Int)) a4
 unfold zGm
 rw [aa,ab,an]
 split
 ·exact z3m S A.n0 A.n1 _
 ·exact S
theorem zNr {k:Nat} {base:List Va} {s s':Sv} (S:SimS k base s s') (I:Inv s.ms) {v t:Term} {D:Int} (hD:0≤D) (V:zFn s.ms v D) (vu:(zAi s.ms v.n).is=false) (v4:(v.kind==4)=true) (hf:zAv s.ms t D=true):RR (SimS k base) (zEy s v t) (zEy s' (mv k v) (mv k t)):=by
 have hk:(mv k t).kind=t.kind:=zE3 _ _
 have hn:(mv k v).n=v.n+k:=zLu (fun n=>n+(k:Int)) v4
 unfold zEy
 rw [hk]
 split
 ·trivial
 ·refine (z0i hD v4 402 s s' t 0 0 S ⟨I,V,vu⟩ (Int.le_refl 0) (by rw [Int.add_zero];exact hf)).bind fun a b ha hab=>?_
  obtain ⟨T,_,_⟩:=zI3 hD 402 s t 0 0 a.1 a.2 I (Int.le_refl 0) V vu (by rw [Int.add_zero];exact hf) ha
  have h1:=V.n1
  have h2:=T.ext.1
  show SimS k base (zH8 a.1 v.n a.2) (zH8 b.1 (mv k v).n b.2)
  rw [hn,hab.2]
  exact zUs hab.1 V.n0 (by omega) _
theorem z1y {k:Nat} {base:List Va} {d:Int} {g g':Sv→Term→Term→Rz Sv}
  (hg:∀ s s' a b,SimS k base s s'→Inv s.ms→0≤s.wk→zAv s.ms a d=true→zAv s.ms b d=true→RR (SimS k base) (g s a b) (g' s' (mv k a) (mv k b)))
  (hn:∀ s a b r,Inv s.ms→0≤s.wk→zAv s.ms a d=true→zAv s.ms b d=true→g s a b=.ok r→Inv r.ms∧0≤r.wk∧ExtS s.ms r.ms) :
  ∀ (l m:List Term) (s s':Sv),SimS k base s s'→Inv s.ms→0≤s.wk→(∀ t ∈ l,zAv s.ms t d=true)→(∀ t ∈ m,zAv s.ms t d=true)→RR (SimS k base) (zH4 g s l m) (zH4 g' s' (l.map (mv k)) (m.map (mv k)))
 |[],m,s,s',S,I,hw,hl,hm=>by cases m <;> exact S
 |_::_,[],s,s',S,I,hw,hl,hm=>S
 |a::l,b::m,s,s',S,I,hw,hl,hm=>by
  rw [List.map_cons,List.map_cons,zH4,zH4]
  refine (hg s s' a b S I hw (hl a (.head _)) (hm b (.head _))).bind fun r q hr S2=>?_
  obtain ⟨I2,hw2,E⟩:=hn s a b r I hw (hl a (.head _)) (hm b (.head _)) hr
  exact z1y hg hn l m r q S2 I2 hw2 (fun u hu=>zEa E _ _ (hl u (.tail _ hu))) (fun u hu=>zEa E _ _ (hm u (.tail _ hu)))
theorem z5s (k:Nat) {a b:Term} (h:¬ ((a.kind==4)=true)) (h2:¬ ((b.kind==4)=true)):zF9 (mv k a) (mv k b)=zF9 a b:=by
 have e1:(mv k a).kind=a.kind:=zE3 _ _
 have e2:(mv k b).kind=b.kind:=zE3 _ _
 have e3:(mv k a).n=a.n:=sh_n _ (by simpa using h)
 have e4:(mv k b).n=b.n:=sh_n _ (by simpa using h2)
 have e5:(mv k a).name=a.name:=zKr _ _
 have e6:(mv k b).name=b.name:=zKr _ _
 have e7:(mv k a).args.length=a.args.length:=by rw [zC9,List.length_map]
 have e8:(mv k b).args.length=b.args.length:=by rw [zC9,List.length_map]
 unfold zF9
 rw [e1,e2,e3,e4,e5,e6,e7,e8]
theorem zVm {k:Nat} {base:List Va}:∀ (f:Nat) (s s':Sv) (a b:Term) (d deep:Int),SimS k base s s'→Inv s.ms→0≤s.wk→0≤d→zAv s.ms a d=true→zAv s.ms b d=true→RR (SimS k base) (zDo f s a b deep) (zDo f s' (mv k a) (mv k b) deep)
 |0,s,s',a,b,d,deep,S,I,hw,hd,ha,hb=>RR.far _ _
 |f+1,s,s',a,b,d,deep,S,I,hw,hd,ha,hb=>by
  rw [zDo,zDo]
  refine (zXg S deep).bind fun r q hr S=>?_
  obtain ⟨e1,_,_⟩:=zJ6 hr
  have I1:Inv r.ms:=by rw [e1];exact I
  have hw1:0≤r.wk:=by rw [e1];show 0≤s.wk+1;omega
  have ha1:zAv r.ms a d=true:=by rw [e1];exact ha
  have hb1:zAv r.ms b d=true:=by rw [e1];exact hb
  have h1:zEx q.ms (mv k a)=mv k (zEx r.ms a):=zUi I1 S.emb hd ha1
  have h2:zEx q.ms (mv k b)=mv k (zEx r.ms b):=zUi I1 S.emb hd hb1
  obtain ⟨hfu,hflu,_,_⟩:=zD3 I1 hd ha1
  obtain ⟨hfv,hflv,_,_⟩:=zD3 I1 hd hb1
  dsimp only
  rw [h1,h2]
  generalize zEx r.ms a=u at *
  generalize zEx r.ms b=v at *
  have ku:(mv k u).kind=u.kind:=zE3 _ _
  have kv:(mv k v).kind=v.kind:=zE3 _ _
  rw [ku,kv]
  have hin:∀ w:Term,zAv r.ms w d=true→∀ x ∈ w.args,zAv r.ms x (inner w.kind d)=true:=fun w hw=>by
   rw [zCu,Bool.and_eq_true] at hw
   exact (zCj _ _ _).1 hw.2
  cases u4:(u.kind==4)
  ·simp only [Bool.false_and,Bool.false_eq_true,if_false]
   cases v4:(v.kind==4)
   ·simp only [Bool.false_eq_true,if_false]
    rw [z5s k (by rw [u4];decide) (by rw [v4];decide)]
    cases hul:zF9 u v
    ·simp only [Bool.false_eq_true,if_false]
     have hkk:u.kind=v.kind:=by
      unfold zF9 at hul
      simp only [Bool.or_eq_false_iff,Bool.not_eq_false'] at hul
      exact by simpa using hul.1
     have e7:(mv k u).args=u.args.map (mv k):=zC9 _ _
     have e8:(mv k v).args=v.args.map (mv k):=zC9 _ _
     rw [e7,e8]
     have hv2:=hin v hfv
     rw [← hkk] at hv2
     refine z1y (d:=inner u.kind d) (fun s s' a b S I hw ha hb=>zVm f s s' a b _ _ S I hw (zEi hd) ha hb) (fun s a b r I hw ha hb hr=>?_) u.args v.args r q S I1 hw1 (hin u hfu) hv2
     obtain ⟨K,hw2⟩:=zOn f s a b (inner u.kind d) (deep+1) r I hw (zEi hd) ha hb hr
     exact ⟨K.inv,hw2,K.ext⟩
    ·trivial
   ·simp only [if_true]
    exact zNr S I1 hd (zDn hfv v4) (hflv v4) v4 hfu
  ·simp only [Bool.true_and,if_true]
   have nu:(mv k u).n=u.n+k:=zLu (fun n=>n+(k:Int)) u4
   cases v4:(v.kind==4)
   ·simp only [Bool.false_and,Bool.false_eq_true,if_false]
    exact zNr S I1 hd (zDn hfu u4) (hflu u4) u4 hfv
   ·have nv:(mv k v).n=v.n+k:=zLu (fun n=>n+(k:Int)) v4
    have ec:(u.n+(k:Int)==v.n+(k:Int))=(u.n==v.n):=by
     cases h:(u.n==v.n)
     ·simp only [beq_eq_false_iff_ne] at h ⊢;omega
     ·have:u.n=v.n:=by simpa using h
      rw [this];simp
    rw [nu,nv,ec]
    cases hnn:(u.n==v.n)
    ·simp only [Bool.and_false,Bool.false_eq_true,if_false]
     exact zNr S I1 hd (zDn hfu u4) (hflu u4) u4 hfv
    ·simp only [Bool.and_true,if_true]
     exact yA2 S (zDn hfu u4) (zDn hfv v4) u4
end Go.Proofs.YthkjmiejaoomcaaGreat.Am
namespace Go.Proofs.YthkjmiejaoomcaaGreat.Am
open Go Go.RowKit Go.Proofs
set_option linter.unusedVariables false
set_option linter.unusedSimpArgs false
set_option maxRecDepth 100000
set_option maxHeartbeats 1000000
def shN (ρ:Int→Int) (s:NS):NS:=⟨s.nms.map fun e=>(ρ e.1,e.2),s.tys⟩
theorem z8f {β:Type} {ρ:Int→Int} (inj:∀ a b,ρ a=ρ b→a=b) (n:Int):∀ es:List (Int × β),mget (ρ n) (es.map fun e=>(ρ e.1,e.2))=mget n es
 |[]=>rfl
 |(m,v)::es=>by
  rw [List.map_cons,mget,mget]
  have:(ρ n==ρ m)=(n==m):=by
   cases h:(n==m)
   ·simp only [beq_eq_false_iff_ne] at h ⊢;exact fun e=>h (inj _ _ e)
   ·have:n=m:=by simpa using h
    rw [this];simp
  rw [this,z8f inj n es]
theorem z8e {β:Type} {ρ:Int→Int} (inj:∀ a b,ρ a=ρ b→a=b) (n:Int) (v:β):∀ es:List (Int × β),mset (ρ n) v (es.map fun e=>(ρ e.1,e.2))=(mset n v es).map fun e=>(ρ e.1,e.2)
 |[]=>rfl
 |(m,w)::es=>by
  rw [List.map_cons,mset,mset]
  have:(ρ n==ρ m)=(n==m):=by
   cases h:(n==m)
   ·simp only [beq_eq_false_iff_ne] at h ⊢;exact fun e=>h (inj _ _ e)
   ·have:n=m:=by simpa using h
    rw [this];simp
  rw [this]
  split
  ·rfl
  ·rw [z8e inj n v es];rfl
theorem yLy {ρ:Int→Int} {t:Term} (h:(shT ρ t).args=t.args):ordF (shT ρ t)=ordF t:=by
 have:ltA (shT ρ t)=ltA t:=by
  funext x y
  unfold ltA
  rw [h]
 unfold ordF
 rw [this,h]
theorem yG9 {ρ:Int→Int} (inj:∀ a b,ρ a=ρ b→a=b) {ms F:List Va} (E:Emb ρ ms F) {pars:Int} {t:Term} {D:Int} (V:zFn ms t D) (t4:(t.kind==4)=true) (s:NS):zKx F pars (shT ρ t) (shN ρ s)=(zKx ms pars t s).map fun p=>(p.1,shN ρ p.2):=by
 have ha:(shT ρ t).args=t.args:=by rw [zC9];exact zC2 ρ fun u hu=>(V.args u hu).1
 have hn:=zLu ρ t4
 unfold zKx
 rw [hn]
 show (match mget (ρ t.n) (s.nms.map fun e=>(ρ e.1,e.2)) with|some v=>some (v,shN ρ s)|none=>zT6 F pars (shT ρ t) (shN ρ s))=_
 rw [z8f inj]
 cases mget t.n s.nms with
 |some v=>rfl
 |none =>
  dsimp only
  unfold zT6
  rw [hn,(E t.n V.n0 V.n1).2.2,yLy ha]
  show (if decide (pars+(s.tys.length:Int)≥60) then none else _)=_
  split
  ·rfl
  ·show some _=some _
   congr 1
   unfold shN
   dsimp only
   rw [z8e inj]
   rfl
theorem zY4 {ρ:Int→Int} {ms:List Va} {g g':NS→Term→Option (Term × NS)} {D:Int} (hg:∀ s t,zAv ms t D=true→g' (shN ρ s) (shT ρ t)=(g s t).map fun p=>(p.1,shN ρ p.2)):∀ (l:List Term) (s:NS),(∀ t ∈ l,zAv ms t D=true)→mapN g' (shN ρ s) (l.map (shT ρ))=(mapN g s l).map fun p=>(p.1,shN ρ p.2)
 |[],s,_=>rfl
 |t::l,s,hf=>by
  rw [List.map_cons,mapN,mapN,hg s t (hf t (.head _))]
  cases g s t with
  |none=>rfl
  |some p =>
   dsimp only [Option.map,Option.bind]
   rw [zY4 hg l p.2 fun u hu=>hf u (.tail _ hu)]
   cases mapN g p.2 l <;> rfl
theorem z6d {ρ:Int→Int} (inj:∀ a b,ρ a=ρ b→a=b) {ms F:List Va} (E:Emb ρ ms F) (pars:Int):∀ (f:Nat) (D:Int) (s:NS) (t:Term),zAv ms t D=true→zD6 F pars f (shN ρ s) (shT ρ t)=(zD6 ms pars f s t).map fun p=>(p.1,shN ρ p.2)
 |0,D,s,t,_=>rfl
 |f+1,D,s,t,hf=>by
  rw [zD6,zD6,zE3]
  cases t4:(t.kind==4)
  ·simp only [Bool.false_eq_true,if_false]
   rw [zC9,zY4 (D:=inner t.kind D) (fun s u hu=>z6d inj E pars f _ s u hu) t.args s (by
    rw [zCu,Bool.and_eq_true] at hf
    exact (zCj _ _ _).1 hf.2),sh_n ρ t4,zKr]
   cases mapN (zD6 ms pars f) s t.args <;> rfl
  ·simp only [if_true]
   have V:=zDn hf t4
   have ha:(shT ρ t).args=t.args:=by rw [zC9];exact zC2 ρ fun u hu=>(V.args u hu).1
   rw [yG9 inj E V t4]
   have hnm:∀ v:Nm,named v (shT ρ t)=named v t:=fun v=>by unfold named;rw [zKr,ha]
   cases zKx ms pars t s with
   |none=>rfl
   |some p =>
    dsimp only [Option.map]
    rw [hnm]
theorem zWs {ρ:Int→Int} {ms F:List Va} (E:Emb ρ ms F) {n:Int} (n0:0≤n) (n1:n<(ms.length:Int)):zFt F (ρ n)=shT ρ (zFt ms n):=by
 unfold zFt
 rw [(E n n0 n1).2.2,yGd,← zYn]
 congr 1
 rw [zHw]
 show _=(⟨4,ρ n,zAr,List.map (shT ρ) (zCm _ _)⟩:Term)
 rw [zC2 ρ fun u hu=>by obtain ⟨p,_,rfl⟩:=List.mem_map.1 hu;rfl]
end Go.Proofs.YthkjmiejaoomcaaGreat.Am
namespace Go.Proofs.YthkjmiejaoomcaaGreat.Am
open Go Go.RowKit Go.Proofs
set_option linter.unusedVariables false
set_option linter.unusedSimpArgs false
set_option maxRecDepth 100000
set_option maxHeartbeats 1000000
theorem yAt {ρ:Int→Int} {v:Va} {l:List Term} (h:zBv v l=true):l.map (shT ρ)=l:=zC2 ρ fun u hu=>((zGb h).1 u hu).1
theorem zZh {ρ:Int→Int} {ms F:List Va} (E:Emb ρ ms F) {k n:Int} {s:ByteArray} {l:List Term} {d:Int} (h:zBb ms k n s l d=true):zBb F k (if k==4 then ρ n else n) s (l.map (shT ρ)) d=true:=by
 unfold zBb at h ⊢
 rw [List.length_map]
 simp only [Bool.and_eq_true] at h ⊢
 refine ⟨h.1,h.2.1,h.2.2.1,?_⟩
 have h:=h.2.2.2
 unfold zA4 at h ⊢
 by_cases k4:k=4
 ·subst k4
  simp only [show ((4:Int)==1)=false from rfl,show ((4:Int)==2)=false from rfl,show ((4:Int)==3)=false from rfl,show ((4:Int)==5)=false from rfl,show ((4:Int)==4)=true from rfl,Bool.false_eq_true,if_false,if_true,Bool.and_eq_true,Bool.not_eq_true',decide_eq_false_iff_not] at h ⊢
  obtain ⟨h1,h2,h3⟩:=h
  obtain ⟨e1,e2,e3⟩:=E n (by omega) (by omega)
  rw [e3,yAt h3]
  exact ⟨by omega,by omega,h3⟩
 ·have k4':(k==4)=false:=by simpa using k4
  rw [k4'] at h ⊢
  simp only [Bool.false_eq_true,if_false] at h ⊢
  rw [List.length_map]
  exact h
mutual
theorem zQj {ρ:Int→Int} {ms F:List Va} (E:Emb ρ ms F):∀ (t:Term) (d:Int),zAv ms t d=true→zAv F (shT ρ t) d=true
 |⟨k,n,s,l⟩,d,h=>by
  rw [zAv,Bool.and_eq_true] at h
  rw [shT,zAv,Bool.and_eq_true]
  refine ⟨?_,z1s E l _ h.2⟩
  rw [zVt]
  exact zZh E h.1
theorem z1s {ρ:Int→Int} {ms F:List Va} (E:Emb ρ ms F):∀ (l:List Term) (d:Int),zDb ms l d=true→zDb F (shL ρ l) d=true
 |[],d,h=>by rw [shL,zDb]
 |t::l,d,h=>by
  rw [zDb,Bool.and_eq_true] at h
  rw [shL,zDb,Bool.and_eq_true]
  exact ⟨zQj E t d h.1,z1s E l d h.2⟩
end
mutual
theorem z6p {ρ:Int→Int} {ms F:List Va} (E:Emb ρ ms F) {lv:Int}:∀ (t:Term) (d:Int),zAv ms t d=true→zEe ms lv t=true→zEe F lv (shT ρ t)=true
 |⟨k,n,s,l⟩,d,hf,h=>by
  have hf':=hf
  rw [zAv,Bool.and_eq_true] at hf
  rw [zEe,Bool.and_eq_true] at h
  rw [shT,zEe,Bool.and_eq_true]
  refine ⟨?_,z0x E l _ hf.2 h.2⟩
  have h1:=h.1
  unfold zFg at h1 ⊢
  cases k4:(k==4)
  ·rw [k4] at h1
   simp only [Bool.false_eq_true,if_false]
   exact h1
  ·have V:=zDn hf' k4
   rw [k4] at h1
   simp only [if_true]
   have k4':k=4:=by simpa using k4
   subst k4'
   rw [(E n V.n0 V.n1).2.2,zWl]
   exact h1
theorem z0x {ρ:Int→Int} {ms F:List Va} (E:Emb ρ ms F) {lv:Int}:∀ (l:List Term) (d:Int),zDb ms l d=true→zHf ms lv l=true→zHf F lv (shL ρ l)=true
 |[],d,_,h=>by rw [shL,zHf]
 |t::l,d,hf,h=>by
  rw [zDb,Bool.and_eq_true] at hf
  rw [zHf,Bool.and_eq_true] at h
  rw [shL,zHf,Bool.and_eq_true]
  exact ⟨z6p E t d hf.1 h.1,z0x E l d hf.2 h.2⟩
end
mutual
theorem z0u (ρ:Int→Int):∀ (t:Term) (m:Int),zBt (shT ρ t) m=zBt t m
 |⟨k,n,s,l⟩,m=>by rw [shT,zBt,zBt,zVq ρ l]
theorem zVq (ρ:Int→Int):∀ (l:List Term) (m n:Int),zDp (shL ρ l) m n=zDp l m n
 |[],m,n=>by rw [shL]
 |t::l,m,n=>by rw [shL,zDp,zDp,z0u ρ t,zVq ρ l]
end
mutual
theorem zVr (ρ:Int→Int):∀ (t:Term) (m:Int),zCf (shT ρ t) m=zCf t m
 |⟨k,n,s,l⟩,m=>by rw [shT,zCf,zCf,zR2 ρ l]
theorem zR2 (ρ:Int→Int):∀ (l:List Term) (m n:Int),zDx (shL ρ l) m n=zDx l m n
 |[],m,n=>by rw [shL]
 |t::l,m,n=>by rw [shL,zDx,zDx,zVr ρ t,zR2 ρ l]
end
mutual
theorem yE4 (ρ:Int→Int):∀ t:Term,dep (shT ρ t)=dep t
 |⟨k,n,s,l⟩=>by rw [shT,dep,dep,z6m ρ l]
theorem z6m (ρ:Int→Int):∀ l:List Term,depL (shL ρ l)=depL l
 |[]=>by rw [shL]
 |t::l=>by rw [shL,depL,depL,yE4 ρ t,z6m ρ l]
end
theorem zTk (ρ:Int→Int) (t:Term):zDt (shT ρ t)=zDt t:=by
 unfold zDt
 rw [z0u,zVr]
theorem z6k (ρ:Int→Int) (t:Term):zF7 (shT ρ t)=zF7 t:=by
 unfold zF7
 rw [zYm,yE4]
end Go.Proofs.YthkjmiejaoomcaaGreat.Am
namespace Go.Proofs.YthkjmiejaoomcaaGreat.Am
open Go Go.RowKit Go.Proofs
set_option linter.unusedVariables false
set_option linter.unusedSimpArgs false
set_option maxRecDepth 100000
set_option maxHeartbeats 1000000
theorem z8w {ρ:Int→Int} {ms F:List Va} (E:Emb ρ ms F):∀ l:List Term,(∀ t ∈ l,zAv ms t 0=true)→zB4 F (l.map (shT ρ))=zB4 ms l
 |[],_=>rfl
 |t::l,h=>by
  rw [List.map_cons,zB4,zB4,zTk,zQj E t 0 (h t (.head _)),h t (.head _),z8w E l fun u hu=>h u (.tail _ hu)]
theorem z0f {ρ:Int→Int} {ms F:List Va} (E:Emb ρ ms F) (hc:zA1 ms=0) (hcF:zA1 F=0) {t:Term} (h:zAv ms t 0=true):valC F (shT ρ t)=shT ρ (valC ms t) :=
 yF4 E (zGf hc (Int.le_refl 0) h) (zGf hcF (Int.le_refl 0) (zQj E t 0 h))
theorem z5m {ρ:Int→Int} {ms F:List Va} (E:Emb ρ ms F) (hc:zA1 ms=0) (hcF:zA1 F=0):∀ l:List Term,(∀ t ∈ l,zAv ms t 0=true)→zB2 F (l.map (shT ρ))=zB2 ms l
 |[],_=>rfl
 |t::l,h=>by
  rw [List.map_cons,zB2,zB2,z0f E hc hcF (h t (.head _)),z6k,z5m E hc hcF l fun u hu=>h u (.tail _ hu)]
theorem z1e {ρ:Int→Int} (inj:∀ a b,ρ a=ρ b→a=b) {ms F:List Va} (E:Emb ρ ms F) (hc:zA1 ms=0) (hcF:zA1 F=0) (n:Int) (l:List Term) (h:∀ t ∈ l,zAv ms t 0=true):zDf F n (l.map (shT ρ))=zDf ms n l:=by
 unfold zDf
 rw [hc,hcF,List.length_map,z8w E l h,z5m E hc hcF l h]
 have hm:(l.map (shT ρ)).map (valC F)=(l.map (valC ms)).map (shT ρ):=by
  rw [List.map_map,List.map_map]
  refine List.map_congr_left fun t ht=>?_
  exact z0f E hc hcF (h t ht)
 rw [hm]
 have hN:mapN (zD6 F n 4000) ⟨[],[]⟩ ((l.map (valC ms)).map (shT ρ))=(mapN (zD6 ms n 4000) ⟨[],[]⟩ (l.map (valC ms))).map fun p=>(p.1,shN ρ p.2) :=
  zY4 (D:=0) (fun s t hf=>z6d inj E n 4000 0 s t hf) (l.map (valC ms)) ⟨[],[]⟩ fun t ht=>by
   obtain ⟨y,hy,rfl⟩:=List.mem_map.1 ht
   exact (zF8 (zGf hc (Int.le_refl 0) (h y hy))).2.1
 rw [hN]
 cases mapN (zD6 ms n 4000) ⟨[],[]⟩ (l.map (valC ms)) <;> rfl
end Go.Proofs.YthkjmiejaoomcaaGreat.Am
namespace Go.Proofs.YthkjmiejaoomcaaGreat.Am
open Go Go.RowKit Go.Proofs
set_option linter.unusedVariables false
set_option linter.unusedSimpArgs false
set_option maxRecDepth 100000
set_option maxHeartbeats 1000000
mutual
theorem yGm:∀ t:Term,shT (fun n=>n) t=t
 |⟨k,n,s,l⟩=>by
  rw [shT,z6n l]
  simp
theorem z6n:∀ l:List Term,shL (fun n=>n) l=l
 |[]=>by rw [shL]
 |t::l=>by rw [shL,yGm t,z6n l]
end
theorem yLk (l:List Term):l.map (shT fun n=>n)=l:=by rw [← zVt,z6n]
theorem z1b (g:NS→Term→Option (Term × NS)):∀ (l m:List Term) (s:NS),mapN g s (l++m)=(mapN g s l).bind fun p=>(mapN g p.2 m).map fun q=>(p.1++q.1,q.2)
 |[],m,s=>by
  rw [List.nil_append,mapN]
  dsimp only [Option.bind]
  cases mapN g s m <;> rfl
 |t::l,m,s=>by
  rw [List.cons_append,mapN,mapN]
  cases g s t with
  |none=>rfl
  |some p =>
   dsimp only [Option.bind]
   rw [z1b g l m p.2]
   cases mapN g p.2 l with
   |none=>rfl
   |some q =>
    dsimp only [Option.bind,Option.map]
    cases mapN g q.2 m <;> rfl
theorem z1j {vs:List Va}:∀ l m:List Term,zB4 vs (l++m)=0→zB4 vs l=0∧zB4 vs m=0
 |[],m,h=>⟨rfl,h⟩
 |t::l,m,h=>by
  rw [List.cons_append,zB4] at h
  rw [zB4]
  split at h
  ·rename_i h1
   rw [if_pos h1]
   split at h
   ·rename_i h2
    rw [if_pos h2]
    exact z1j l m h
   ·cases h
  ·rename_i h1;rw [h] at h1;exact absurd rfl h1
theorem z0d {vs:List Va}:∀ l m:List Term,zB2 vs (l++m)=0→zB2 vs l=0∧zB2 vs m=0
 |[],m,h=>⟨rfl,h⟩
 |t::l,m,h=>by
  rw [List.cons_append,zB2] at h
  rw [zB2]
  split at h
  ·rename_i h1
   rw [if_pos h1]
   exact z0d l m h
  ·rename_i h1;rw [h] at h1;exact absurd rfl h1
theorem z8x {vs:List Va}:∀ l:List Term,(∀ t ∈ l,zAv vs t 0=true)→zB4 vs l=0∨(zB4 vs l==2||zB4 vs l==5)=true
 |[],_=>.inl rfl
 |t::l,h=>by
  rw [zB4,h t (.head _)]
  split
  ·exact z8x l fun u hu=>h u (.tail _ hu)
  ·rename_i h1
   right
   unfold zDt at h1 ⊢
   split
   ·rfl
   ·rename_i h2
    rw [if_neg h2] at h1
    split
    ·rfl
    ·rename_i h3
     rw [if_neg h3] at h1
     exact absurd rfl h1
theorem z5n {vs:List Va}:∀ l:List Term,zB2 vs l=0∨(zB2 vs l==2||zB2 vs l==5)=true
 |[]=>.inl rfl
 |t::l=>by
  rw [zB2]
  split
  ·exact z5n l
  ·rename_i h1
   right
   unfold zF7 at h1 ⊢
   split
   ·rfl
   ·rename_i h2
    rw [if_neg h2] at h1
    split
    ·rfl
    ·rename_i h3
     rw [if_neg h3] at h1
     exact absurd rfl h1
theorem yCw {vs:List Va} (hc:zA1 vs=0) (l:List Term) (hl:l.length≤20000) (h:∀ t ∈ l,zAv vs t 0=true):(zDf vs 40 l).2.2=0∨((zDf vs 40 l).2.2==2||(zDf vs 40 l).2.2==5)=true:=by
 have hb:(decide ((40:Int)<0)||(decide ((40:Int)>60)||decide ((l.length:Int)>20000)))=false:=by simp;omega
 have z:((0:Int)==0)=true:=rfl
 unfold zDf
 rw [hc,z,hb]
 simp only [if_true,Bool.false_eq_true,if_false]
 rcases z8x l h with e|e
 ·rw [e,z]
  simp only [if_true]
  rcases z5n (vs:=vs) l with e2|e2
  ·rw [e2,z]
   simp only [if_true]
   split
   ·exact .inr rfl
   ·exact .inl rfl
  ·have:(zB2 vs l==0)=false:=by
    cases h0:(zB2 vs l==0)
    ·rfl
    ·have h1:zB2 vs l=0:=by simpa using h0
     rw [h1] at e2;cases e2
   rw [this]
   exact .inr e2
 ·have:(zB4 vs l==0)=false:=by
   cases h0:(zB4 vs l==0)
   ·rfl
   ·have h1:zB4 vs l=0:=by simpa using h0
    rw [h1] at e;cases e
  rw [this]
  exact .inr e
end Go.Proofs.YthkjmiejaoomcaaGreat.Am
namespace Go.Proofs.YthkjmiejaoomcaaGreat.Am
open Go Go.RowKit Go.Proofs
set_option linter.unusedVariables false
set_option linter.unusedSimpArgs false
set_option maxRecDepth 100000
set_option maxHeartbeats 1000000
def farS (base vs:List Va):List Va:=base++vs.map (shV fun n=>n+(base.length:Int))
theorem zQn (base vs:List Va):(farS base vs).length=base.length+vs.length:=by unfold farS;simp
theorem zZo (base vs:List Va) {n:Int} (h0:0≤n) (h1:n<(base.length:Int)):zAi (farS base vs) n=zAi base n:=by
 unfold zAi farS
 rw [List.getD_eq_getElem?_getD,List.getD_eq_getElem?_getD,List.getElem?_append_left (by omega)]
theorem zUm (base vs:List Va):Emb (fun n=>n+(base.length:Int)) vs (farS base vs):=by
 intro n h0 h1
 dsimp only
 refine ⟨by omega,by rw [zQn];omega,?_⟩
 unfold zAi farS
 rw [List.getD_eq_getElem?_getD,List.getElem?_append_right (by omega),List.getElem?_map,show (n+(base.length:Int)).toNat - base.length=n.toNat by omega,List.getD_eq_getElem?_getD,List.getElem?_eq_getElem (show n.toNat<vs.length by omega)]
 rfl
theorem yE5 (v:Va):shV (fun n=>n) v=v:=by
 unfold shV
 rw [yGm]
theorem zY6 {base F:List Va} (hl:base.length≤F.length) (h:∀ n:Int,0≤n→n<(base.length:Int)→zAi F n=zAi base n):Emb (fun n=>n) base F:=by
 intro n h0 h1
 dsimp only
 refine ⟨h0,by omega,?_⟩
 rw [yE5];exact h n h0 h1
theorem yD3 (base vs:List Va):Emb (fun n=>n) base (farS base vs):=zY6 (by rw [zQn];omega) fun n h0 h1=>zZo base vs h0 h1
theorem z0e {ρ:Int→Int} {ms F:List Va} (E:Emb ρ ms F) {v:Va} (h:zFe ms v=true):zFe F (shV ρ v)=true:=by
 unfold zFe at h ⊢
 rw [Bool.and_eq_true] at h ⊢
 refine ⟨h.1,?_⟩
 have h2:=h.2
 show (if v.is then inF F v.level (zBg v.type) (zCw (zBg v.type) (shT ρ v.t)) else zIm (shT ρ v.t))=true
 cases hi:v.is
 ·rw [hi] at h2
  simp only [Bool.false_eq_true,if_false] at h2 ⊢
  unfold zIm at h2 ⊢
  simp only [Bool.and_eq_true,beq_iff_eq] at h2
  have hk:(v.t.kind==4)=false:=by rw [h2.1.1.1];rfl
  rw [zE3,sh_n ρ hk,zKr,zC9,List.length_map]
  simp only [Bool.and_eq_true,beq_iff_eq]
  exact h2
 ·rw [hi] at h2
  simp only [if_true] at h2 ⊢
  unfold inF at h2 ⊢
  rw [zTl]
  simp only [Bool.and_eq_true] at h2 ⊢
  rw [zTk]
  exact ⟨h2.1,h2.2.1,zQj E _ _ h2.2.2.1,z6p E _ _ h2.2.2.1 h2.2.2.2⟩
mutual
theorem zXe (ρ:Int→Int):∀ t:Term,zBl (shT ρ t)=(zBl t).map ρ
 |⟨k,n,s,l⟩=>by
  rw [shT,zBl,zBl]
  cases h4:(k==4)
  ·simp only [Bool.false_eq_true,if_false]
   exact zSu ρ l
  ·rfl
theorem zSu (ρ:Int→Int):∀ l:List Term,zBy (shL ρ l)=(zBy l).map ρ
 |[]=>by rw [shL,zBy];rfl
 |t::l=>by rw [shL,zBy,zBy,zXe ρ t,zSu ρ l,List.map_append]
end
theorem zLc {vs:List Va} (hc:zA1 vs=0):zKc vs 4000=false∧vs.all (zFe vs)=true∧zIq vs=false:=by
 unfold zA1 at hc
 split at hc
 ·cases hc
 split at hc
 ·cases hc
 rename_i hl
 split at hc
 case isFalse=>cases hc
 rename_i hall
 split at hc
 ·cases hc
 rename_i hcirc
 exact ⟨by simpa using hl,hall,by simpa using hcirc⟩
theorem z98 {base vs:List Va} (hb:zA1 base=0) (hv:zA1 vs=0):zA1 (farS base vs)=0∨zA1 (farS base vs)=2:=by
 obtain ⟨l1,a1,c1⟩:=zLc hb
 obtain ⟨l2,a2,c2⟩:=zLc hv
 have p1:=(zK4 base l1 a1).plain
 have p2:=(zK4 vs l2 a2).plain
 have e1:=(zG9 p1).1 c1
 have e2:=(zG9 p2).1 c2
 unfold zA1
 split
 ·exact .inr rfl
 split
 ·exact .inr rfl
 rename_i hl
 have hall:(farS base vs).all (zFe (farS base vs))=true:=by
  rw [List.all_eq_true] at a1 a2 ⊢
  intro v hm
  rcases List.mem_append.1 hm with hm|hm
  ·have:=z0e (yD3 base vs) (a1 v hm)
   rw [yE5] at this;exact this
  ·obtain ⟨w,hw,rfl⟩:=List.mem_map.1 hm
   exact z0e (zUm base vs) (a2 w hw)
 rw [if_pos hall]
 left
 have hlow:∀ n:Int,Acc (Edge base) n→0≤n→n<(base.length:Int)→Acc (Edge (farS base vs)) n:=by
  intro n hn
  induction hn with
  |intro n _ ih =>
   intro h0 h1
   refine ⟨n,fun k hk=>?_⟩
   have hk':Edge base k n:=by
    unfold Edge at hk ⊢
    rw [zZo base vs h0 h1] at hk;exact hk
   have:=p1.low n k hk'
   exact ih k hk' this.1 this.2
 have hhigh:∀ n:Int,Acc (Edge vs) n→0≤n→n<(vs.length:Int)→Acc (Edge (farS base vs)) (n+base.length):=by
  intro n hn
  induction hn with
  |intro n _ ih =>
   intro h0 h1
   refine ⟨_,fun k hk=>?_⟩
   unfold Edge at hk
   have e:zAi (farS base vs) (n+base.length)=shV (fun n=>n+(base.length:Int)) (zAi vs n):=(zUm base vs n h0 h1).2.2
   rw [e] at hk
   obtain ⟨hi,hd⟩:=hk
   have hd:k ∈ zBl (shT (fun n=>n+(base.length:Int)) (zAi vs n).t):=hd
   rw [zXe] at hd
   obtain ⟨k',hk',rfl⟩:=List.mem_map.1 hd
   have hE:Edge vs k' n:=⟨hi,hk'⟩
   have:=p2.low n k' hE
   exact ih k' hE this.1 this.2
 have hcirc:zIq (farS base vs)=false:=by
  refine (zG9 (zK4 (farS base vs) (by simpa using hl) hall).plain).2 fun j hj=>?_
  rw [zQn] at hj
  by_cases h:j<base.length
  ·exact hlow j (e1 j h) (by omega) (by omega)
  ·have:=hhigh ((j - base.length:Nat):Int) (e2 _ (by omega)) (by omega) (by omega)
   rw [show ((j - base.length:Nat):Int)+base.length=(j:Int) by omega] at this
   exact this
 rw [hcirc];rfl
end Go.Proofs.YthkjmiejaoomcaaGreat.Am
namespace Go.Proofs.YthkjmiejaoomcaaGreat.Am
open Go Go.RowKit Go.Proofs
set_option linter.unusedVariables false
set_option linter.unusedSimpArgs false
set_option maxRecDepth 100000
set_option maxHeartbeats 1000000
def Big (e:Int):Prop:=(e==2||e==5)=true
theorem zVh {vs:List Va} {a b:Term} (hft:zD1 vs a b=0∨Big (zD1 vs a b)):(zC0 vs a b).2.2=0∨Big (zC0 vs a b).2.2:=by
 unfold zC0
 rcases hft with e|e
 ·rw [e]
  simp only [show ((0:Int)==0)=true from rfl,if_true]
  cases hs:zDo 402 ⟨vs,0⟩ a b 0 with
  |clash=>exact .inl rfl
  |large e =>
   dsimp only
   split
   ·exact .inl rfl
   ·exact .inr (zOo 402 _ _ _ _ e hs)
  |ok s =>
   dsimp only
   split
   ·exact .inr rfl
   ·exact .inl rfl
 ·have:(zD1 vs a b==0)=false:=by
   cases h0:(zD1 vs a b==0)
   ·rfl
   ·have h1:zD1 vs a b=0:=by simpa using h0
    rw [h1] at e;cases e
  rw [this]
  exact .inr e
theorem z9l {ρ:Int→Int} {ms F:List Va} (E:Emb ρ ms F) {a b:Term} (hF:zA1 F=0∨zA1 F=2) (h:(zD1 ms a b==0)=true):zD1 F (shT ρ a) (shT ρ b)=0∨zD1 F (shT ρ a) (shT ρ b)=2:=by
 obtain ⟨hc,hfa,hfb⟩:=zH2 h
 rcases hF with hF|hF
 ·left
  have e:∀ t,zAv ms t 0=true→zCz F (shT ρ t)=zCz ms t:=fun t ht=>by
   unfold zCz
   rw [zTk,zQj E t 0 ht,ht]
  unfold zD1 at h ⊢
  rw [hF,if_pos (show ((0:Int)==0)=true from rfl)]
  rw [hc,if_pos (show ((0:Int)==0)=true from rfl)] at h
  have h1:zCd F [shT ρ a,shT ρ b]=zCd ms [a,b]:=by
   rw [zCd,zCd,zCd,zCd,zCd,zCd,e a hfa,e b hfb]
  rw [h1]
  simpa using h
 ·right
  unfold zD1
  rw [hF];rfl
theorem yGl (base vs:List Va) (w:Int):SimS base.length base ⟨vs,w⟩ ⟨farS base vs,w⟩ :=
 ⟨zUm base vs,by rw [zQn];exact Nat.add_comm _ _,rfl,fun n h0 h1=>zZo base vs h0 h1⟩
theorem z5t {base vs:List Va} {a b:Term} (hb:zA1 base=0) (h:(zD1 vs a b==0)=true) (e1:(zC0 vs a b).2.2=0) (e2:(zC0 (farS base vs) (mv base.length a) (mv base.length b)).2.2=0) :
  (zC0 (farS base vs) (mv base.length a) (mv base.length b)).2.1=(zC0 vs a b).2.1∧((zC0 vs a b).2.1=true→∃ w w',SimS base.length base ⟨(zC0 vs a b).1,w⟩ ⟨(zC0 (farS base vs) (mv base.length a) (mv base.length b)).1,w'⟩):=by
 obtain ⟨hc,hfa,hfb⟩:=zH2 h
 have hft:(zD1 (farS base vs) (mv base.length a) (mv base.length b)==0)=true:=by
  cases hz:(zD1 (farS base vs) (mv base.length a) (mv base.length b)==0)
  ·unfold zC0 at e2
   rw [hz] at e2
   simp only [Bool.false_eq_true,if_false] at e2
   rw [e2] at hz;cases hz
  ·rfl
 have S:=zVm 402 ⟨vs,0⟩ ⟨farS base vs,0⟩ a b 0 0 (yGl base vs 0) (zG2 hc) (show (0:Int)≤0 by decide) (Int.le_refl 0) hfa hfb
 unfold zC0 at e1 e2 ⊢
 rw [h] at e1 ⊢
 rw [hft] at e2 ⊢
 simp only [if_true] at e1 e2 ⊢
 have l1:=zOo 402 ⟨vs,0⟩ a b 0
 have l2:=zOo 402 ⟨farS base vs,0⟩ (mv base.length a) (mv base.length b) 0
 generalize zDo 402 ⟨vs,0⟩ a b 0=r at *
 generalize zDo 402 ⟨farS base vs,0⟩ (mv base.length a) (mv base.length b) 0=r' at *
 have nl:∀ e:Int,(e==2||e==5)=true→(if e==0 then (vs,false,(0:Int)) else ([],false,e)).2.2=0→False:=fun e he h0=>by
  cases hz:(e==0)
  ·rw [hz] at h0
   simp only [Bool.false_eq_true,if_false] at h0
   subst h0;cases he
  ·have:e=0:=by simpa using hz
   subst this;cases he
 have nl2:∀ e:Int,(e==2||e==5)=true→(if e==0 then (farS base vs,false,(0:Int)) else ([],false,e)).2.2=0→False:=fun e he h0=>by
  cases hz:(e==0)
  ·rw [hz] at h0
   simp only [Bool.false_eq_true,if_false] at h0
   subst h0;cases he
  ·have:e=0:=by simpa using hz
   subst this;cases he
 cases r' with
 |large e=>exact (nl2 e (l2 e rfl) e2).elim
 |clash =>
  cases r with
  |clash=>exact ⟨rfl,fun h=>by cases h⟩
  |ok s=>exact S.elim
  |large e=>exact S.elim
 |ok s' =>
  cases r with
  |clash=>exact S.elim
  |large e=>exact S.elim
  |ok s =>
   have S:SimS base.length base s s':=S
   dsimp only at e1 e2 ⊢
   split at e1
   ·cases e1
   split at e2
   ·cases e2
   rename_i h1 h2
   rw [if_neg h1,if_neg h2]
   exact ⟨rfl,fun _=>⟨s.wk,s'.wk,S⟩⟩
end Go.Proofs.YthkjmiejaoomcaaGreat.Am
namespace Go.Proofs.YthkjmiejaoomcaaGreat.Am
open Go Go.RowKit Go.Proofs
set_option linter.unusedVariables false
set_option linter.unusedSimpArgs false
set_option maxRecDepth 100000
set_option maxHeartbeats 1000000
theorem z2w {k:Nat} {base ms F:List Va} {w w':Int} (S:SimS k base ⟨ms,w⟩ ⟨F,w'⟩) (hk:k=base.length) {n:Nat} (hn:n≤ms.length):zBr F (k+n)=zBr base k++(zBr ms n).map (mv k):=by
 have hl:=S.len
 dsimp only at hl
 have E0:Emb (fun n=>n) base F:=zY6 (by omega) fun n h0 h1=>S.low n h0 (by omega)
 unfold zBr
 rw [List.range_add,List.map_append,List.map_map,List.map_map]
 congr 1
 ·refine List.map_congr_left fun i hi=>?_
  have hi:=List.mem_range.1 hi
  have:=zWs E0 (n:=(i:Int)) (by omega) (by omega)
  rw [yGm] at this
  exact this
 ·refine List.map_congr_left fun i hi=>?_
  have hi:=List.mem_range.1 hi
  have:=zWs S.emb (n:=(i:Int)) (by omega) (by dsimp only;omega)
  dsimp only at this
  show zFt F ((k+i:Nat):Int)=mv k (zFt ms i)
  rw [show ((k+i:Nat):Int)=(i:Int)+k by omega]
  exact this
theorem yHm (k:Nat):∀ a b:Int,a+(k:Int)=b+k→a=b:=fun a b h=>by omega
theorem zM5 {vs:List Va} (hc:zA1 vs=0) {n:Nat} (hn:n≤vs.length):∀ t ∈ zBr vs n,zAv vs t 0=true:=fun t ht=>by
 obtain ⟨i,hi,rfl⟩:=List.mem_map.1 ht
 have hi:=List.mem_range.1 hi
 exact (zSl.1 (z9a hc (n:=(i:Int)) (by omega) (by omega)).1).2.2
theorem z3t {k:Nat} {base ms F:List Va} {w w':Int} (S:SimS k base ⟨ms,w⟩ ⟨F,w'⟩) (hc:zA1 ms=0) (hcF:zA1 F=0) {n:Nat} (hn:n≤ms.length):zDf F 40 ((zBr ms n).map (mv k))=zDf ms 40 (zBr ms n) :=
 z1e (yHm k) S.emb hc hcF 40 _ (zM5 hc hn)
theorem zWn {F:List Va} (hcF:zA1 F=0) {l m:List Term} (he:(zDf F 40 (l++m)).2.2=0):(zDf F 40 l).2.2=0∧(zDf F 40 (l++m)).1.length=l.length+m.length∧(zDf F 40 (l++m)).1.take l.length=(zDf F 40 l).1∧zB4 F m=0∧zB2 F m=0∧m.length≤20000:=by
 have z:((0:Int)==0)=true:=rfl
 have hb:((l++m).length:Int)≤20000:=by
  cases hx:decide (((l++m).length:Int)>20000)
  ·simpa using hx
  ·unfold zDf at he
   rw [hcF,z,hx] at he
   simp at he
 have hb1:(decide ((40:Int)<0)||(decide ((40:Int)>60)||decide (((l++m).length:Int)>20000)))=false:=by simp at hb ⊢;omega
 have hb2:(decide ((40:Int)<0)||(decide ((40:Int)>60)||decide ((l.length:Int)>20000)))=false:=by simp at hb ⊢;omega
 unfold zDf at he ⊢
 rw [hcF,z,hb1] at he
 rw [hcF,z,hb1,hb2]
 simp only [if_true,Bool.false_eq_true,if_false] at he ⊢
 cases hl:(zB4 F (l++m)==0)
 ·rw [hl] at he
  simp only [Bool.false_eq_true,if_false] at he
  rw [he] at hl;cases hl
 have hl':zB4 F (l++m)=0:=by simpa using hl
 obtain ⟨a1,a2⟩:=z1j l m hl'
 rw [hl] at he
 rw [a1,z]
 simp only [if_true] at he ⊢
 cases hv:(zB2 F (l++m)==0)
 ·rw [hv] at he
  simp only [Bool.false_eq_true,if_false] at he
  rw [he] at hv;cases hv
 have hv':zB2 F (l++m)=0:=by simpa using hv
 obtain ⟨v1,v2⟩:=z0d l m hv'
 rw [hv] at he
 rw [v1,z]
 simp only [if_true] at he ⊢
 rw [List.map_append,z1b] at he ⊢
 have hfl:∀ t ∈ l.map (valC F),zAv F t 0=true:=fun t ht=>by
  obtain ⟨y,hy,rfl⟩:=List.mem_map.1 ht
  exact (zF8 (zGf hcF (Int.le_refl 0) (zJm l a1 y hy))).2.1
 have hfm:∀ t ∈ m.map (valC F),zAv F t 0=true:=fun t ht=>by
  obtain ⟨y,hy,rfl⟩:=List.mem_map.1 ht
  exact (zF8 (zGf hcF (Int.le_refl 0) (zJm m a2 y hy))).2.1
 cases h1:mapN (zD6 F 40 4000) ⟨[],[]⟩ (l.map (valC F)) with
 |none=>rw [h1] at he;cases he
 |some p =>
  rw [h1] at he
  dsimp only [Option.bind] at he ⊢
  obtain ⟨_,n1,_,ok⟩:=zL3 (zPd F 40 4000 0) (l.map (valC F)) ⟨[],[]⟩ p.1 p.2 hfl (fun n v hv=>absurd hv (by simp [mget])) h1
  cases h2:mapN (zD6 F 40 4000) p.2 (m.map (valC F)) with
  |none=>rw [h2] at he;cases he
  |some q =>
   obtain ⟨_,n2,_,_⟩:=zL3 (zPd F 40 4000 0) (m.map (valC F)) p.2 q.1 q.2 hfm ok h2
   rw [List.length_map] at n1 n2
   dsimp only [Option.map]
   refine ⟨rfl,by rw [List.length_append,n1,n2],?_,a2,v2,by rw [List.length_append] at hb;omega⟩
   rw [← n1,List.take_left]
end Go.Proofs.YthkjmiejaoomcaaGreat.Am
namespace Go.Proofs.YthkjmiejaoomcaaGreat.Am
open Go Go.RowKit Go.Proofs
set_option linter.unusedVariables false
set_option linter.unusedSimpArgs false
set_option maxRecDepth 100000
set_option maxHeartbeats 1000000
theorem yAv {base vs:List Va} {a b:Term} (hb:zA1 base=0) (h:(zD1 vs a b==0)=true) :
  ((zC0 vs a b).2.2=0∨Big (zC0 vs a b).2.2)∧((zC0 (farS base vs) (mv base.length a) (mv base.length b)).2.2=0∨Big (zC0 (farS base vs) (mv base.length a) (mv base.length b)).2.2):=by
 obtain ⟨hc,hfa,hfb⟩:=zH2 h
 refine ⟨zVh (.inl (by simpa using h)),zVh ?_⟩
 rcases z9l (zUm base vs) (z98 hb hc) h with e|e
 ·exact .inl e
 ·right
  show Big (zD1 (farS base vs) (shT (fun n=>n+(base.length:Int)) a) (shT (fun n=>n+(base.length:Int)) b))
  rw [e];rfl
theorem zGq (vs:List Va) (n:Nat):(zBr vs n).length=n:=by unfold zBr;simp
theorem zP8 {vs:List Va} (hc:zA1 vs=0) {n:Nat} (hn:n≤vs.length) (h2:n≤20000):(zD0 vs n []).2=0∨Big (zD0 vs n []).2:=by
 unfold zD0
 rw [List.append_nil]
 exact yCw hc _ (by rw [zGq];exact h2) (zM5 hc hn)
theorem zSe {vs:List Va} (hc:zA1 vs=0) {n:Nat} (h:(zD0 vs n []).2=0):(zD0 vs n []).1.length=n:=by
 unfold zD0 at h ⊢
 have:=(zWn hc h).2.1
 rw [zGq] at this
 exact this
theorem z4u {k:Nat} {base ms F:List Va} {w w':Int} (S:SimS k base ⟨ms,w⟩ ⟨F,w'⟩) (hk:k=base.length) (hb:zA1 base=0) (hc:zA1 ms=0) (hcF:zA1 F=0) {n:Nat} (hn:n≤ms.length)
  (e1:(zD0 ms n []).2=0) (e2:(zD0 F (k+n) []).2=0) (e3:(zD0 base k []).2=0) :
  (zD0 F (k+n) []).1.length=k+(zD0 ms n []).1.length∧(zD0 F (k+n) []).1.take k=(zD0 base k []).1∧zDf F 40 ((zBr F (k+n)).drop k)=zDf ms 40 (zBr ms n):=by
 have hl:=S.len
 dsimp only at hl
 have E0:Emb (fun n=>n) base F:=zY6 (by omega) fun n h0 h1=>S.low n h0 (by omega)
 have hs:=z2w S hk hn
 refine ⟨by rw [zSe hcF e2,zSe hc e1],?_,?_⟩
 ·unfold zD0 at e2 ⊢
  rw [List.append_nil,hs] at e2 ⊢
  rw [List.append_nil]
  have:=(zWn hcF e2).2.2.1
  rw [zGq] at this
  rw [this]
  have h2:=z1e (fun a b h=>h) E0 hb hcF 40 (zBr base k) (zM5 hb (by omega))
  rw [yLk] at h2
  rw [h2]
 ·rw [hs,List.drop_left' (zGq base k)]
  exact z3t S hc hcF hn
end Go.Proofs.YthkjmiejaoomcaaGreat.Am
