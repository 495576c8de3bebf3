/- UnifyOrders: two equations in either order lead to the same values, for every input. -/
import Derived.Test.YthkjmiejaoomcaaGreatRows
import Derived.OpenShut
import Derived.Test.YthkjmiejaoomcaaGreatVj
import Derived.Test.YthkjmiejaoomcaaGreatVv
set_option linter.unusedVariables false
set_option linter.unusedSimpArgs false
set_option linter.unnecessarySimpa false
namespace Go.Proofs.YthkjmiejaoomcaaGreat.Am
open Go Go.ChangeShapes Go.WideShapes Go.ChangeAt Go.RowKit Go.Proofs
set_option linter.unusedVariables false
theorem own0:ownKnob Tryz.prog.godebug=none:=by kernel_rfl
theorem WI:laidOutB Tryz.prog=true:=by kernel_rfl
theorem Wp:Tryz.prog.readableRec 24=true:=by kernel_rfl
theorem row24:24<Tryz.prog.types.size:=of_decide_eq_true (by kernel_rfl)
theorem Wo:Tryz.prog.readableRec 52=true:=by kernel_rfl
theorem row52:52<Tryz.prog.types.size:=of_decide_eq_true (by kernel_rfl)
theorem Lh:fieldsOf (Tryz.prog.underlying 52)=[(27,0),(27,4),(27,8),(27,12)]:=by kernel_rfl
theorem Uk:Tryz.prog.cellsOf 52=16:=by kernel_rfl
set_option maxRecDepth 100000 in
theorem zP {H:Type} {enc':TypeId × Value→H} {W:World} (fuel:Nat) (cs:List Value) (x:DataW H × List MemPlace) (h:DataW.trod enc' Tryz.prog W 0 (fun _=>true) true fuel 52 cs=some x):∃ a b c d:Term,RelL (G0 W) W (Cx a b c d) cs:=by
 obtain ⟨f0,f1,f2,f3,hu,⟨t0,o0⟩,⟨t1,o1⟩,⟨t2,o2⟩,⟨t3,o3⟩⟩:=rF Lh
 obtain ⟨xs,n,rfl,_,hcl,hxl,hf⟩:=DataW.trod_struct hu h
 rw [Uk] at hcl
 have hx:∀ i,i<4→∃ y,xs[i]?=some y:=fun i hi=>⟨_,List.getElem?_eq_getElem (by rw [hxl];simpa using hi)⟩
 have g0:=hf 0 f0 rfl
 have g1:=hf 1 f1 rfl
 have g2:=hf 2 f2 rfl
 have g3:=hf 3 f3 rfl
 rw [t0,o0,rM] at g0
 rw [t1,o1,rM] at g1
 rw [t2,o2,rM] at g2
 rw [t3,o3,rM] at g3
 obtain ⟨y0,hy0⟩:=hx 0 (by omega)
 obtain ⟨y1,hy1⟩:=hx 1 (by omega)
 obtain ⟨y2,hy2⟩:=hx 2 (by omega)
 obtain ⟨y3,hy3⟩:=hx 3 (by omega)
 rw [hy0] at g0
 rw [hy1] at g1
 rw [hy2] at g2
 rw [hy3] at g3
 obtain ⟨a,ha,_⟩:=(oU n).2 _ y0 g0
 obtain ⟨b,hb,_⟩:=(oU n).2 _ y1 g1
 obtain ⟨c,hc,_⟩:=(oU n).2 _ y2 g2
 obtain ⟨d,hd,_⟩:=(oU n).2 _ y3 g3
 rw [List.drop_zero] at ha
 rw [List.take_of_length_le (by rw [List.length_drop];omega)] at hd
 refine ⟨a,b,c,d,?_⟩
 refine uZ (xs:=ay a) (ys:=ay b++(ay c++ay d)) (k:=4) rfl ha (uZ (k:=4) rfl hb (uZ (k:=4) rfl ?_ ?_))
 ·rw [List.drop_drop];exact hc
 ·rw [List.drop_drop,List.drop_drop];exact hd
theorem Ms {H:Type} {enc':TypeId × Value→H} {W:World} {cs:Array Value} {d:DataW H} {ps:List MemPlace} (h:DataW.Trod enc' Tryz.prog W 0 (fun _=>true) true 52 (.agg cs) d ps):∃ A B C D:Term,Rel (G0 W) W (.agg (Cx A B C D)) (.agg cs):=by
 obtain ⟨fuel,hf⟩:=Ir h
 obtain ⟨A,B,C,D,hl⟩:=zP fuel _ _ hf
 exact ⟨A,B,C,D,by simp only [Rel];exact ⟨cs,rfl,hl⟩⟩
set_option maxRecDepth 100000 in
theorem BU (os:Os) (started:os.Started) (H:Type) (enc':TypeId × Value→H) :
  ReturnsInHanded {} Tryz.checked os 5 .any (Rows.unifyOrdersSpec.pre6 enc' Tryz.prog Tryz.f5 Rows.unifyOrdersRow.domain false) (Rows.unifyOrdersSpec.post enc' Tryz.prog Tryz.f5 false true false false):=by
 refine returnsInHanded_of_change (C:=Tryz.checked) own0 started (by kernel_rfl) Tryz.func5
  (ChangeSpec.witness6 (enc:=enc') (C:=Tryz.checked) false ⟨#[],#[.agg #[.slice none 0 0],.agg #[.int .i64 0,.int .i64 0,.string .empty,.slice none 0 0,.int .i64 0,.int .i64 0,.string .empty,.slice none 0 0,.int .i64 0,.int .i64 0,.string .empty,.slice none 0 0,.int .i64 0,.int .i64 0,.string .empty,.slice none 0 0]],[]⟩ 8 (by kernel_rfl) (by kernel_rfl) (by kernel_rfl) (by kernel_rfl)) ?_
 intro W base args ds gs before hval0 hW hcnd _
 have hval:∀ (j:Nat) t v,Tryz.f5.params[j]?=some t→args[j]?=some v→Value.okWide Tryz.prog W .any base t v:=hval0
 have hW':=hW
 obtain ⟨p,q,hA0,hV,rfl,hfz,hnd⟩:=hW
 have hA:DataW.TrodAll enc' Tryz.prog W 0 (fun _=>true) true Tryz.f5.params.toList args.toList ds p:=hA0
 rw [Tryz.params5] at hA hval
 obtain ⟨v0,vs0,d0,ds0,p0,q0,hargs,rfl,rfl,h0,r0⟩:=trodAll_cons hA
 obtain ⟨v2,vs2,d2,ds2,p2,q2,rfl,rfl,rfl,h2,r2⟩:=trodAll_cons r0
 obtain ⟨rfl,rfl,rfl⟩:=trodAll_nil r2
 obtain rfl:args=#[v0,v2]:=by cases args;simp_all
 obtain ⟨rfl,rfl⟩:=trodVars_none hV
 obtain ⟨f24,hu24,_⟩:=AP Lj
 obtain ⟨g0,g1,g2,g3,hu52,_⟩:=rF Lh
 obtain ⟨c0,rfl,_⟩:=okWide_struct hu24 (hval 0 24 v0 rfl rfl)
 obtain ⟨c2,rfl,_⟩:=okWide_struct hu52 (hval 1 52 v2 rfl rfl)
 obtain ⟨l,hl⟩:=JY h0
 obtain ⟨A,B,C,D,hx⟩:=Ms h2
 have hlt:=hW'.lt
 have call:=QP (b:=true) (vargs:=#[.agg c0,.agg c2]) (W:=W) (Mq l A B C D _ (fun o _=>o=.ret (.bool true)) rfl)
  (RelL.cons_iff.2 ⟨hl,RelL.cons_iff.2 ⟨hx,by simp only [RelL]⟩⟩)
 refine call.mono fun e W' ⟨he,hb⟩=>?_
 subst he
 refine ⟨_,rfl,_,_,_,[],p0++(p2++[]),[],hW',trodAll_cons_mk (shut_bool Rn true) trodAll_mk0,?_,rfl,Below.frame hb _,fun h=>by cases h⟩
 refine trodAll_cons_mk (Below.trod WI Wp row24 h0 hb fun x hx=>hlt x ?_) (trodAll_cons_mk (Below.trod WI Wo row52 h2 hb fun x hx=>hlt x ?_) trodAll_mk0)
 ·simp [hx]
 ·simp [hx]
theorem unifyOrders_holds:Rows.UnifyOrdersSaid :=
 OpenClaim.holds_of_wide 5 Tryz.f5 rfl rfl rfl rfl rfl rfl rfl ⟨rfl,rfl,rfl,rfl,rfl⟩ rfl rfl rfl rfl rfl (by kernel_rfl) Tryz.func5 (by kernel_rfl)
  (of_decide_eq_true (by kernel_rfl)) (by unfold Func.isWrapper;first|(rw [if_pos (by decide +kernel)];kernel_rfl)|(rw [if_neg (by decide +kernel)];exact ⟨rfl,rfl⟩))
  (fun os started H enc _=>BU os started H enc)
#print axioms unifyOrders_holds
end Go.Proofs.YthkjmiejaoomcaaGreat.Am
