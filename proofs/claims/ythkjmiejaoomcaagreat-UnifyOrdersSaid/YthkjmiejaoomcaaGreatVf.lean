/- Part of the proof of a law of layer 5: own texts, joined. -/
import Derived.Test.YthkjmiejaoomcaaGreatVd
import Derived.Test.YthkjmiejaoomcaaGreatVe
set_option linter.unusedVariables false
set_option linter.unusedSimpArgs false
set_option linter.unnecessarySimpa false
namespace Go.Proofs.YthkjmiejaoomcaaGreat.Am
open Go Go.RowKit Go.Proofs
set_option maxRecDepth 20000
theorem chk4:rJ 187 16=true:=by kernel_rfl
theorem Ns:Nat.beq Tryz.prog.funcs.toList.length 203=true:=by kernel_rfl
theorem EC:Tryz.prog.funcs.toList.length=203:=cK.1 Ns
theorem mR {a n g:Nat} (h:rJ a n=true) (h1:a≤g) (h2:g<a+n):chkG g=true:=by
 unfold rJ at h
 rw [mE,List.all_eq_true] at h
 exact h g (List.mem_range'_1.2 ⟨h1,h2⟩)
theorem WT:OM hn0:=by
 intro g fn c hf
 have hlt:g<203:=by
  obtain ⟨h1,_⟩:=yE hf
  have:=(Array.getElem?_eq_some_iff.1 h1).1
  rw [← Array.length_toList,EC] at this
  exact this
 have:chkG g=true:=by
  rcases Nat.lt_or_ge g 50 with h|h
  ·exact mR chk0 (by omega) (by omega)
  ·rcases Nat.lt_or_ge g 100 with h|h
   ·exact mR chk1 (by omega) (by omega)
   ·rcases Nat.lt_or_ge g 140 with h|h
    ·exact mR chk2 (by omega) (by omega)
    ·rcases Nat.lt_or_ge g 187 with h|h
     ·exact mR chk3 (by omega) (by omega)
     ·exact mR chk4 (by omega) (by omega)
 unfold chkG at this
 rw [hf] at this
 exact this
noncomputable def LM:Out:=N9 hn0 100000 200 (.func (.func 13) [] []) [] .nil 0
def Mo (o:Out):Bool:=match o with
 |.val (.bool true) _ _=>true
 |_=>false
theorem Pi:Mo LM=true:=by kernel_rfl
theorem JI (h:ai) (n:Nat):gT Tryz.prog 13 [] h n fun o h' n'=>o=.ret (.bool true)∧h'=h∧n'=n:=by
 refine gT.framed ?_ h n
 have hr:=Pi
 have hc:=Jg WT 100000 200 (.func (.func 13) [] []) [] .nil 0
 have hx:∃ H m,LM=.val (.bool true) H m:=by
  unfold Mo at hr
  split at hr
  ·rename_i H m he;exact ⟨H,m,he⟩
  ·cases hr
 obtain ⟨H,m,hx⟩:=hx
 have hs:N9 hn0 100000 200 (.func (.func 13) [] []) [] .nil 0=.val (.bool true) H m:=hx
 rw [hs] at hc
 rcases hc with ⟨_,_,_,hl⟩|hc
 ·cases hl
 ·have hc:gT Tryz.prog 13 [] (hpT .nil) 0 (IsV (.val (.bool true) H m)):=hc
  have he:hpT (.nil:Tr XObj)=fun _=>Option.none:=by
   funext i
   unfold hpT
   rw [gB];rfl
  rw [he] at hc
  refine hc.mono fun o h' n' hq=>?_
  cases o with
  |ret v=>obtain ⟨H',h1,_⟩:=hq;injection h1 with h1;rw [h1]
  |panic v=>obtain ⟨H',h1,_⟩:=hq;cases h1
end Go.Proofs.YthkjmiejaoomcaaGreat.Am
