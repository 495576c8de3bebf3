/- Part of the proof of a law of layer 5: own texts, joined. -/
import Derived.Test.YthkjmiejaoomcaaGreatSb
set_option linter.unusedVariables false
set_option linter.unusedSimpArgs false
set_option linter.unnecessarySimpa false
namespace Go.Proofs.YthkjmiejaoomcaaGreat.Am
open Go Go.RowKit Go.Proofs
set_option linter.unusedVariables false
structure zNv where
 own:Nat→Nat→Bool
 plan:Nat→Nat→Option (Plan × List Nat)
abbrev zJu:=AV→List AV→Tr XObj→Nat→Out
abbrev RunF:=Out→St→(St→Out)→(AV→St→Out)→Out
inductive PE where
 |free (i:Nat)
 |rd (i:Nat) (op:Op) (τ:Tr AV) (v:AV)
noncomputable section
def rPut (d:Option Nat):AV→Tr AV→(Tr AV→Out)→Out:=Option.rec (motive:=fun _=>AV→Tr AV→(Tr AV→Out)→Out) (fun v τ k=>k τ) (fun d v τ k=>setK (some v) (bits d) τ k) d
def rX (d:Option Nat) (F:OpF):RunF:=fun err s k pan=>St.rec (motive:=fun _=>Out) (fun τ H n ds=>F err τ H n fun v H n=>rPut d v τ fun τ=>k ⟨τ,H,n,ds⟩) s
def z3d (d:Option Nat):RunF:=fun err s k pan=>St.rec (motive:=fun _=>Out) (fun τ H n ds=>rPut d (.tuple []) τ fun τ=>k ⟨τ,H,n,ds⟩) s
def z7e:RunF:=fun err s k pan=>err
def zQ1 (d:Option Nat) (err:Out) (τ:Tr AV) (ds:List ADef) (k:St→Out) (pan:AV→St→Out) (o:Out):Out :=
 Out.rec (motive:=fun _=>Out) (fun f r i=>.fail f r i) (fun _=>err) (fun _ _=>err) (fun _=>err) (fun _ _=>err) (fun v H n=>rPut d v τ fun τ=>k ⟨τ,H,n,ds⟩) (fun v H n=>pan v ⟨τ,H,n,ds⟩) (fun _ _ _ _=>err) o
def yLp (call:zJu) (d:Option Nat) (f:Operand) (args:Array Operand):RunF:=fun err s k pan=>St.rec (motive:=fun _=>Out) (fun τ H n ds=>zQ1 d err τ ds k pan (call (ev f τ) (evL args.toList τ) H n)) s
def panA (v:AV):Out→St→(AV→St→Out)→Out:=match v with
 |.iface t x=>fun err s pan=>pan (.iface t x) s
 |_=>fun err s pan=>err
def z7d (x:Operand):RunF:=fun err s k pan=>panA (ev x s.τ) err s pan
def defA (v:AV):Out→(AV→Out)→Out:=match v with
 |.func fn a b=>fun err k=>k (.func fn a b)
 |_=>fun err k=>err
def z7f (rd:Option Nat) (d:Option Nat) (f:Operand) (args:Array Operand):RunF:=fun err s k pan=>St.rec (motive:=fun _=>Out)
 (fun τ H n ds=>Option.rec (motive:=fun _=>Out) (defA (ev f τ) err fun v=>zQp (evL args.toList τ) fun l=>rPut d (.tuple []) τ fun τ=>k ⟨τ,H,n,.fn v l::ds⟩) (fun _=>err) rd) s
def z00 (own:Bool) (d:Option Nat) (c:Call) (b:Builtin):RunF:=match b with
 |.recover=>z7e
 |b=>rX d (zHi own b c)
def z7g (call:zJu) (own:Bool) (d:Option Nat) (c:Call) (cl:Callee):RunF:=match cl with
 |.builtin b=>z00 own d c b
 |.value f=>yLp call d f c.args
 |.invoke _ _=>z7e
def z0z (rd:Option Nat) (d:Option Nat) (c:Call) (cl:Callee):RunF:=match cl with
 |.value f=>z7f rd d f c.args
 |_=>z7e
def zTr (call:zJu) (own:Bool) (rd:Option Nat) (d:Option Nat) (op:Op):RunF:=match op with
 |.call c=>z7g call own d c c.callee
 |.panic x=>z7d x
 |.defer c=>z0z rd d c c.callee
 |op=>rX d (xop op)
def gSel (w:Bool) (v:AV):RunF→RunF→RunF:=match v with
 |.bool b=>fun go skip=>Bool.rec (Bool.rec go skip w) (Bool.rec skip go w) b
 |.tuple _=>fun go skip=>skip
 |_=>fun go skip=>z7e
def stepG (d:Option Nat) (g:GT) (run:RunF):RunF:=match g with
 |.go=>run
 |.off=>z3d d
 |.at_ t w=>fun err s k pan=>gSel w (evT t s.τ) run (z3d d) err s k pan
def zY2 (l:List Oper) (τ:Tr AV):Tr AV:=List.rec (motive:=fun _=>Tr AV) τ (fun o _ ih=>Option.rec (motive:=fun _=>Tr AV) ih (fun d=>setP (some .any) (bits d) ih) o.dst) l
def panX (ops:Array Oper):AV→St→Out:=fun v s=>St.rec (motive:=fun _=>Out) (fun τ H n ds=>.panic v ⟨zY2 ops.toList τ,H,n,ds⟩) s
def dN (d:Option Nat):Nat:=Option.rec (motive:=fun _=>Nat) 9999 (fun d=>d) d
def seqX (call:zJu) (own:Bool) (fr:Fr) (id:Nat) (ops:Array Oper) (l:List CO):St→Out :=
 List.rec (motive:=fun _=>St→Out) (fun s=>.norm s) (fun o _ ih s=>CO.rec (motive:=fun _=>Out) (fun d op g=>stepG d g (zTr call own fr.rd d op) (.fail fr.f id (dN d)) s ih (panX ops)) o) l
def leq (f:AV→AV→Bool):List AV→List AV→Bool
 |[],[]=>true
 |a::l,b::m=>Bool.rec false (leq f l m) (f a b)
 |_,_=>false
def yIv (a b:AV):Bool:=match a,b with
 |.any,.any=>true
 |.someBool,.someBool=>true
 |.yield i,.yield j=>Nat.beq i j
 |.bool x,.bool y=>Bool.rec (Bool.rec true false y) y x
 |.int k x,.int k' y=>kEq k k'&&iEq x y
 |.str x,.str y=>yBq x y
 |.ptr i o,.ptr j p=>Nat.beq i j&&Nat.beq o p
 |.nilptr,.nilptr=>true
 |.sl i o n,.sl j p m=>Nat.beq i j&&Nat.beq o p&&Nat.beq n m
 |.map i,.map j=>Nat.beq i j
 |.nilmap,.nilmap=>true
 |.nilfunc,.nilfunc=>true
 |.nilI,.nilI=>true
 |_,_=>false
def yGe (a b:Tok):Bool:=match a,b with
 |.none,.none=>true
 |.full,.full=>true
 |.nil,.nil=>true
 |.id i,.id j=>Nat.beq i j
 |_,_=>false
def yIu (f:AV→AV→Bool) (a b:AV):Bool:=match a,b with
 |.cptr l o,.cptr m p=>Nat.beq o p&&leq f l m
 |.list z l n t,.list y m k u=>Nat.beq z y&&Nat.beq n k&&yGe t u&&leq f l m
 |.iface t v,.iface u w=>Nat.beq t u&&f v w
 |.agg l,.agg m=>leq f l m
 |.tuple l,.tuple m=>leq f l m
 |.func (.func g) l l',.func (.func g') m m'=>Nat.beq g g'&&leq f l m&&leq f l' m'
 |a,b=>yIv a b
def avEq (n:Nat):AV→AV→Bool:=Nat.rec (motive:=fun _=>AV→AV→Bool) (fun _ _=>false) (fun _ ih=>yIu ih) n
def peOk (st:List Nat) (H:Tr XObj) (q:PE):Bool:=match q with
 |.free _=>true
 |.rd i op τ v=>!(st.contains i)||Option.rec (motive:=fun _=>Bool) false (fun q=>avEq 100 q.1 v) (aop Tryz.prog op (zAx (envT τ)) (hpT H) 0)
def z0q (st:List Nat) (T:List PE) (H:Tr XObj):Bool:=List.rec (motive:=fun _=>Bool) true (fun _ _ _=>allB (peOk st H) T) st
def yGz (i:Nat) (d:Option Nat) (op:Op) (T:List PE) (k:List PE→St→Out):RunF:=fun err s _ pan=>St.rec (motive:=fun _=>Out)
 (fun τ H n ds=>xop op err τ H n fun v _ _=>rPut d v τ fun τ'=>Bool.rec (k (.rd i op τ v::T) ⟨τ',H,n,ds⟩) (k (.free i::T) ⟨τ',H,n,ds⟩) (Nat.beq (zGk op) 0)) s
def zPt (i:Nat) (d:Option Nat) (T:List PE) (k:List PE→St→Out):RunF:=fun err s _ pan=>z3d d err s (k (.free i::T)) pan
def yGg (i:Nat) (d:Option Nat) (g:GT) (op:Op) (T:List PE) (k:List PE→St→Out):RunF:=match g with
 |.go=>yGz i d op T k
 |.off=>zPt i d T k
 |.at_ t w=>fun err s k' pan=>gSel w (evT t s.τ) (yGz i d op T k) (zPt i d T k) err s k' pan
def z1x (l:List Nat):Bool:=match l with
 |[]=>true
 |_=>false
def zTz (j:Nat) (p:Plan):Bool:=match p with
 |.one j' st .done=>Nat.beq j j'&&z1x st
 |_=>false
def zM0 (o:CO):Option (TypeId × Operand × Operand):=match o with
 |⟨Option.none,.store T a x,.go⟩=>some (T,a,x)
 |_=>Option.none
def ptrA (v:AV):Option Nat:=match v with
 |.ptr i _=>some i
 |_=>Option.none
def z2i (a b:AV):Bool:=match ptrA a,ptrA b with
 |some i,some j=>!(Nat.beq i j)
 |_,_=>false
def twoS (err:Out) (p q:TypeId × Operand × Operand) (s:St):Out:=St.rec (motive:=fun _=>Out) (fun τ H n ds =>
 Bool.rec err (zN8 p.1 p.2.1 p.2.2 err τ H n fun _ H1 _=>zN8 q.1 q.2.1 q.2.2 err τ H1 n fun _ H2 _=>.norm ⟨τ,H2,n,ds⟩) (z2i (ev p.2.1 τ) (ev q.2.1 τ))) s
def twoX (err:Out) (cl:List CO) (i:Nat) (st:List Nat) (p:Plan) (j:Nat) (st':List Nat) (q:Plan) (s:St):Out :=
 Option.rec (motive:=fun _=>Out) err (fun c1=>Option.rec (motive:=fun _=>Out) err (fun c2=>Bool.rec err (twoS err c1 c2 s) (zTz j p&&zTz i q&&z1x st&&z1x st')) ((zFr cl j).bind zM0)) ((zFr cl i).bind zM0)
def drX (call:zJu) (own:Bool) (fr:Fr) (id:Nat) (ops:Array Oper) (cl:List CO) (pl:Plan):List PE→St→Out :=
 Plan.rec (motive:=fun _=>List PE→St→Out) (fun _ s=>.norm s)
  (fun i _ ih T s=>Option.rec (motive:=fun _=>Out) (.fail fr.f id i) (fun o=>CO.rec (motive:=fun _=>Out) (fun d op g=>yGg i d g op T ih (.fail fr.f id i) s (fun s=>.fail fr.f id i) (panX ops)) o) (zFr cl i))
  (fun i st _ ih T s=>Option.rec (motive:=fun _=>Out) (.fail fr.f id i) (fun o=>CO.rec (motive:=fun _=>Out) (fun d op g=>stepG d g (zTr call own fr.rd d op) (.fail fr.f id i) s (fun s=>Bool.rec (.fail fr.f id i) (ih T s) (z0q st T s.H)) (panX ops)) o) (zFr cl i))
  (fun i st p j st' q _ _ _ s=>twoX (.fail fr.f id i) cl i st p j st' q s) pl
def yFk (ops:Array Oper) (pl:Plan) (ord:List Nat):Bool :=
 zFp (zA2 Tryz.prog ops) pl (Array.replicate ops.size false) []&&Nat.ble pl.len ops.size&&zTw (zA2 Tryz.prog ops) ord (Array.replicate ops.size false)
def zCq (ops:Array Oper):List CO:=zAm (zA2 Tryz.prog ops).toList (zA2 Tryz.prog ops).toList
def yD7 (hn:zNv) (call:zJu) (fr:Fr) (id:Nat) (ops:Array Oper):St→Out:=fun s =>
 Option.rec (motive:=fun _=>Out) (.fail fr.f id 8801) (fun q=>drX call (hn.own fr.f id) fr id ops (zCq ops) q.1 [] s) (hn.plan fr.f id)
def chkC (hn:zNv) (f:Nat):Code→Bool
 |.region id ops draw=>bif draw then (match hn.plan f id with|some q=>yFk ops q.1 q.2|Option.none=>true) else true
 |.seq a b=>chkC hn f a&&chkC hn f b
 |.cond _ a b=>chkC hn f a&&chkC hn f b
 |.block _ a=>chkC hn f a
 |.loop a=>chkC hn f a
 |_=>true
def zYg (B:St→Out) (o:Out):Out:=Out.rec (motive:=fun _=>Out) .fail B .exit .ret .panic .val .thr (fun _ _ x y=>.alt x y) o
def xSeq (A B:St→Out):St→Out:=fun s=>zYg B (A s)
def yCc (v:AV) (fr:Fr):(St→Out)→(St→Out)→St→Out:=match v with
 |.bool b=>fun A B=>Bool.rec B A b
 |_=>fun A B s=>.fail fr.f 8803 0
def yBd (fr:Fr) (c:Operand) (A B:St→Out):St→Out:=fun s=>yCc (ev c s.τ) fr A B s
def zW6 (id:Nat) (o:Out):Out:=Out.rec (motive:=fun _=>Out) .fail .norm (fun i s=>Bool.rec (.exit i s) (.norm s) (Nat.beq i id)) .ret .panic .val .thr (fun _ _ x y=>.alt x y) o
def zZb {β:Type} (x y:AV) (k:AV→β):β:=Bool.rec (k .any) (k x) (avEq 100 x y)
def z3y (x y:Option AV) {β:Type} (k:Option AV→β):β :=
 Option.rec (motive:=fun _=>β) (Option.rec (motive:=fun _=>β) (k Option.none) (fun _=>k (some .any)) y) (fun x=>Option.rec (motive:=fun _=>β) (k (some .any)) (fun y=>zZb x y fun v=>k (some v)) y) x
def anyT (t:Tr AV):Tr AV:=Tr.rec (motive:=fun _=>Tr AV) .nil (fun _ v _ l r=>.node l (Option.rec (motive:=fun _=>Option AV) Option.none (fun _=>some .any) v) r) t
def zRr {β:Type} (a:Tr AV):Tr AV→(Tr AV→β)→β:=Tr.rec (motive:=fun _=>Tr AV→(Tr AV→β)→β)
 (fun b k=>k (anyT b))
 (fun l v r ihl ihr b k=>Tr.rec (motive:=fun _=>β) (k (anyT (.node l v r))) (fun l' v' r' _ _=>ihl l' fun l=>ihr r' fun r=>z3y v v' fun v=>k (.node l v r)) b) a
def esEq:List (AV × AV × Nat)→List (AV × AV × Nat)→Bool
 |[],[]=>true
 |a::l,b::m=>avEq 100 a.1 b.1&&avEq 100 a.2.1 b.2.1&&Nat.beq a.2.2 b.2.2&&esEq l m
 |_,_=>false
def xoEq (a b:XObj):Bool:=match a,b with
 |.o (.cells cs T),.o (.cells cs' T')=>Nat.beq T T'&&leq (avEq 100) cs cs'
 |.o (.front T),.o (.front T')=>Nat.beq T T'
 |.o (.map es c),.o (.map es' c')=>Nat.beq c c'&&esEq es es'
 |.o .defs,.o .defs=>true
 |_,_=>false
def zZd {β:Type} (x y:XObj) (k:Option XObj→β):β:=Bool.rec (k Option.none) (k (some x)) (xoEq x y)
def z3z (x y:Option XObj) {β:Type} (k:Option XObj→β):β :=
 Option.rec (motive:=fun _=>β) (k Option.none) (fun x=>Option.rec (motive:=fun _=>β) (k Option.none) (fun y=>zZd x y k) y) x
def zRs {β:Type} (a:Tr XObj):Tr XObj→(Tr XObj→β)→β:=Tr.rec (motive:=fun _=>Tr XObj→(Tr XObj→β)→β)
 (fun b k=>k .nil)
 (fun l v r ihl ihr b k=>Tr.rec (motive:=fun _=>β) (k .nil) (fun l' v' r' _ _=>ihl l' fun l=>ihr r' fun r=>z3z v v' fun v=>k (.node l v r)) b) a
def zXd (l:List ADef):Bool:=match l with
 |[]=>true
 |_=>false
def zZc (err:Out) (s t:St):Out:=Bool.rec err (zRr s.τ t.τ fun τ=>zRs s.H t.H fun H=>.norm ⟨τ,H,s.n,[]⟩) (Nat.beq s.n t.n&&zXd s.ds&&zXd t.ds)
def zY0 (o:Out):Out→(St→Out)→Out:=match o with
 |.norm s=>fun err k=>k s
 |.fail f r i=>fun err k=>.fail f r i
 |_=>fun err k=>err
def zJj (err:Out) (o:Out):Out:=Out.rec (motive:=fun _=>Out) .fail .norm .exit .ret .panic .val .thr (fun _ _ x y=>zY0 x err fun s=>zY0 y err fun t=>zZc err s t) o
def zO7 (fr:Fr) (id:Nat) (A:St→Out):St→Out:=fun s=>zJj (.fail fr.f 8831 id) (zW6 id (A s))
def zO6 (fuel:Nat) (fr:Fr) (A:St→Out):St→Out:=Nat.rec (motive:=fun _=>St→Out) (fun _=>.fail fr.f 8804 0) (fun _ ih s=>zYg ih (A s)) fuel
def z6i (st:LoopState):Bool:=match st with
 |.busy=>false
 |_=>true
def yHi (c:Option Code):Out→St→Out:=match c with
 |Option.none=>fun err s=>.norm s
 |some .ret=>fun err s=>.ret s
 |some (.exit i)=>fun err s=>.exit i s
 |_=>fun err s=>err
def zP6 (o:Option XObj):Out→(LoopState→Option Code→Nat→Tr AV→List Nat→Code→Code→Nat→Nat→Out)→Out:=match o with
 |some (.loop st pend nt env ps asg bd d f)=>fun err k=>k st pend nt env ps asg bd d f
 |_=>fun err k=>err
def yGw (err:Out) (τ:Tr AV) (ds:List ADef) (n0:Nat) (o:Out):Out :=
 Out.rec (motive:=fun _=>Out) .fail (fun _=>err) (fun _ _=>err) (fun _=>err) (fun _ _=>err)
  (fun _ H n=>zP6 (getP (bits (Nat.succ n0)) H) err fun st pend _ _ _ _ _ _ _=>Bool.rec err (setK Option.none (bits (Nat.succ n0)) H fun H=>yHi pend err ⟨τ,H,n,.coll n0::ds⟩) (z6i st))
  (fun v H n=>.panic v ⟨τ,H,n,.coll n0::ds⟩) (fun _ _ _ _=>err) o
def yC6 (v:AV):Out→(AV→Out)→Out:=match v with
 |.func (.func g) a b=>fun err k=>k (.func (.func g) a b)
 |_=>fun err k=>err
def zVd (call:zJu) (fr:Fr) (g:Operand) (ps:Array Tmp) (asg bd:Code):St→Out:=fun s=>St.rec (motive:=fun _=>Out)
 (fun τ H n ds=>Option.rec (motive:=fun _=>Out)
  (yC6 (ev g τ) (.fail fr.f 8805 0) fun v=>setK (some (.o .defs)) (bits n) H fun H1=>fNat (Nat.succ n) fun n1 =>
   setK (some (.loop .ready Option.none fr.nt τ ps.toList asg bd n fr.f)) (bits n1) H1 fun H2=>fNat (Nat.succ n1) fun n2 =>
   yGw (.fail fr.f 8806 0) τ ds n (call v [.yield n1] H2 n2))
  (fun _=>.fail fr.f 8807 0) fr.rd) s
def exC (hn:zNv) (fuel:Nat) (call:zJu) (fr:Fr) (c:Code):St→Out:=Code.rec (motive:=fun _=>St→Out)
 .norm
 (fun id ops draw=>Bool.rec (seqX call (hn.own fr.f id) fr id ops (zAm ops.toList ops.toList)) (yD7 hn call fr id ops) draw)
 (fun _ _ A B=>xSeq A B)
 (fun c _ _ A B=>yBd fr c A B)
 (fun id _ A=>zO7 fr id A)
 (fun _ A=>zO6 fuel fr A)
 (fun g ps asg bd _ _=>zVd call fr g ps asg bd)
 (fun id s=>.exit id s)
 (fun _ _ _=>.fail fr.f 8808 0)
 (fun _ s=>.norm s)
 (fun _ _=>.fail fr.f 8809 0)
 .ret
 (fun _ _=>.fail fr.f 8810 0) c
def zSs (args:List AV):Nat→Tr AV→(Tr AV→Out)→Out:=List.rec (motive:=fun _=>Nat→Tr AV→(Tr AV→Out)→Out) (fun _ τ k=>k τ) (fun a _ ih i τ k=>fV a fun a=>setK (some a) (bits i) τ fun τ=>ih (Nat.succ i) τ k) args
def zipK (ps:List Nat):List AV→Tr AV→(Tr AV→Out)→Out:=List.rec (motive:=fun _=>List AV→Tr AV→(Tr AV→Out)→Out) (fun _ τ k=>k τ)
 (fun p _ ih args τ k=>List.rec (motive:=fun _=>Out) (k τ) (fun a rest _=>fV a fun a=>setK (some a) (bits p) τ fun τ=>ih rest τ k) args) ps
def res1 (τ:Tr AV) (H:Tr XObj) (r:ResultVar):Out→(AV→Out)→Out:=match r with
 |.tmp t=>fun err k=>fV (evT t τ) k
 |.cell a t=>fun err k=>z8p t (evT a τ) err H fun v=>fV v k
def resX (err:Out) (τ:Tr AV) (H:Tr XObj) (rs:List ResultVar):(List AV→Out)→Out:=List.rec (motive:=fun _=>(List AV→Out)→Out) (fun k=>k []) (fun r _ ih k=>res1 τ H r err fun v=>ih fun vs=>k (v::vs)) rs
def yG2 (l:List AV) (k:AV→Out):Out:=match l with
 |[v]=>k v
 |l=>k (.tuple l)
def fnAt (g:Nat):Option (Func × Code):=match Tryz.prog.funcs.toList[g]? with
 |some fn=>match fn.body with
  | some c => bif zC8 fn.ntmps c && !(fn.name == "runtime.NumGoroutine") then some (fn, c) else Option.none
  |Option.none=>Option.none
 |Option.none=>Option.none
def zQx (c:Code):Option (Oper × Code):=match c with
 |.seq (.region _ ops false) rest=>match ops.toList with
  |[o]=>bif zG0 o then some (o,rest) else Option.none
  |_=>Option.none
 |_=>Option.none
def yFl (err:Out) (rs:List ResultVar) (k:Tr XObj→Nat→Out) (o:Out):Out :=
 Out.rec (motive:=fun _=>Out) .fail
  (fun s=>List.rec (motive:=fun _=>Out) (resX err s.τ s.H rs fun _=>k s.H s.n) (fun _ _ _=>err) s.ds) (fun _ _=>err)
  (fun s=>List.rec (motive:=fun _=>Out) (resX err s.τ s.H rs fun _=>k s.H s.n) (fun _ _ _=>err) s.ds) (fun _ _=>err) (fun _ _ _=>err) (fun _ _ _=>err) (fun _ _ _ _=>err) o
def zLz (ex:Fr→Code→St→Out) (err:Out) (g:Nat) (args:List AV) (H:Tr XObj) (n:Nat) (pv:Option AV) (k:Tr XObj→Nat→Out):Out :=
 Option.rec (motive:=fun _=>Out) err (fun q=>Option.rec (motive:=fun _=>Out) err (fun oc=>Bool.rec err
  (zSs args 0 .nil fun τ=>rPut oc.1.dst (pv.getD .nilI) τ fun τ=>yFl err q.1.results.toList k (ex ⟨g,q.1.ntmps,Option.none⟩ oc.2 ⟨τ,H,n,[]⟩))
  (Nat.ble (lenN args) q.1.ntmps)) (zQx q.2)) (fnAt g)
def defF (v:AV):Out→(Nat→List AV→List AV→Out)→Out:=match v with
 |.func (.func g) a b=>fun err k=>k g a b
 |_=>fun err k=>err
def z9d (o:Option XObj):Bool:=match o with
 |some (.o .defs)=>true
 |_=>false
def zGz (ex:Fr→Code→St→Out) (err:Out) (rs:List ResultVar) (τ:Tr AV) (ds:List ADef):Option AV→Tr XObj→Nat→Out :=
 List.rec (motive:=fun _=>Option AV→Tr XObj→Nat→Out)
  (fun pv H n=>Option.rec (motive:=fun _=>Out) (resX err τ H rs fun vs=>yG2 vs fun v=>.val v H n) (fun v=>.thr v H n) pv)
  (fun d _ ih pv H n=>ADef.rec (motive:=fun _=>Out)
   (fun f args=>defF f err fun g a b=>zLz ex err g (a++args++b) H n pv fun H n=>ih Option.none H n)
   (fun k=>Bool.rec err (setK Option.none (bits k) H fun H=>ih pv H n) (z9d (getP (bits k) H))) d) ds
def yAm (ex:Fr→Code→St→Out) (err:Out) (rs:List ResultVar) (o:Out):Out :=
 Out.rec (motive:=fun _=>Out) .fail (fun s=>zGz ex err rs s.τ s.ds Option.none s.H s.n) (fun _ _=>err) (fun s=>zGz ex err rs s.τ s.ds Option.none s.H s.n) (fun v s=>zGz ex err rs s.τ s.ds (some v) s.H s.n) (fun _ _ _=>err) (fun _ _ _=>err) (fun _ _ _ _=>err) o
def yAb (ex:Fr→Code→St→Out) (g:Nat) (args:List AV) (H:Tr XObj) (n:Nat):Out :=
 Option.rec (motive:=fun _=>Out) (.fail g 8811 0) (fun q=>Bool.rec (.fail g 8812 0)
  (zSs args 0 .nil fun τ=>yAm ex (.fail g 8813 0) q.1.results.toList (ex ⟨g,q.1.ntmps,Option.none⟩ q.2 ⟨τ,H,n,[]⟩))
  (Nat.ble (lenN args) q.1.ntmps)) (fnAt g)
def yE7 (st st0:LoopState):Bool:=match st,st0 with
 |.ready,.ready=>true
 |.busy,.busy=>true
 |_,_=>false
def zGu (l:Nat) (st st':LoopState) (pend':Option Code) (err:Out) (H:Tr XObj) (k:Tr XObj→Out):Out :=
 zP6 (getP (bits l) H) err fun st0 pend nt env ps asg bd d f=>Option.rec (motive:=fun _=>Out)
  (Bool.rec err (setK (some (.loop st' pend' nt env ps asg bd d f)) (bits l) H k) (yE7 st st0)) (fun _=>err) pend
def roundEnd (l:Nat) (err:Out) (o:Out):Out :=
 Out.rec (motive:=fun _=>Out) .fail
  (fun s=>zGu l .busy .ready Option.none err s.H fun H=>.val (.bool true) H s.n)
  (fun i s=>zGu l .busy .done (some (.exit i)) err s.H fun H=>.val (.bool false) H s.n)
  (fun s=>zGu l .busy .done (some .ret) err s.H fun H=>.val (.bool false) H s.n) (fun _ _=>err) (fun _ _ _=>err) (fun _ _ _=>err) (fun _ _ _ _=>err) o
def zR8 (hn:zNv) (ex:Fr→Code→St→Out) (l:Nat) (args:List AV) (H:Tr XObj) (n:Nat):Out :=
 zP6 (getP (bits l) H) (.fail l 8814 0) fun st pend nt env ps asg bd d f=>Option.rec (motive:=fun _=>Out)
  (match st with
  |.ready=>Bool.rec (.fail f 8815 0) (zipK ps args env fun τ=>Out.rec (motive:=fun _=>Out) .fail
    (fun s=>zGu l .ready .busy Option.none (.fail f 8816 0) s.H fun H=>roundEnd l (.fail f 8817 0) (ex ⟨f,nt,some l⟩ bd ⟨s.τ,H,s.n,s.ds⟩))
    (fun _ _=>.fail f 8818 0) (fun _=>.fail f 8818 1) (fun _ _=>.fail f 8818 2) (fun _ _ _=>.fail f 8818 3) (fun _ _ _=>.fail f 8818 4) (fun _ _ _ _=>.fail f 8818 5)
    (ex ⟨f,nt,some l⟩ asg ⟨τ,H,n,[]⟩)) (Nat.beq (lenN args) (lenN ps)&&(chkC hn f asg&&chkC hn f bd))
  |_=>.fail f 8819 0) (fun _=>.fail f 8820 0) pend
def yIp (hn:zNv) (ex:Fr→Code→St→Out) (f:AV):List AV→Tr XObj→Nat→Out:=match f with
 |.func (.func g) first cap=>fun args H n=>yAb ex g (first++args++cap) H n
 |.yield l=>zR8 hn ex l
 |_=>fun _ _ _=>.fail 0 8821 0
def yAc (hn:zNv) (fuel:Nat) (depth:Nat):zJu:=Nat.rec (motive:=fun _=>zJu) (fun _ _ _ _=>.fail 0 8822 0) (fun _ ih f=>yIp hn (exC hn fuel ih) f) depth
end
end Go.Proofs.YthkjmiejaoomcaaGreat.Am
namespace Go.Proofs.YthkjmiejaoomcaaGreat.Am
open Go Go.RowKit Go.Proofs
set_option maxRecDepth 20000
noncomputable section
def pl13 (r:Nat):Option (Plan × List Nat) :=
 Bool.rec (
 Bool.rec (
 Bool.rec (
 Bool.rec (
 Bool.rec (
 Bool.rec (
 Bool.rec (
 Bool.rec (
 Bool.rec (
 Option.none) (some (.take 0 (.take 1 (.take 2 (.take 3 (.take 4 (.take 5 (.one 6 [5] (.take 7 (.one 8 [5] (.one 9 [] (.take 10 (.take 11 (.take 12 (.take 13 (.take 14 (.take 15 (.take 16 (.one 17 [15,14,13] (.one 18 [15,14,13] (.one 19 [15,14] (.take 20 (.take 21 (.take 22 (.done))))))))))))))))))))))),[0,1,2,3,4,5,6,7,8,9,10,11,12,13,14,15,16,17,18,19,20,21,22])) (Nat.beq r 15)) (some (.take 0 (.take 1 (.take 2 (.take 3 (.one 4 [2] (.one 5 [] (.take 6 (.take 7 (.take 8 (.take 9 (.take 10 (.one 11 [9] (.one 12 [] (.take 13 (.take 14 (.take 15 (.take 16 (.take 17 (.take 18 (.take 19 (.take 20 (.take 21 (.take 22 (.done))))))))))))))))))))))),[0,1,2,3,4,5,6,7,8,9,10,11,12,13,14,15,16,17,18,19,20,21,22])) (Nat.beq r 14)) (some (.take 0 (.take 1 (.take 2 (.take 3 (.take 6 (.take 7 (.one 4 [6,2,1,0] (.one 5 [6,2,1,0] (.one 8 [6,2,1,0] (.one 9 [6,2,1,0] (.take 10 (.one 11 [6,2,1] (.take 12 (.take 13 (.take 14 (.take 15 (.take 16 (.take 17 (.take 18 (.done))))))))))))))))))),[0,1,2,3,6,7,4,5,8,9,10,11,12,13,14,15,16,17,18])) (Nat.beq r 10)) (some (.take 0 (.take 1 (.take 2 (.take 5 (.take 6 (.take 7 (.one 3 [6,5,1,0] (.one 4 [6,5,1,0] (.one 8 [6,5,1,0] (.one 9 [6,5,1,0] (.one 10 [6,5,1] (.take 11 (.take 12 (.take 13 (.take 14 (.one 15 [] (.one 16 [] (.take 17 (.take 18 (.done))))))))))))))))))),[0,1,2,5,6,7,3,4,8,9,10,11,12,13,14,15,16,17,18])) (Nat.beq r 9)) (some (.take 0 (.take 1 (.take 2 (.take 3 (.take 4 (.take 5 (.take 6 (.take 7 (.take 8 (.take 9 (.take 10 (.take 11 (.take 12 (.one 13 [11,10] (.one 14 [11,10] (.one 15 [11] (.take 16 (.take 17 (.take 18 (.take 19 (.take 20 (.take 21 (.take 22 (.take 23 (.take 24 (.take 25 (.take 26 (.take 27 (.take 28 (.take 29 (.take 30 (.take 31 (.take 32 (.take 33 (.done)))))))))))))))))))))))))))))))))),[0,1,2,3,4,5,6,7,8,9,10,11,12,13,14,15,16,17,18,19,20,21,22,23,24,25,26,27,28,29,30,31,32,33])) (Nat.beq r 8)) (some (.take 0 (.take 1 (.take 2 (.take 5 (.take 6 (.one 3 [5,1,0] (.one 4 [5,1,0] (.one 7 [5,1,0] (.one 8 [5,1,0] (.one 9 [5,1] (.take 10 (.take 11 (.take 12 (.take 13 (.one 14 [] (.one 15 [] (.take 16 (.take 17 (.done)))))))))))))))))),[0,1,2,5,6,3,4,7,8,9,10,11,12,13,14,15,16,17])) (Nat.beq r 7)) (some (.take 0 (.take 1 (.take 2 (.take 5 (.take 6 (.one 3 [5,1,0] (.one 4 [5,1,0] (.one 7 [5,1,0] (.take 8 (.one 9 [5,1,0] (.one 10 [5,1,0] (.one 11 [5,1] (.take 12 (.take 13 (.take 14 (.take 15 (.one 16 [] (.one 17 [] (.take 18 (.take 19 (.done)))))))))))))))))))),[0,1,2,5,6,3,4,7,8,9,10,11,12,13,14,15,16,17,18,19])) (Nat.beq r 6)) (some (.take 0 (.take 1 (.take 2 (.take 3 (.one 4 [2,1,0] (.one 5 [2,1,0] (.one 6 [2,1] (.take 7 (.take 8 (.take 9 (.one 10 [] (.one 11 [] (.take 12 (.done))))))))))))),[0,1,2,3,4,5,6,7,8,9,10,11,12])) (Nat.beq r 5)) (some (.take 0 (.take 1 (.take 2 (.take 3 (.take 6 (.take 7 (.one 4 [6,2,1,0] (.one 5 [6,2,1,0] (.one 8 [6,2,1,0] (.one 9 [6,2,1,0] (.one 10 [6,2,1] (.take 11 (.take 12 (.take 13 (.take 14 (.one 15 [] (.one 16 [] (.take 17 (.take 18 (.done))))))))))))))))))),[0,1,2,3,6,7,4,5,8,9,10,11,12,13,14,15,16,17,18])) (Nat.beq r 4)
def pl15 (r:Nat):Option (Plan × List Nat) :=
 Bool.rec (
 Option.none) (some (.take 0 (.take 1 (.take 2 (.take 3 (.take 4 (.take 5 (.take 6 (.take 7 (.one 8 [] (.done))))))))),[0,1,2,3,4,5,6,7,8])) (Nat.beq r 13)
def pl31 (r:Nat):Option (Plan × List Nat) :=
 Bool.rec (
 Bool.rec (
 Option.none) (some (.take 0 (.take 1 (.take 2 (.take 3 (.take 4 (.take 5 (.take 6 (.take 7 (.done)))))))),[0,1,2,3,4,5,6,7])) (Nat.beq r 29)) (some (.take 0 (.take 1 (.take 2 (.take 3 (.one 4 [] (.take 5 (.two 6 [] (.one 7 [] (.done)) 7 [] (.one 6 [] (.done)))))))),[0,1,2,3,4,5,6,7])) (Nat.beq r 22)
def pl43 (r:Nat):Option (Plan × List Nat) :=
 Bool.rec (
 Option.none) (some (.take 0 (.take 1 (.take 2 (.take 3 (.take 4 (.take 5 (.take 6 (.take 7 (.take 8 (.take 9 (.one 10 [6,1] (.take 11 (.done)))))))))))),[0,1,2,3,4,5,6,7,8,9,10,11])) (Nat.beq r 6)
def pl58 (r:Nat):Option (Plan × List Nat) :=
 Bool.rec (
 Option.none) (some (.take 0 (.take 1 (.take 2 (.take 3 (.take 4 (.take 5 (.take 7 (.take 8 (.one 6 [8] (.one 9 [] (.take 10 (.take 11 (.one 12 [] (.take 13 (.take 14 (.one 15 [] (.done)))))))))))))))),[0,1,2,3,4,5,7,8,6,9,10,11,12,13,14,15])) (Nat.beq r 5)
def pl61 (r:Nat):Option (Plan × List Nat) :=
 Bool.rec (
 Bool.rec (
 Option.none) (some (.take 0 (.take 1 (.take 2 (.take 3 (.take 4 (.take 5 (.take 6 (.take 7 (.take 8 (.take 9 (.take 10 (.take 11 (.take 12 (.one 13 [7,2] (.done)))))))))))))),[0,1,2,3,4,5,6,7,8,9,10,11,12,13])) (Nat.beq r 6)) (some (.take 0 (.take 1 (.take 3 (.take 4 (.one 2 [4] (.one 5 [] (.one 6 [] (.one 7 [] (.done)))))))),[0,1,3,4,2,5,6,7])) (Nat.beq r 2)
def pl79 (r:Nat):Option (Plan × List Nat) :=
 Bool.rec (
 Bool.rec (
 Option.none) (some (.take 0 (.take 1 (.take 2 (.take 3 (.take 4 (.take 5 (.take 6 (.take 7 (.take 8 (.take 9 (.take 10 (.take 11 (.take 12 (.take 13 (.take 14 (.take 15 (.take 16 (.take 17 (.take 18 (.take 19 (.one 20 [15,13,7,5,1] (.take 21 (.take 22 (.done))))))))))))))))))))))),[0,1,2,3,4,5,6,7,8,9,10,11,12,13,14,15,16,17,18,19,20,21,22])) (Nat.beq r 17)) (some (.take 0 (.take 1 (.take 2 (.take 3 (.take 4 (.take 5 (.take 6 (.take 7 (.take 8 (.take 9 (.take 10 (.take 11 (.take 12 (.take 13 (.take 14 (.take 15 (.take 16 (.one 17 [15,12,5,1] (.take 18 (.take 19 (.done)))))))))))))))))))),[0,1,2,3,4,5,6,7,8,9,10,11,12,13,14,15,16,17,18,19])) (Nat.beq r 15)
def pl80 (r:Nat):Option (Plan × List Nat) :=
 Bool.rec (
 Option.none) (some (.take 0 (.take 1 (.take 2 (.take 4 (.take 5 (.one 3 [0] (.one 6 [] (.take 7 (.two 8 [] (.one 9 [] (.done)) 9 [] (.one 8 [] (.done)))))))))),[0,1,2,4,5,3,6,7,8,9])) (Nat.beq r 3)
def pl81 (r:Nat):Option (Plan × List Nat) :=
 Bool.rec (
 Bool.rec (
 Bool.rec (
 Bool.rec (
 Option.none) (some (.take 0 (.take 1 (.take 2 (.take 3 (.one 4 [1] (.take 5 (.one 6 [] (.take 7 (.one 8 [] (.done))))))))),[0,1,2,3,4,5,6,7,8])) (Nat.beq r 17)) (some (.take 0 (.take 1 (.take 2 (.take 3 (.take 4 (.take 5 (.take 6 (.take 7 (.one 8 [6,3] (.take 9 (.one 10 [] (.done))))))))))),[0,1,2,3,4,5,6,7,8,9,10])) (Nat.beq r 11)) (some (.take 0 (.take 1 (.take 2 (.one 3 [1] (.take 4 (.one 5 [] (.done)))))),[0,1,2,3,4,5])) (Nat.beq r 7)) (some (.take 0 (.take 1 (.take 2 (.take 3 (.take 4 (.take 5 (.take 6 (.take 7 (.take 8 (.take 9 (.one 10 [] (.one 11 [] (.take 12 (.done))))))))))))),[0,1,2,3,4,5,6,7,8,9,10,11,12])) (Nat.beq r 4)
def pl85 (r:Nat):Option (Plan × List Nat) :=
 Bool.rec (
 Option.none) (some (.take 0 (.take 1 (.take 2 (.take 3 (.one 4 [1] (.take 5 (.one 6 [] (.done))))))),[0,1,2,3,4,5,6])) (Nat.beq r 5)
def pl105 (r:Nat):Option (Plan × List Nat) :=
 Bool.rec (
 Option.none) (some (.take 0 (.take 1 (.take 2 (.take 3 (.one 4 [1] (.take 5 (.one 6 [] (.done))))))),[0,1,2,3,4,5,6])) (Nat.beq r 5)
def pl106 (r:Nat):Option (Plan × List Nat) :=
 Bool.rec (
 Option.none) (some (.take 0 (.take 1 (.one 2 [1] (.one 3 [] (.done)))),[0,1,2,3])) (Nat.beq r 10)
def pl109 (r:Nat):Option (Plan × List Nat) :=
 Bool.rec (
 Option.none) (some (.take 0 (.take 1 (.take 2 (.take 3 (.take 4 (.take 5 (.take 6 (.take 7 (.take 8 (.take 9 (.one 10 [6,1] (.done))))))))))),[0,1,2,3,4,5,6,7,8,9,10])) (Nat.beq r 5)
def pl118 (r:Nat):Option (Plan × List Nat) :=
 Bool.rec (
 Option.none) (some (.take 0 (.take 1 (.take 2 (.take 3 (.one 4 [2] (.take 5 (.done)))))),[0,1,2,3,4,5])) (Nat.beq r 7)
def pl119 (r:Nat):Option (Plan × List Nat) :=
 Bool.rec (
 Option.none) (some (.take 0 (.take 1 (.take 2 (.take 3 (.take 4 (.take 5 (.take 6 (.take 7 (.take 8 (.take 9 (.take 10 (.take 11 (.take 12 (.take 13 (.take 14 (.take 15 (.take 16 (.take 17 (.take 18 (.take 19 (.take 20 (.take 21 (.take 22 (.take 23 (.take 24 (.done))))))))))))))))))))))))),[0,1,2,3,4,5,6,7,8,9,10,11,12,13,14,15,16,17,18,19,20,21,22,23,24])) (Nat.beq r 1)
def pl120 (r:Nat):Option (Plan × List Nat) :=
 Bool.rec (
 Option.none) (some (.take 0 (.take 1 (.take 2 (.take 3 (.take 4 (.take 5 (.take 6 (.take 7 (.one 8 [4,2] (.done))))))))),[0,1,2,3,4,5,6,7,8])) (Nat.beq r 7)
def pl123 (r:Nat):Option (Plan × List Nat) :=
 Bool.rec (
 Bool.rec (
 Bool.rec (
 Option.none) (some (.take 0 (.take 1 (.take 2 (.take 3 (.take 4 (.take 5 (.one 6 [1] (.take 7 (.one 8 [] (.take 9 (.one 10 [] (.done))))))))))),[0,1,2,3,4,5,6,7,8,9,10])) (Nat.beq r 13)) (some (.take 0 (.take 1 (.take 2 (.take 3 (.take 4 (.take 5 (.take 6 (.take 7 (.take 8 (.take 9 (.take 10 (.take 11 (.take 12 (.one 13 [11,6,4] (.take 14 (.take 15 (.take 16 (.one 17 [] (.one 18 [] (.take 19 (.done)))))))))))))))))))),[0,1,2,3,4,5,6,7,8,9,10,11,12,13,14,15,16,17,18,19])) (Nat.beq r 2)) (some (.take 0 (.take 1 (.take 2 (.take 3 (.take 4 (.take 5 (.take 6 (.take 7 (.take 8 (.take 9 (.take 10 (.take 11 (.take 12 (.take 13 (.take 14 (.done))))))))))))))),[0,1,2,3,4,5,6,7,8,9,10,11,12,13,14])) (Nat.beq r 1)
def pl127 (r:Nat):Option (Plan × List Nat) :=
 Bool.rec (
 Bool.rec (
 Bool.rec (
 Bool.rec (
 Option.none) (some (.take 0 (.take 1 (.take 2 (.take 3 (.take 4 (.take 5 (.take 6 (.one 7 [] (.done)))))))),[0,1,2,3,4,5,6,7])) (Nat.beq r 20)) (some (.take 0 (.take 1 (.take 2 (.take 3 (.take 4 (.take 5 (.take 8 (.take 9 (.one 6 [3] (.one 7 [3] (.one 10 [] (.take 11 (.take 13 (.take 14 (.two 12 [] (.one 15 [] (.done)) 15 [] (.one 12 [] (.done)))))))))))))))),[0,1,2,3,4,5,8,9,6,7,10,11,13,14,12,15])) (Nat.beq r 19)) (some (.take 0 (.take 1 (.take 2 (.take 3 (.take 4 (.take 5 (.take 6 (.take 7 (.take 8 (.take 9 (.one 10 [] (.one 11 [] (.done)))))))))))),[0,1,2,3,4,5,6,7,8,9,10,11])) (Nat.beq r 11)) (some (.take 0 (.take 1 (.take 2 (.take 3 (.take 4 (.take 5 (.take 6 (.take 7 (.take 8 (.take 9 (.take 10 (.take 11 (.one 12 [] (.one 13 [] (.done)))))))))))))),[0,1,2,3,4,5,6,7,8,9,10,11,12,13])) (Nat.beq r 8)
def pl143 (r:Nat):Option (Plan × List Nat) :=
 Bool.rec (
 Option.none) (some (.take 0 (.take 1 (.take 2 (.take 3 (.take 4 (.one 5 [1] (.take 6 (.one 7 [] (.take 8 (.one 9 [] (.done)))))))))),[0,1,2,3,4,5,6,7,8,9])) (Nat.beq r 12)
def pl144 (r:Nat):Option (Plan × List Nat) :=
 Bool.rec (
 Option.none) (some (.take 0 (.take 1 (.take 2 (.take 3 (.take 4 (.take 5 (.one 6 [2] (.one 7 [2] (.one 8 [] (.take 9 (.one 10 [] (.done))))))))))),[0,1,2,3,4,5,6,7,8,9,10])) (Nat.beq r 10)
def pl145 (r:Nat):Option (Plan × List Nat) :=
 Bool.rec (
 Option.none) (some (.take 0 (.take 1 (.take 2 (.take 3 (.take 4 (.take 5 (.take 6 (.take 7 (.one 8 [1] (.take 9 (.one 10 [] (.take 11 (.one 12 [] (.done))))))))))))),[0,1,2,3,4,5,6,7,8,9,10,11,12])) (Nat.beq r 18)
def pl146 (r:Nat):Option (Plan × List Nat) :=
 Bool.rec (
 Option.none) (some (.take 0 (.take 1 (.take 2 (.take 3 (.take 4 (.take 5 (.one 6 [] (.done))))))),[0,1,2,3,4,5,6])) (Nat.beq r 4)
def pl156 (r:Nat):Option (Plan × List Nat) :=
 Bool.rec (
 Option.none) (some (.take 0 (.take 1 (.take 2 (.take 3 (.take 4 (.take 5 (.take 6 (.take 7 (.take 8 (.take 9 (.one 10 [6,1] (.take 11 (.done)))))))))))),[0,1,2,3,4,5,6,7,8,9,10,11])) (Nat.beq r 1)
def pl161 (r:Nat):Option (Plan × List Nat) :=
 Bool.rec (
 Option.none) (some (.take 0 (.take 1 (.take 2 (.take 3 (.take 4 (.take 5 (.take 6 (.take 7 (.take 8 (.take 9 (.one 10 [7] (.take 11 (.take 12 (.take 13 (.one 14 [] (.done))))))))))))))),[0,1,2,3,4,5,6,7,8,9,10,11,12,13,14])) (Nat.beq r 3)
def pl162 (r:Nat):Option (Plan × List Nat) :=
 Bool.rec (
 Bool.rec (
 Bool.rec (
 Option.none) (some (.take 0 (.take 1 (.take 2 (.take 3 (.take 4 (.take 5 (.take 6 (.take 7 (.take 9 (.take 10 (.one 8 [10,4,2] (.one 11 [4,2] (.one 12 [4,2] (.one 13 [4,2] (.take 14 (.one 15 [] (.done)))))))))))))))),[0,1,2,3,4,5,6,7,9,10,8,11,12,13,14,15])) (Nat.beq r 38)) (some (.take 0 (.take 1 (.take 2 (.take 4 (.take 5 (.take 6 (.one 3 [5] (.one 7 [5] (.take 8 (.take 9 (.done)))))))))),[0,1,2,4,5,6,3,7,8,9])) (Nat.beq r 13)) (some (.take 0 (.take 1 (.take 2 (.take 4 (.take 5 (.take 6 (.one 3 [6] (.one 7 [] (.one 8 [] (.one 9 [] (.one 10 [] (.one 11 [] (.done)))))))))))),[0,1,2,4,5,6,3,7,8,9,10,11])) (Nat.beq r 3)
def pl163 (r:Nat):Option (Plan × List Nat) :=
 Bool.rec (
 Option.none) (some (.take 0 (.take 1 (.take 2 (.take 3 (.take 4 (.take 5 (.take 6 (.take 7 (.take 8 (.one 9 [5,1] (.take 10 (.take 11 (.take 12 (.done))))))))))))),[0,1,2,3,4,5,6,7,8,9,10,11,12])) (Nat.beq r 5)
def pl167 (r:Nat):Option (Plan × List Nat) :=
 Bool.rec (
 Option.none) (some (.take 0 (.take 1 (.take 2 (.take 3 (.take 4 (.take 5 (.take 6 (.take 7 (.take 8 (.take 9 (.take 10 (.take 11 (.take 12 (.one 13 [] (.take 14 (.take 15 (.take 16 (.done))))))))))))))))),[0,1,2,3,4,5,6,7,8,9,10,11,12,13,14,15,16])) (Nat.beq r 17)
def pl170 (r:Nat):Option (Plan × List Nat) :=
 Bool.rec (
 Bool.rec (
 Option.none) (some (.take 0 (.take 1 (.take 2 (.take 3 (.take 4 (.take 5 (.take 6 (.take 7 (.take 8 (.take 9 (.take 10 (.take 11 (.take 12 (.take 13 (.take 14 (.one 15 [] (.take 16 (.one 17 [] (.done)))))))))))))))))),[0,1,2,3,4,5,6,7,8,9,10,11,12,13,14,15,16,17])) (Nat.beq r 6)) (some (.take 0 (.take 1 (.take 2 (.take 3 (.take 4 (.take 5 (.take 6 (.take 7 (.take 8 (.take 9 (.take 10 (.take 11 (.take 12 (.take 13 (.one 14 [] (.take 15 (.take 16 (.done))))))))))))))))),[0,1,2,3,4,5,6,7,8,9,10,11,12,13,14,15,16])) (Nat.beq r 4)
def pl171 (r:Nat):Option (Plan × List Nat) :=
 Bool.rec (
 Option.none) (some (.take 0 (.take 1 (.take 2 (.take 3 (.take 4 (.take 5 (.take 6 (.take 7 (.take 8 (.take 9 (.take 10 (.take 11 (.take 12 (.take 13 (.take 14 (.take 15 (.take 16 (.one 17 [] (.take 18 (.one 19 [] (.done)))))))))))))))))))),[0,1,2,3,4,5,6,7,8,9,10,11,12,13,14,15,16,17,18,19])) (Nat.beq r 10)
def pl172 (r:Nat):Option (Plan × List Nat) :=
 Bool.rec (
 Option.none) (some (.take 0 (.take 1 (.take 2 (.take 3 (.take 4 (.take 5 (.take 6 (.take 7 (.take 8 (.take 9 (.take 10 (.take 11 (.take 12 (.take 13 (.take 14 (.take 15 (.take 16 (.one 17 [] (.take 18 (.one 19 [] (.done)))))))))))))))))))),[0,1,2,3,4,5,6,7,8,9,10,11,12,13,14,15,16,17,18,19])) (Nat.beq r 10)
def pl174 (r:Nat):Option (Plan × List Nat) :=
 Bool.rec (
 Option.none) (some (.take 0 (.take 1 (.take 2 (.take 3 (.take 4 (.take 5 (.take 6 (.take 7 (.take 8 (.take 9 (.take 10 (.take 11 (.take 12 (.one 13 [] (.take 14 (.one 15 [] (.done)))))))))))))))),[0,1,2,3,4,5,6,7,8,9,10,11,12,13,14,15])) (Nat.beq r 3)
def pl175 (r:Nat):Option (Plan × List Nat) :=
 Bool.rec (
 Bool.rec (
 Bool.rec (
 Bool.rec (
 Bool.rec (
 Bool.rec (
 Option.none) (some (.take 0 (.take 1 (.take 2 (.take 3 (.take 4 (.take 5 (.take 6 (.take 7 (.take 8 (.take 9 (.take 10 (.take 11 (.take 12 (.take 13 (.take 14 (.one 15 [] (.take 16 (.one 17 [] (.done)))))))))))))))))),[0,1,2,3,4,5,6,7,8,9,10,11,12,13,14,15,16,17])) (Nat.beq r 23)) (some (.take 0 (.take 1 (.take 2 (.take 3 (.take 4 (.take 5 (.take 6 (.take 7 (.take 8 (.take 9 (.one 10 [] (.take 11 (.take 12 (.done))))))))))))),[0,1,2,3,4,5,6,7,8,9,10,11,12])) (Nat.beq r 22)) (some (.take 0 (.take 1 (.take 2 (.take 3 (.take 4 (.take 5 (.take 6 (.take 7 (.take 8 (.take 9 (.take 10 (.take 11 (.take 12 (.take 13 (.take 14 (.one 15 [] (.take 16 (.one 17 [] (.done)))))))))))))))))),[0,1,2,3,4,5,6,7,8,9,10,11,12,13,14,15,16,17])) (Nat.beq r 17)) (some (.take 0 (.take 1 (.take 2 (.take 3 (.take 4 (.take 5 (.take 6 (.take 7 (.take 8 (.take 9 (.one 10 [] (.take 11 (.take 12 (.done))))))))))))),[0,1,2,3,4,5,6,7,8,9,10,11,12])) (Nat.beq r 16)) (some (.take 0 (.take 1 (.take 2 (.take 3 (.take 4 (.take 5 (.take 6 (.take 7 (.take 8 (.take 9 (.take 10 (.take 11 (.take 12 (.take 13 (.take 14 (.one 15 [] (.take 16 (.one 17 [] (.done)))))))))))))))))),[0,1,2,3,4,5,6,7,8,9,10,11,12,13,14,15,16,17])) (Nat.beq r 11)) (some (.take 0 (.take 1 (.take 2 (.take 3 (.take 4 (.take 5 (.take 6 (.take 7 (.take 8 (.take 9 (.take 10 (.take 11 (.take 12 (.take 13 (.one 14 [] (.take 15 (.take 16 (.take 17 (.done)))))))))))))))))),[0,1,2,3,4,5,6,7,8,9,10,11,12,13,14,15,16,17])) (Nat.beq r 5)
def pl176 (r:Nat):Option (Plan × List Nat) :=
 Bool.rec (
 Bool.rec (
 Bool.rec (
 Bool.rec (
 Option.none) (some (.take 0 (.take 1 (.take 2 (.take 3 (.take 4 (.take 5 (.take 6 (.take 7 (.take 8 (.take 9 (.take 10 (.take 11 (.take 12 (.one 13 [] (.take 14 (.one 15 [] (.done)))))))))))))))),[0,1,2,3,4,5,6,7,8,9,10,11,12,13,14,15])) (Nat.beq r 8)) (some (.take 0 (.take 1 (.take 2 (.take 3 (.take 4 (.take 5 (.take 6 (.take 7 (.take 8 (.take 9 (.take 10 (.take 11 (.take 12 (.one 13 [] (.take 14 (.take 15 (.done)))))))))))))))),[0,1,2,3,4,5,6,7,8,9,10,11,12,13,14,15])) (Nat.beq r 5)) (some (.take 0 (.take 1 (.take 2 (.take 3 (.take 4 (.take 5 (.take 6 (.take 7 (.take 8 (.take 9 (.take 10 (.take 11 (.take 12 (.one 13 [] (.take 14 (.take 15 (.take 16 (.done))))))))))))))))),[0,1,2,3,4,5,6,7,8,9,10,11,12,13,14,15,16])) (Nat.beq r 3)) (some (.take 0 (.take 1 (.take 2 (.take 3 (.take 4 (.take 5 (.take 6 (.take 7 (.take 8 (.take 9 (.take 10 (.take 11 (.take 12 (.one 13 [] (.take 14 (.one 15 [] (.done)))))))))))))))),[0,1,2,3,4,5,6,7,8,9,10,11,12,13,14,15])) (Nat.beq r 1)
def pl177 (r:Nat):Option (Plan × List Nat) :=
 Bool.rec (
 Bool.rec (
 Bool.rec (
 Bool.rec (
 Bool.rec (
 Bool.rec (
 Bool.rec (
 Bool.rec (
 Bool.rec (
 Option.none) (some (.take 0 (.take 1 (.take 2 (.take 3 (.take 4 (.take 5 (.take 6 (.take 7 (.take 8 (.take 9 (.take 10 (.take 11 (.take 12 (.one 13 [] (.take 14 (.one 15 [] (.done)))))))))))))))),[0,1,2,3,4,5,6,7,8,9,10,11,12,13,14,15])) (Nat.beq r 21)) (some (.take 0 (.take 1 (.take 2 (.take 3 (.take 4 (.take 5 (.take 6 (.take 7 (.take 8 (.take 9 (.take 10 (.take 11 (.take 12 (.one 13 [] (.take 14 (.one 15 [] (.done)))))))))))))))),[0,1,2,3,4,5,6,7,8,9,10,11,12,13,14,15])) (Nat.beq r 18)) (some (.take 0 (.take 1 (.take 2 (.take 3 (.take 4 (.take 5 (.take 6 (.take 7 (.take 8 (.take 9 (.take 10 (.take 11 (.take 12 (.one 13 [] (.take 14 (.take 15 (.take 16 (.done))))))))))))))))),[0,1,2,3,4,5,6,7,8,9,10,11,12,13,14,15,16])) (Nat.beq r 15)) (some (.take 0 (.take 1 (.take 2 (.take 3 (.take 4 (.take 5 (.take 6 (.take 7 (.take 8 (.take 9 (.take 10 (.take 11 (.take 12 (.one 13 [] (.take 14 (.take 15 (.done)))))))))))))))),[0,1,2,3,4,5,6,7,8,9,10,11,12,13,14,15])) (Nat.beq r 13)) (some (.take 0 (.take 1 (.take 2 (.take 3 (.take 4 (.take 5 (.take 6 (.take 7 (.take 8 (.take 9 (.take 10 (.take 11 (.take 12 (.one 13 [] (.take 14 (.one 15 [] (.done)))))))))))))))),[0,1,2,3,4,5,6,7,8,9,10,11,12,13,14,15])) (Nat.beq r 10)) (some (.take 0 (.take 1 (.take 2 (.take 3 (.take 4 (.take 5 (.take 6 (.take 7 (.take 8 (.take 9 (.take 10 (.take 11 (.take 12 (.one 13 [] (.take 14 (.one 15 [] (.done)))))))))))))))),[0,1,2,3,4,5,6,7,8,9,10,11,12,13,14,15])) (Nat.beq r 8)) (some (.take 0 (.take 1 (.take 2 (.take 3 (.take 4 (.take 5 (.take 6 (.take 7 (.take 8 (.take 9 (.take 10 (.take 11 (.take 12 (.one 13 [] (.take 14 (.take 15 (.take 16 (.done))))))))))))))))),[0,1,2,3,4,5,6,7,8,9,10,11,12,13,14,15,16])) (Nat.beq r 5)) (some (.take 0 (.take 1 (.take 2 (.take 3 (.take 4 (.take 5 (.take 6 (.take 7 (.take 8 (.take 9 (.take 10 (.take 11 (.take 12 (.one 13 [] (.take 14 (.take 15 (.done)))))))))))))))),[0,1,2,3,4,5,6,7,8,9,10,11,12,13,14,15])) (Nat.beq r 3)) (some (.take 0 (.take 1 (.take 2 (.take 3 (.take 4 (.take 5 (.take 6 (.take 7 (.take 8 (.take 9 (.take 10 (.take 11 (.take 12 (.one 13 [] (.take 14 (.one 15 [] (.done)))))))))))))))),[0,1,2,3,4,5,6,7,8,9,10,11,12,13,14,15])) (Nat.beq r 1)
def pl181 (r:Nat):Option (Plan × List Nat) :=
 Bool.rec (
 Bool.rec (
 Bool.rec (
 Option.none) (some (.take 0 (.take 1 (.take 2 (.take 3 (.take 4 (.take 5 (.take 6 (.take 7 (.take 8 (.take 9 (.take 10 (.take 11 (.take 12 (.take 13 (.take 14 (.take 15 (.take 16 (.take 17 (.take 18 (.take 19 (.take 20 (.one 21 [] (.take 22 (.one 23 [] (.done)))))))))))))))))))))))),[0,1,2,3,4,5,6,7,8,9,10,11,12,13,14,15,16,17,18,19,20,21,22,23])) (Nat.beq r 6)) (some (.take 0 (.take 1 (.take 2 (.take 3 (.take 4 (.take 5 (.take 6 (.take 7 (.take 8 (.take 9 (.take 10 (.take 11 (.take 12 (.one 13 [] (.take 14 (.take 15 (.done)))))))))))))))),[0,1,2,3,4,5,6,7,8,9,10,11,12,13,14,15])) (Nat.beq r 5)) (some (.take 0 (.take 1 (.take 2 (.take 3 (.take 4 (.take 5 (.take 6 (.take 7 (.take 8 (.take 9 (.take 10 (.take 11 (.take 12 (.take 13 (.take 14 (.take 15 (.take 16 (.take 17 (.take 18 (.one 19 [] (.take 20 (.take 21 (.done)))))))))))))))))))))),[0,1,2,3,4,5,6,7,8,9,10,11,12,13,14,15,16,17,18,19,20,21])) (Nat.beq r 3)
def pl183 (r:Nat):Option (Plan × List Nat) :=
 Bool.rec (
 Bool.rec (
 Bool.rec (
 Option.none) (some (.take 0 (.take 1 (.take 2 (.take 3 (.take 4 (.take 5 (.take 6 (.take 7 (.take 8 (.one 9 [] (.done)))))))))),[0,1,2,3,4,5,6,7,8,9])) (Nat.beq r 3)) (some (.take 0 (.take 1 (.take 2 (.take 3 (.take 4 (.take 5 (.take 6 (.take 7 (.take 8 (.one 9 [] (.done)))))))))),[0,1,2,3,4,5,6,7,8,9])) (Nat.beq r 2)) (some (.take 0 (.take 1 (.take 2 (.take 3 (.take 4 (.take 5 (.take 6 (.take 7 (.take 8 (.one 9 [] (.done)))))))))),[0,1,2,3,4,5,6,7,8,9])) (Nat.beq r 1)
def pl186 (r:Nat):Option (Plan × List Nat) :=
 Bool.rec (
 Option.none) (some (.take 0 (.take 1 (.take 2 (.take 3 (.take 4 (.take 5 (.take 6 (.take 7 (.take 8 (.one 9 [] (.take 10 (.done))))))))))),[0,1,2,3,4,5,6,7,8,9,10])) (Nat.beq r 1)
def qN:Nat→Option (Plan × List Nat):=fun _=>Option.none
def plL:List (Nat→Option (Plan × List Nat)):=[qN,qN,qN,qN,qN,qN,qN,qN,qN,qN,qN,qN,qN,pl13,qN,pl15,qN,qN,qN,qN,qN,qN,qN,qN,qN,qN,qN,qN,qN,qN,qN,pl31,qN,qN,qN,qN,qN,qN,qN,qN,qN,qN,qN,pl43,qN,qN,qN,qN,qN,qN,qN,qN,qN,qN,qN,qN,qN,qN,pl58,qN,qN,pl61,qN,qN,qN,qN,qN,qN,qN,qN,qN,qN,qN,qN,qN,qN,qN,qN,qN,pl79,pl80,pl81,qN,qN,qN,pl85,qN,qN,qN,qN,qN,qN,qN,qN,qN,qN,qN,qN,qN,qN,qN,qN,qN,qN,qN,pl105,pl106,qN,qN,pl109,qN,qN,qN,qN,qN,qN,qN,qN,pl118,pl119,pl120,qN,qN,pl123,qN,qN,qN,pl127,qN,qN,qN,qN,qN,qN,qN,qN,qN,qN,qN,qN,qN,qN,qN,pl143,pl144,pl145,pl146,qN,qN,qN,qN,qN,qN,qN,qN,qN,pl156,qN,qN,qN,qN,pl161,pl162,pl163,qN,qN,qN,pl167,qN,qN,pl170,pl171,pl172,qN,pl174,pl175,pl176,pl177,qN,qN,qN,pl181,qN,pl183,qN,qN,pl186]
def planT (f r:Nat):Option (Plan × List Nat):=List.rec (motive:=fun _=>Option (Plan × List Nat)) Option.none (fun g _ _=>g r) (z2s f plL)
end
end Go.Proofs.YthkjmiejaoomcaaGreat.Am
namespace Go.Proofs.YthkjmiejaoomcaaGreat.Am
open Go Go.RowKit Go.Proofs
set_option linter.unusedVariables false
set_option linter.unusedSimpArgs false
set_option maxRecDepth 20000
noncomputable def toAS (rd:Option Nat) (s:St):AS:=⟨envT s.τ,hpT s.H,s.n,s.ds,rd⟩
def Fails (o:Out):Prop:=∃ f r i,Leaf (.fail f r i) o
def IsX (rd:Option Nat) (o:Out):KS
 |.normal,s=>∃ t,Leaf (.norm t) o∧s=toAS rd t
 |.exit i,s=>∃ t,Leaf (.exit i t) o∧s=toAS rd t
 |.ret,s=>∃ t,Leaf (.ret t) o∧s=toAS rd t
 |.panic v,s=>∃ t,Leaf (.panic v t) o∧s=toAS rd t
theorem Fails.sub {a o:Out} (h:Sub a o) (hf:Fails a):Fails o:=let ⟨f,r,i,hl⟩:=hf;⟨f,r,i,h _ hl⟩
theorem IsX.sub {rd:Option Nat} {a o:Out} (h:Sub a o) {e:yEv} {s:AS} (hx:IsX rd a e s):IsX rd o e s:=by
 cases e with
 |normal=>obtain ⟨t,hl,hs⟩:=hx;exact ⟨t,h _ hl,hs⟩
 |exit i=>obtain ⟨t,hl,hs⟩:=hx;exact ⟨t,h _ hl,hs⟩
 |ret=>obtain ⟨t,hl,hs⟩:=hx;exact ⟨t,h _ hl,hs⟩
 |panic v=>obtain ⟨t,hl,hs⟩:=hx;exact ⟨t,h _ hl,hs⟩
def IsV (o:Out):AOut→zAd→Nat→Prop
 |.ret v,h,n=>∃ H,o=.val v H n∧h=hpT H
 |.panic v,h,n=>∃ H,o=.thr v H n∧h=hpT H
def zMt (call:zJu):Prop:=∀ f args H n,Fails (call f args H n)∨zU0 Tryz.prog f args (hpT H) n (IsV (call f args H n))
theorem zAt (f r i:Nat):Fails (.fail f r i):=⟨f,r,i,rfl⟩
noncomputable def putT (d:Option Nat) (v:AV) (τ:Tr AV):Tr AV:=match d with
 |Option.none=>τ
 |some d=>setP (some v) (bits d) τ
theorem zM9 (d:Option Nat) (v:AV) (τ:Tr AV) (k:Tr AV→Out):rPut d v τ k=k (putT d v τ):=by
 cases d with
 |none=>rfl
 |some d=>exact zBw _ _ _ _
theorem zF3 (d:Option Nat) (v:AV) (τ:Tr AV):envT (putT d v τ)=aPut (envT τ) d v:=by
 cases d with
 |none=>rfl
 |some d=>exact zOz τ d v
theorem yGy (d:Option Nat) (F:OpF) (err:Out) (s:St) (k:St→Out) (pan:AV→St→Out):rX d F err s k pan=F err s.τ s.H s.n fun v H n=>k ⟨putT d v s.τ,H,n,s.ds⟩:=by
 obtain ⟨τ,H,n,ds⟩:=s
 show (F err τ H n fun v H n=>rPut d v τ fun τ=>k ⟨τ,H,n,ds⟩)=_
 simp only [zM9]
def zKq (rd:Option Nat) (o:Out) (k:St→Out):AS→Prop:=fun s'=>∃ t,s'=toAS rd t∧Sub (k t) o
def zZ9 (rd:Option Nat) (o:Out) (pan:AV→St→Out):AV→AS→Prop:=fun v s'=>∃ t,s'=toAS rd t∧Sub (pan v t) o
def zRh (rd:Option Nat) (o:Oper) (R:RunF):Prop:=∀ err s k pan,Fails err→Fails (R err s k pan)∨amOp Tryz.prog o (toAS rd s) (zKq rd (R err s k pan) k) (zZ9 rd (R err s k pan) pan)
theorem yE1 (op:Op) (hn:∀ x,op≠.next x false):XS op (xop op):=by
 cases op <;> first
  |exact yFu _|exact z5d _|exact yFs _ _ _|exact yBc _|exact yJq _ _|exact yFv _ _|exact zTd _ _ _
  |exact zVb _ _ _|exact zVa _ _ _|exact yBb _ _|exact zTe _ _ _|exact yJr _ _ _ _ _|exact z2p _ _
  |exact zX8 _ _ _|exact zU8 _ _ _ _|exact zU9 _ _ _|exact yA9 _ _ _ _ _|exact yBa _ _|skip
 all_goals try exact zU7 _
 case unOp op T x=>cases op <;> first|exact yJp _ _|exact zU7 _
 case makeMap T r=>cases r <;> first|exact z2o _|exact zU7 _
 case next x b =>
  cases b with
  |true=>exact zU7 _
  |false=>exact absurd rfl (hn x)
theorem yGi {rd:Option Nat} {o:Oper} {F:OpF} {s:St} {k:St→Out} {pan:AV→St→Out} {err:Out} (hF:∀ k',F err s.τ s.H s.n k'=err∨∃ v H',aop Tryz.prog o.op (zAx (envT s.τ)) (hpT s.H) s.n=some (v,hpT H')∧F err s.τ s.H s.n k'=k' v H' (s.n+bif zBm o.op then 1 else 0)) (he:Fails err) :
  Fails (rX o.dst F err s k pan)∨zI1 Tryz.prog o (toAS rd s) (zKq rd (rX o.dst F err s k pan) k):=by
 rw [yGy]
 rcases hF (fun v H n=>k ⟨putT o.dst v s.τ,H,n,s.ds⟩) with h|⟨v,H',h1,h2⟩
 ·exact .inl (by rw [h];exact he)
 ·refine .inr fun _=>?_
  show (match aop Tryz.prog o.op (zAx (envT s.τ)) (hpT s.H) s.n with|some (v,h')=>_|Option.none=>False)
  rw [h1]
  exact ⟨⟨putT o.dst v s.τ,H',_,s.ds⟩,by simp only [toAS,zF3],Sub.of_eq h2⟩
theorem z6r {rd:Option Nat} {o:Oper} (hq:∀ x,o.op≠.next x false) (hcl:∀ c,o.op≠.call c) (hp:∀ x,o.op≠.panic x) (hd:∀ c,o.op≠.defer c):zRh rd o (rX o.dst (xop o.op)):=by
 intro err s k pan he
 rcases yGi (rd:=rd) (o:=o) (k:=k) (pan:=pan) (fun k'=>yE1 o.op hq err s.τ s.H s.n k') he with h|h
 ·exact .inl h
 ·refine .inr ?_
  unfold amOp
  split
  ·rename_i hop;exact absurd hop (hcl _)
  ·rename_i hop;exact absurd hop (hp _)
  ·rename_i hop;exact absurd hop (hd _)
  ·rename_i hop;exact absurd hop (hq _)
  ·exact h
theorem z6t {rd:Option Nat} {o:Oper} {x:Operand} (hop:o.op=.next x false):zRh rd o (rX o.dst (z3k x)):=by
 intro err s k pan he
 rw [yGy]
 rcases yFt x err s.τ s.H s.n (fun v H n=>k ⟨putT o.dst v s.τ,H,n,s.ds⟩) with h|h
 ·exact .inl (by rw [h];exact he)
 ·refine .inr ?_
  unfold amOp
  rw [hop]
  exact h _ fun v H' hs=>⟨⟨putT o.dst v s.τ,H',s.n,s.ds⟩,by simp only [toAS,zF3],hs⟩
theorem zOr {rd:Option Nat} {o:Oper}:zRh rd o z7e:=fun err s k pan he=>.inl he
theorem zYs {rd:Option Nat} {o:Oper} {own:Bool} {c:Call} {b:Builtin} (hop:o.op=.call c) (hc:c.callee=.builtin b):zRh rd o (z00 own o.dst c b):=by
 have key:b≠.recover→zRh rd o (rX o.dst (zHi own b c)):=by
  intro hb err s k pan he
  rw [yGy]
  rcases z2q own b c hc err s.τ s.H s.n (fun v H n=>k ⟨putT o.dst v s.τ,H,n,s.ds⟩) with h|⟨v,H',h1,h2⟩
  ·exact .inl (by rw [h];exact he)
  ·refine .inr ?_
   have fin:∀ m,(m=s.n+bif zBm (.call c) then 1 else 0)→zKq rd (zHi own b c err s.τ s.H s.n fun v H n=>k ⟨putT o.dst v s.τ,H,n,s.ds⟩) k ⟨aPut (envT s.τ) o.dst v,hpT H',m,s.ds,rd⟩:=by
    intro m hm
    subst hm
    exact ⟨⟨putT o.dst v s.τ,H',_,s.ds⟩,by simp only [toAS,zF3],Sub.of_eq h2⟩
   have goal:zI1 Tryz.prog o (toAS rd s) (zKq rd (zHi own b c err s.τ s.H s.n fun v H n=>k ⟨putT o.dst v s.τ,H,n,s.ds⟩) k)∨zGp Tryz.prog c o.dst (toAS rd s) (zKq rd (zHi own b c err s.τ s.H s.n fun v H n=>k ⟨putT o.dst v s.τ,H,n,s.ds⟩) k):=by
    rcases h1 with h1|⟨tS,tX,q,x,hb',hts,hxs,h1⟩
    ·refine .inl fun _=>?_
     show (match aop Tryz.prog o.op (zAx (envT s.τ)) (hpT s.H) s.n with|some (v,h')=>_|Option.none=>False)
     have:aop Tryz.prog o.op (zAx (envT s.τ)) (hpT s.H) s.n=some (v,hpT H'):=by rw [hop];simp only [aop,hc];exact h1
     rw [this]
     exact fin _ (by rw [hop];rfl)
    ·refine .inr ?_
     subst hb'
     unfold zGp
     rw [hc,hts,hxs]
     intro _
     show (match aOwn Tryz.prog tS tX (zAx (envT s.τ) q) (unSl Tryz.prog (hpT s.H) (zAx (envT s.τ) x)) (hpT s.H) s.n with|some (v,h')=>_|Option.none=>False)
     rw [h1]
     exact fin _ (by simp only [zBm,hc,cond_true];rfl)
   unfold amOp
   rw [hop]
   simp only
   split
   ·rename_i hc';rw [hc] at hc';injection hc' with hc';exact absurd hc' hb
   ·exact goal
   ·rename_i hc';rw [hc] at hc';cases hc'
   ·rename_i hc';rw [hc] at hc';cases hc'
 cases b <;> first|exact zOr|exact key (by intro h;cases h)
theorem yB3 {rd:Option Nat} {o:Oper} {c:Call} {f:Operand} {call:zJu} (hcall:zMt call) (hop:o.op=.call c) (hc:c.callee=.value f):zRh rd o (yLp call o.dst f c.args):=by
 intro err s k pan he
 obtain ⟨τ,H,n,ds⟩:=s
 show Fails (zQ1 o.dst err τ ds k pan (call (ev f τ) (evL c.args.toList τ) H n))∨amOp Tryz.prog o _ (zKq rd (zQ1 o.dst err τ ds k pan (call (ev f τ) (evL c.args.toList τ) H n)) k) (zZ9 rd (zQ1 o.dst err τ ds k pan (call (ev f τ) (evL c.args.toList τ) H n)) pan)
 have hk:=hcall (ev f τ) (evL c.args.toList τ) H n
 generalize call (ev f τ) (evL c.args.toList τ) H n=out at hk ⊢
 rcases hk with hk|hk
 ·refine .inl ?_
  cases out with
  |fail a b i=>exact zAt _ _ _
  |val v H n=>obtain ⟨_,_,_,h⟩:=hk;cases h
  |thr v H n=>obtain ⟨_,_,_,h⟩:=hk;cases h
  |_=>exact he
 have hok:∀ {o'},o'=zQ1 o.dst err τ ds k pan out→Fails o'∨amOp Tryz.prog o (toAS rd ⟨τ,H,n,ds⟩) (zKq rd o' k) (zZ9 rd o' pan):=by
  intro o' ho'
  refine .inr ?_
  unfold amOp
  rw [hop]
  simp only
  split
  ·rename_i hc';rw [hc] at hc';cases hc'
  ·rename_i hc';rw [hc] at hc';cases hc'
  ·rename_i f' hc'
   rw [hc] at hc'
   injection hc' with hc'
   subst hc'
   rw [zFx,z9t] at hk
   refine zTb hk fun ao h' n' hq=>?_
   cases ao with
   |ret v =>
    obtain ⟨H',rfl,rfl⟩:=hq
    refine ⟨⟨putT o.dst v τ,H',n',ds⟩,by simp only [toAS,zF3],?_⟩
    rw [ho']
    refine Sub.of_eq ?_
    show rPut o.dst v τ (fun τ=>k ⟨τ,H',n',ds⟩)=_
    rw [zM9]
   |panic v =>
    obtain ⟨H',rfl,rfl⟩:=hq
    exact ⟨⟨τ,H',n',ds⟩,rfl,Sub.of_eq ho'⟩
  ·rename_i hc';rw [hc] at hc';cases hc'
 exact hok rfl
theorem z6s {rd:Option Nat} {o:Oper} {x:Operand} (hop:o.op=.panic x):zRh rd o (z7d x):=by
 intro err s k pan he
 unfold z7d
 rw [zFx]
 have key:∀ v,v=zAx (envT s.τ) x→Fails (panA v err s pan)∨amOp Tryz.prog o (toAS rd s) (zKq rd (panA v err s pan) k) (zZ9 rd (panA v err s pan) pan):=by
  intro v hv
  cases v with
  |iface t y =>
   refine .inr ?_
   unfold amOp
   rw [hop]
   show zX2 (zAx (envT s.τ) x) (hpT s.H) _
   rw [← hv]
   exact ⟨s,rfl,Sub.refl _⟩
  |_=>exact .inl he
 exact key _ rfl
theorem z6u {rd:Option Nat} {o:Oper} {c:Call} {f:Operand} (hop:o.op=.defer c) (hc:c.callee=.value f):zRh rd o (z7f rd o.dst f c.args):=by
 intro err s k pan he
 obtain ⟨τ,H,n,ds⟩:=s
 cases rd with
 |some l=>exact .inl he
 |none =>
  show Fails (defA (ev f τ) err fun v=>zQp (evL c.args.toList τ) fun l=>rPut o.dst (.tuple []) τ fun τ=>k ⟨τ,H,n,.fn v l::ds⟩)∨amOp Tryz.prog o _ (zKq Option.none (defA (ev f τ) err fun v=>zQp (evL c.args.toList τ) fun l=>rPut o.dst (.tuple []) τ fun τ=>k ⟨τ,H,n,.fn v l::ds⟩) k) _
  simp only [zQo,zM9]
  rw [zFx,z9t]
  have key:∀ v,v=zAx (envT τ) f→Fails (defA v err fun v=>k ⟨putT o.dst (.tuple []) τ,H,n,.fn v (c.args.toList.map (zAx (envT τ)))::ds⟩)∨amOp Tryz.prog o (toAS Option.none ⟨τ,H,n,ds⟩) (zKq Option.none (defA v err fun v=>k ⟨putT o.dst (.tuple []) τ,H,n,.fn v (c.args.toList.map (zAx (envT τ)))::ds⟩) k)
    (zZ9 Option.none (z7f Option.none o.dst f c.args err ⟨τ,H,n,ds⟩ k pan) pan):=by
   intro v hv
   cases v with
   |func fn a b =>
    refine .inr ?_
    unfold amOp
    rw [hop]
    simp only
    rw [hc]
    refine ⟨rfl,⟨fn,a,b,hv.symm⟩,⟨⟨putT o.dst (.tuple []) τ,H,n,.fn (.func fn a b) (c.args.toList.map (zAx (envT τ)))::ds⟩,?_,Sub.refl _⟩⟩
    simp only [toAS,zF3,← hv]
   |_=>exact .inl he
  exact key _ rfl
theorem z0y {call:zJu} (hcall:zMt call) (own:Bool) (rd:Option Nat) (o:Oper):zRh rd o (zTr call own rd o.dst o.op):=by
 obtain ⟨d,op,ty,ps,af,g⟩:=o
 cases op
 case call c =>
  show zRh rd _ (z7g call own d c c.callee)
  cases hc:c.callee with
  |builtin b=>exact zYs (o:=⟨d,.call c,ty,ps,af,g⟩) rfl hc
  |value f=>exact yB3 (o:=⟨d,.call c,ty,ps,af,g⟩) hcall rfl hc
  |invoke a b=>exact zOr
 case panic x=>exact z6s rfl
 case defer c =>
  show zRh rd _ (z0z rd d c c.callee)
  cases hc:c.callee with
  |value f=>exact z6u (o:=⟨d,.defer c,ty,ps,af,g⟩) rfl hc
  |builtin b=>exact zOr
  |invoke a b=>exact zOr
 case next x b =>
  cases b with
  |false=>exact z6t (o:=⟨d,.next x false,ty,ps,af,g⟩) rfl
  |true=>exact z6r (by intro x h;cases h) (by intro c h;cases h) (by intro x h;cases h) (by intro c h;cases h)
 all_goals exact z6r (by intro x h;cases h) (by intro c h;cases h) (by intro x h;cases h) (by intro c h;cases h)
theorem zTs (d:Option Nat) (err:Out) (s:St) (k:St→Out) (pan:AV→St→Out):z3d d err s k pan=k ⟨putT d (.tuple []) s.τ,s.H,s.n,s.ds⟩:=by
 obtain ⟨τ,H,n,ds⟩:=s
 exact zM9 _ _ _ _
theorem z4d (w:Bool) (v:AV) (go skip:RunF) (err:Out) (s:St) (k:St→Out) (pan:AV→St→Out) :
  (gSel w v go skip err s k pan=err)∨((match v with|.bool b=>some (b==w)|.tuple _=>some false|_=>Option.none)=some true∧gSel w v go skip=go)∨((match v with|.bool b=>some (b==w)|.tuple _=>some false|_=>Option.none)=some false∧gSel w v go skip=skip):=by
 cases v with
 |bool b=>cases b <;> cases w <;> first|exact .inr (.inl ⟨rfl,rfl⟩)|exact .inr (.inr ⟨rfl,rfl⟩)
 |tuple l=>exact .inr (.inr ⟨rfl,rfl⟩)
 |_=>exact .inl rfl
theorem zK3 (d:Option Nat) (g:GT) (run skip:RunF) (err:Out) (s:St) (k:St→Out) (pan:AV→St→Out) (G:RunF) (hG:G=match g with|.go=>run|.off=>skip|.at_ t w=>fun err s k pan=>gSel w (evT t s.τ) run skip err s k pan) :
  G err s k pan=err∨(zDa g (envT s.τ)=some true∧G err s k pan=run err s k pan)∨(zDa g (envT s.τ)=some false∧G err s k pan=skip err s k pan):=by
 subst hG
 cases g with
 |go=>exact .inr (.inl ⟨rfl,rfl⟩)
 |off=>exact .inr (.inr ⟨rfl,rfl⟩)
 |at_ t w =>
  rcases z4d w (evT t s.τ) run skip err s k pan with h|⟨h1,h2⟩|⟨h1,h2⟩
  ·exact .inl h
  ·exact .inr (.inl ⟨h1,by simp only [h2]⟩)
  ·exact .inr (.inr ⟨h1,by simp only [h2]⟩)
theorem zW7 (τ:Tr AV):∀ l:List Oper,envT (zY2 l τ)=fun t=>bif l.any (fun o=>o.dst==some t) then .any else envT τ t
 |[]=>rfl
 |o::l=>by
  have ih:=zW7 τ l
  funext t
  rw [List.any_cons]
  cases hd:o.dst with
  |none =>
   have:zY2 (o::l) τ=zY2 l τ:=by show Option.rec (motive:=fun _=>Tr AV) _ _ o.dst=_;rw [hd];rfl
   rw [this,ih]
   simp
  |some d =>
   have:zY2 (o::l) τ=setP (some .any) (bits d) (zY2 l τ):=by show Option.rec (motive:=fun _=>Tr AV) _ _ o.dst=_;rw [hd];rfl
   rw [this,zOz,ih]
   simp only [eupd]
   by_cases e:t=d
   ·subst e;simp
   ·have h1:(t==d)=false:=by simpa using e
    have h2:(some d==some t)=false:=by simpa using fun h:d=t=>e h.symm
    rw [h1,h2];simp
theorem z7l {rd:Option Nat} {ops:Array Oper} {v:AV} {s:AS} {o:Out} {K:KS} (hK:∀ e s',IsX rd o e s'→K e s') (h:zZ9 rd o (panX ops) v s):panK ops K v s:=by
 obtain ⟨⟨τ,H,n,ds⟩,rfl,ho⟩:=h
 exact hK _ _ ⟨⟨zY2 ops.toList τ,H,n,ds⟩,ho _ rfl,by simp only [toAS,zW7];rfl⟩
theorem yGn {call:zJu} (hcall:zMt call) (own:Bool) (fr:Fr) (id:Nat) (ops:Array Oper):∀ (l:List Oper) (s:St) (K:KS),
  ¬ Fails (seqX call own fr id ops (zAm ops.toList l) s)→(∀ e s',IsX fr.rd (seqX call own fr id ops (zAm ops.toList l) s) e s'→K e s')→zJt Tryz.prog ops l K (toAS fr.rd s):=by
 intro l
 induction l with
 |nil=>intro s K hf hK;exact hK .normal _ ⟨s,rfl,rfl⟩
 |cons o l ih =>
  intro s K hf hK
  have he:Fails (.fail fr.f id (dN o.dst)):=zAt _ _ _
  have hx:seqX call own fr id ops (zAm ops.toList (o::l)) s=stepG o.dst (gtOf ops.toList o.guard) (zTr call own fr.rd o.dst o.op) (.fail fr.f id (dN o.dst)) s (seqX call own fr id ops (zAm ops.toList l)) (panX ops):=rfl
  have hg:=zK3 o.dst (gtOf ops.toList o.guard) (zTr call own fr.rd o.dst o.op) (z3d o.dst) (.fail fr.f id (dN o.dst)) s (seqX call own fr id ops (zAm ops.toList l)) (panX ops) (stepG o.dst (gtOf ops.toList o.guard) (zTr call own fr.rd o.dst o.op)) (by cases gtOf ops.toList o.guard <;> rfl)
  rw [← hx] at hg
  rcases hg with h|⟨hw,h⟩|⟨hw,h⟩
  ·exact absurd (h ▸ he) hf
  ·rcases z0y hcall own fr.rd o _ s (seqX call own fr id ops (zAm ops.toList l)) (panX ops) he with h2|h2
   ·exact absurd (h ▸ h2) hf
   ·rw [← h] at h2
    simp only [zJt]
    rw [zEq]
    show match zDa (gtOf ops.toList o.guard) (envT s.τ) with|some true=>_|some false=>_|Option.none=>_
    rw [hw]
    refine zMj (ops:=#[]) (s:=toAS fr.rd s) ⟨rfl,rfl,rfl,rfl⟩ (fun _ _=>rfl) (fun v h' n' ds' hk=>?_) (fun v h' n' ds' hk=>z7l hK hk) h2
    obtain ⟨t,ht,ho⟩:=hk
    show zJt Tryz.prog ops l _ _
    rw [ht]
    exact ih t K (fun h3=>hf (h3.sub ho)) fun e s' hx=>hK e s' (hx.sub ho)
  ·rw [zTs] at h
   simp only [zJt]
   rw [zEq]
   show match zDa (gtOf ops.toList o.guard) (envT s.τ) with|some true=>_|some false=>_|Option.none=>_
   rw [hw]
   have:toAS fr.rd ⟨putT o.dst (.tuple []) s.τ,s.H,s.n,s.ds⟩={ toAS fr.rd s with τ:=aPut (toAS fr.rd s).τ o.dst (.tuple []) }:=by simp only [toAS,zF3]
   rw [← this]
   exact ih _ K (fun h3=>hf (h ▸ h3)) fun e s' hx=>hK e s' (h ▸ hx)
end Go.Proofs.YthkjmiejaoomcaaGreat.Am
namespace Go.Proofs.YthkjmiejaoomcaaGreat.Am
open Go Go.RowKit Go.Proofs
set_option linter.unusedVariables false
set_option linter.unusedSimpArgs false
set_option maxRecDepth 20000
theorem zGd {f:AV→AV→Bool} (hf:∀ a b,f a b=true→a=b):∀ (l m:List AV),leq f l m=true→l=m
 |[],[],_=>rfl
 |[],b::m,h=>by cases h
 |a::l,[],h=>by cases h
 |a::l,b::m,h=>by
  simp only [leq] at h
  rw [brec] at h
  split at h
  ·rename_i h1
   rw [hf a b h1,zGd hf l m h]
  ·cases h
theorem zZ3 (a b:AV) (h:yIv a b=true):a=b:=by
 unfold yIv at h
 split at h
 ·rfl
 ·rfl
 ·rw [zB0.1 h]
 ·rename_i x y;cases x <;> cases y <;> first|rfl|cases h
 ·rw [Bool.and_eq_true,yFh,z1o] at h
  rw [h.1,eq_of_beq h.2]
 ·rename_i x y
  rw [z0n] at h
  have:=eq_of_beq h
  rw [zMi,zMi] at this
  have h2:x=y:=by
   obtain ⟨⟨x⟩⟩:=x
   obtain ⟨⟨y⟩⟩:=y
   simp only at this
   rw [this]
  rw [h2]
 ·simp only [Bool.and_eq_true,zB0] at h;rw [h.1,h.2]
 ·rfl
 ·simp only [Bool.and_eq_true,zB0] at h;rw [h.1.1,h.1.2,h.2]
 ·simp only [zB0] at h;rw [h]
 ·rfl
 ·rfl
 ·rfl
 ·cases h
theorem zYe (a b:Tok) (h:yGe a b=true):a=b:=by
 unfold yGe at h
 split at h
 ·rfl
 ·rfl
 ·rfl
 ·rw [zB0.1 h]
 ·cases h
theorem zZ2 {f:AV→AV→Bool} (hf:∀ a b,f a b=true→a=b) (a b:AV) (h:yIu f a b=true):a=b:=by
 unfold yIu at h
 split at h
 ·simp only [Bool.and_eq_true,zB0] at h;rw [h.1,zGd hf _ _ h.2]
 ·simp only [Bool.and_eq_true,zB0] at h;rw [h.1.1.1,h.1.1.2,zYe _ _ h.1.2,zGd hf _ _ h.2]
 ·simp only [Bool.and_eq_true,zB0] at h;rw [h.1,hf _ _ h.2]
 ·rw [zGd hf _ _ h]
 ·rw [zGd hf _ _ h]
 ·simp only [Bool.and_eq_true,zB0] at h;rw [h.1.1,zGd hf _ _ h.1.2,zGd hf _ _ h.2]
 ·exact zZ3 _ _ h
theorem zGs:∀ (n:Nat) (a b:AV),avEq n a b=true→a=b
 |0,a,b,h=>by cases h
 |n+1,a,b,h=>zZ2 (zGs n) a b h
def z5a:List PE→Pend→Prop
 |[],T=>T=[]
 |.free i::T,U=>∃ Y U',U=(i,Y)::U'∧(∀ h,Y h)∧z5a T U'
 |.rd i op τ v::T,U=>∃ U',U=(i,yieldOf Tryz.prog op (envT τ) v)::U'∧z5a T U'
theorem zTh {st:List Nat} {H:Tr XObj}:∀ {T:List PE} {U:Pend},z5a T U→allB (peOk st H) T=true→zRw U st (hpT H)
 |[],U,hr,_=>by
  intro q hq
  have:U=[]:=hr
  subst this
  cases hq
 |.free i::T,U,hr,ha=>by
  obtain ⟨Y,U',rfl,hY,hr⟩:=hr
  rw [zHt,List.all_cons,Bool.and_eq_true] at ha
  intro q hq hc
  rcases List.mem_cons.1 hq with rfl|hq
  ·exact hY _
  ·exact zTh hr (by rw [zHt];exact ha.2) q hq hc
 |.rd i op τ v::T,U,hr,ha=>by
  obtain ⟨U',rfl,hr⟩:=hr
  rw [zHt,List.all_cons,Bool.and_eq_true] at ha
  intro q hq hc
  rcases List.mem_cons.1 hq with rfl|hq
  ·refine .inr fun hk p=>?_
   have h1:=ha.1
   simp only [peOk] at h1
   have hc':st.contains i=true:=hc
   rw [hc'] at h1
   simp only [Bool.not_true,Bool.false_or] at h1
   rw [orec] at h1
   cases hx:aop Tryz.prog op (zAx (envT τ)) (hpT H) 0 with
   |none=>rw [hx] at h1;cases h1
   |some r =>
    rw [hx] at h1
    obtain ⟨u,h'⟩:=r
    have:=zGs 100 u v h1
    subst this
    exact zJs hk hx p
  ·exact zTh hr (by rw [zHt];exact ha.2) q hq hc
theorem z6h {st:List Nat} {H:Tr XObj} {T:List PE} {U:Pend} (hr:z5a T U) (h:z0q st T H=true):zRw U st (hpT H):=by
 cases st with
 |nil=>intro q hq hc;simp at hc
 |cons a st=>exact zTh hr h
theorem zJz {ops:Array Oper} {i:Nat} {co:CO} (h:zFr (zCq ops) i=some co):∃ o,(zA2 Tryz.prog ops)[i]?=some o∧co=⟨o.dst,o.op,gtOf (zA2 Tryz.prog ops).toList o.guard⟩:=by
 unfold zCq at h
 rw [zJ0] at h
 cases ho:(zA2 Tryz.prog ops).toList[i]? with
 |none=>rw [ho] at h;cases h
 |some o =>
  rw [ho] at h
  simp only [Option.map_some,Option.some.injEq] at h
  exact ⟨o,by simpa using ho,h.symm⟩
theorem zNn {l:List Nat} (h:z1x l=true):l=[]:=by cases l with|nil=>rfl|cons=>cases h
theorem zPy {j:Nat} {p:Plan} (h:zTz j p=true):p=.one j [] .done:=by
 unfold zTz at h
 split at h
 ·simp only [Bool.and_eq_true,zB0] at h
  rw [h.1,zNn h.2]
 ·cases h
theorem zN1 {co:CO} {T:TypeId} {a x:Operand} (h:zM0 co=some (T,a,x)):co=⟨Option.none,.store T a x,.go⟩:=by
 unfold zM0 at h
 split at h
 ·simp only [Option.some.injEq,Prod.mk.injEq] at h
  obtain ⟨rfl,rfl,rfl⟩:=h;rfl
 ·cases h
theorem zZ4 {a b:AV} (h:z2i a b=true):∃ i o j p,a=.ptr i o∧b=.ptr j p∧i≠j:=by
 have pt:∀ {v:AV} {i:Nat},ptrA v=some i→∃ o,v=.ptr i o:=by
  intro v i hv
  unfold ptrA at hv
  split at hv
  ·injection hv with hv;subst hv;exact ⟨_,rfl⟩
  ·cases hv
 unfold z2i at h
 split at h
 ·rename_i i j h1 h2
  obtain ⟨o,h1⟩:=pt h1
  obtain ⟨p,h2⟩:=pt h2
  refine ⟨i,o,j,p,h1,h2,fun e=>?_⟩
  subst e
  have:Nat.beq i i=true:=Nat.beq_refl i
  rw [this] at h;cases h
 ·cases h
theorem zYi {P:Program} {T1 T2:TypeId} {i o j p:Nat} {x y:AV} {h h1 h12:zAd} (hij:i≠j) (e1:zHp P T1 (.ptr i o) x h=some h1) (e2:zHp P T2 (.ptr j p) y h1=some h12) :
  ∃ h2,zHp P T2 (.ptr j p) y h=some h2∧zHp P T1 (.ptr i o) x h2=some h12:=by
 unfold zHp at e1 e2 ⊢
 cases hz1:tsz P T1 with
 |none=>rw [hz1] at e1;cases e1
 |some z1 =>
  cases hz2:tsz P T2 with
  |none=>rw [hz2] at e2;cases e2
  |some z2 =>
   rw [hz1] at e1
   rw [hz2] at e2
   simp only at e1 e2 ⊢
   cases hi:h i with
   |none=>rw [hi] at e1;cases e1
   |some oi =>
    rw [hi] at e1
    cases oi with
    |cells cs T =>
     simp only at e1
     split at e1
     ·rename_i c1
      injection e1 with e1
      subst e1
      rw [zAa _ _ (fun e=>hij e.symm)] at e2
      cases hj:h j with
      |none=>rw [hj] at e2;cases e2
      |some oj =>
       rw [hj] at e2
       cases oj with
       |cells cs2 T' =>
        simp only at e2
        split at e2
        ·rename_i c2
         injection e2 with e2
         refine ⟨upd h j (some (.cells (zCt cs2 p y.cells) T')),by simp only [if_pos c2],?_⟩
         rw [zAa _ _ hij,hi]
         simp only [if_pos c1]
         rw [← e2]
         congr 1
         funext k
         by_cases hk:k=i
         ·subst hk;rw [upd_same,zAa _ _ hij,upd_same]
         ·by_cases hk2:k=j
          ·subst hk2;rw [zAa _ _ hk,upd_same,upd_same]
          ·rw [zAa _ _ hk,zAa _ _ hk2,zAa _ _ hk2,zAa _ _ hk]
        ·cases e2
       |_=>cases e2
     ·cases e1
    |_=>cases e1
theorem zLs {ops:Array Oper} {i:Nat} {oi:Oper} {T:TypeId} {a x:Operand} {g:GT} (hi:ops[i]?=some oi) (hco:(⟨oi.dst,oi.op,gtOf ops.toList oi.guard⟩:CO)=⟨Option.none,.store T a x,.go⟩) {s:AS} {h':zAd} (hs:zHp Tryz.prog T (zAx s.τ a) (zAx s.τ x) s.h=some h') {next:AS→Prop} {pan:AV→AS→Prop} (hn:next { s with h:=h' }) :
  zFd Tryz.prog ops i next pan s:=by
 simp only [CO.mk.injEq] at hco
 obtain ⟨hd,hop,hg⟩:=hco
 unfold zFd
 rw [hi]
 simp only
 rw [zEq,hg]
 show amOp Tryz.prog oi s next pan
 unfold amOp
 rw [hop]
 intro _
 rw [hop]
 simp only [aop,hs,Option.map_some,zBm,cond_false,Nat.add_zero,hd]
 exact hn
theorem yMd {call:zJu} (hcall:zMt call) (own:Bool) (fr:Fr) (id:Nat) (ops:Array Oper):∀ (pl:Plan) (listed:Array Bool) (Tn:List Nat) (T:List PE) (U:Pend) (s:St) (K:KS),zFp (zA2 Tryz.prog ops) pl listed Tn=true→z5a T U →
  ¬ Fails (drX call own fr id ops (zCq ops) pl T s)→(∀ e s',IsX fr.rd (drX call own fr id ops (zCq ops) pl T s) e s'→K e s')→amDr Tryz.prog (zA2 Tryz.prog ops) K pl U (toAS fr.rd s):=by
 intro pl
 have pan:∀ {rd o v s} {K:KS},(∀ e s',IsX rd o e s'→K e s')→zZ9 rd o (panX ops) v s→panK (zA2 Tryz.prog ops) K v s:=by
  intro rd o v s K hK h
  have:=z7l hK h
  unfold panK at this ⊢
  rw [zN9];exact this
 induction pl with
 |done=>intro listed Tn T U s K hp hr hf hK;exact hK .normal _ ⟨s,rfl,rfl⟩
 |take i rest ih =>
  intro listed Tn T U s K hp hr hf hK
  simp only [zFp,Bool.and_eq_true] at hp
  obtain ⟨⟨⟨⟨_,_⟩,hkind⟩,_⟩,hp⟩:=hp
  have he:Fails (.fail fr.f id i):=zAt _ _ _
  cases hco:zFr (zCq ops) i with
  |none =>
   refine absurd ?_ hf
   show Fails (Option.rec (motive:=fun _=>Out) _ _ (zFr (zCq ops) i))
   rw [hco];exact he
  |some co =>
   obtain ⟨o,ho,rfl⟩:=zJz hco
   rw [ho] at hkind
   simp only [decide_eq_true_eq] at hkind
   have hx:drX call own fr id ops (zCq ops) (.take i rest) T s=yGg i o.dst (gtOf (zA2 Tryz.prog ops).toList o.guard) o.op T (drX call own fr id ops (zCq ops) rest) (.fail fr.f id i) s (fun s=>.fail fr.f id i) (panX ops):=by
    show (Option.rec (motive:=fun _=>Out) _ _ (zFr (zCq ops) i))=_
    rw [hco]
    rfl
   have hg:=zK3 o.dst (gtOf (zA2 Tryz.prog ops).toList o.guard) (yGz i o.dst o.op T (drX call own fr id ops (zCq ops) rest)) (zPt i o.dst T (drX call own fr id ops (zCq ops) rest)) (.fail fr.f id i) s (fun s=>.fail fr.f id i) (panX ops)
    (yGg i o.dst (gtOf (zA2 Tryz.prog ops).toList o.guard) o.op T (drX call own fr id ops (zCq ops) rest)) (by cases gtOf (zA2 Tryz.prog ops).toList o.guard <;> rfl)
   rw [← hx] at hg
   rcases hg with h|⟨hw,h⟩|⟨hw,h⟩
   ·exact absurd (by rw [h];exact he) hf
   ·obtain ⟨τ,H,n,ds⟩:=s
    have hne:∀ x,o.op≠.next x false:=fun x hx=>by rw [hx] at hkind;simp only [zGk] at hkind;omega
    have h':drX call own fr id ops (zCq ops) (.take i rest) T ⟨τ,H,n,ds⟩=xop o.op (.fail fr.f id i) τ H n fun v _ _=>Bool.rec (drX call own fr id ops (zCq ops) rest (.rd i o.op τ v::T) ⟨putT o.dst v τ,H,n,ds⟩) (drX call own fr id ops (zCq ops) rest (.free i::T) ⟨putT o.dst v τ,H,n,ds⟩) (Nat.beq (zGk o.op) 0):=by
     rw [h]
     show (xop o.op (.fail fr.f id i) τ H n fun v _ _=>rPut o.dst v τ fun τ'=>_)=_
     simp only [zM9]
    rcases yE1 o.op hne (.fail fr.f id i) τ H n (fun v _ _=>Bool.rec (drX call own fr id ops (zCq ops) rest (.rd i o.op τ v::T) ⟨putT o.dst v τ,H,n,ds⟩) (drX call own fr id ops (zCq ops) rest (.free i::T) ⟨putT o.dst v τ,H,n,ds⟩) (Nat.beq (zGk o.op) 0)) with h1|⟨v,H',h1,h2⟩
    ·exact absurd (by rw [h',h1];exact he) hf
    have hop0:aop Tryz.prog o.op (zAx (envT τ)) (hpT H) 0=some (v,hpT H):=by
     by_cases h0:zGk o.op=0
     ·exact zUw h0 h1 _ _
     ·exact zJs (by omega) h1 0
    have key:∀ (T':List PE),z5a T' ((i,yieldOf Tryz.prog o.op (envT τ) v)::U)→drX call own fr id ops (zCq ops) (.take i rest) T ⟨τ,H,n,ds⟩=drX call own fr id ops (zCq ops) rest T' ⟨putT o.dst v τ,H,n,ds⟩→amDr Tryz.prog (zA2 Tryz.prog ops) K (.take i rest) U (toAS fr.rd ⟨τ,H,n,ds⟩):=by
     intro T' hT' he'
     have h3:=ih _ _ T' _ ⟨putT o.dst v τ,H,n,ds⟩ K hp hT' (he' ▸ hf) (fun e s' hh=>hK e s' (he' ▸ hh))
     simp only [amDr,ho]
     rw [zEq]
     show match zDa (gtOf (zA2 Tryz.prog ops).toList o.guard) (envT τ) with|some true=>_|some false=>_|Option.none=>_
     rw [hw]
     show match aop Tryz.prog o.op (zAx (envT τ)) (hpT H) 0 with|some (v,_)=>_|Option.none=>_
     rw [hop0]
     have:toAS fr.rd ⟨putT o.dst v τ,H,n,ds⟩={ toAS fr.rd ⟨τ,H,n,ds⟩ with τ:=aPut (envT τ) o.dst v }:=by simp only [toAS,zF3]
     rw [this] at h3
     exact h3
    rw [h2,brec] at h'
    split at h'
    ·rename_i h0
     rw [zB0] at h0
     exact key (.free i::T) ⟨_,_,rfl,fun h=>.inl h0,hr⟩ h'
    ·exact key (.rd i o.op τ v::T) ⟨_,rfl,hr⟩ h'
   ·have h':drX call own fr id ops (zCq ops) (.take i rest) T s=drX call own fr id ops (zCq ops) rest (.free i::T) ⟨putT o.dst (.tuple []) s.τ,s.H,s.n,s.ds⟩:=by
     rw [h]
     exact zTs _ _ _ _ _
    have h3:=ih _ _ (.free i::T) ((i,fun _=>True)::U) ⟨putT o.dst (.tuple []) s.τ,s.H,s.n,s.ds⟩ K hp ⟨_,_,rfl,fun _=>trivial,hr⟩ (h' ▸ hf) (fun e s' hh=>hK e s' (h' ▸ hh))
    simp only [amDr,ho]
    rw [zEq]
    show match zDa (gtOf (zA2 Tryz.prog ops).toList o.guard) (envT s.τ) with|some true=>_|some false=>_|Option.none=>_
    rw [hw]
    have:toAS fr.rd ⟨putT o.dst (.tuple []) s.τ,s.H,s.n,s.ds⟩={ toAS fr.rd s with τ:=aPut (envT s.τ) o.dst (.tuple []) }:=by simp only [toAS,zF3]
    rw [this] at h3
    exact h3
 |one i st rest ih =>
  intro listed Tn T U s K hp hr hf hK
  simp only [zFp,Bool.and_eq_true] at hp
  obtain ⟨⟨_,_⟩,hp⟩:=hp
  have he:Fails (.fail fr.f id i):=zAt _ _ _
  cases hco:zFr (zCq ops) i with
  |none =>
   refine absurd ?_ hf
   show Fails (Option.rec (motive:=fun _=>Out) _ _ (zFr (zCq ops) i))
   rw [hco];exact he
  |some co =>
   obtain ⟨o,ho,rfl⟩:=zJz hco
   let k:St→Out:=fun s=>Bool.rec (.fail fr.f id i) (drX call own fr id ops (zCq ops) rest T s) (z0q st T s.H)
   have hx:drX call own fr id ops (zCq ops) (.one i st rest) T s=stepG o.dst (gtOf (zA2 Tryz.prog ops).toList o.guard) (zTr call own fr.rd o.dst o.op) (.fail fr.f id i) s k (panX ops):=by
    show (Option.rec (motive:=fun _=>Out) _ _ (zFr (zCq ops) i))=_
    rw [hco]
    rfl
   have hg:=zK3 o.dst (gtOf (zA2 Tryz.prog ops).toList o.guard) (zTr call own fr.rd o.dst o.op) (z3d o.dst) (.fail fr.f id i) s k (panX ops) (stepG o.dst (gtOf (zA2 Tryz.prog ops).toList o.guard) (zTr call own fr.rd o.dst o.op)) (by cases gtOf (zA2 Tryz.prog ops).toList o.guard <;> rfl)
   rw [← hx] at hg
   have hk:∀ t,Sub (k t) (drX call own fr id ops (zCq ops) (.one i st rest) T s)→zRw U st (hpT t.H)∧amDr Tryz.prog (zA2 Tryz.prog ops) K rest U (toAS fr.rd t):=by
    intro t ht
    have hkt:k t=if z0q st T t.H=true then drX call own fr id ops (zCq ops) rest T t else .fail fr.f id i:=brec _ _ _
    rw [hkt] at ht
    split at ht
    ·rename_i hs
     exact ⟨z6h hr hs,ih _ _ T U t K hp hr (fun h3=>hf (h3.sub ht)) fun e s' hh=>hK e s' (hh.sub ht)⟩
    ·exact absurd (he.sub ht) hf
   simp only [amDr]
   unfold zFd
   rw [ho]
   simp only
   rw [zEq]
   show match zDa (gtOf (zA2 Tryz.prog ops).toList o.guard) (envT s.τ) with|some true=>_|some false=>_|Option.none=>_
   rcases hg with h|⟨hw,h⟩|⟨hw,h⟩
   ·exact absurd (h ▸ he) hf
   ·rw [hw]
    rcases z0y hcall own fr.rd o _ s k (panX ops) he with h2|h2
    ·exact absurd (h ▸ h2) hf
    ·rw [← h] at h2
     refine zMj (ops:=#[]) (s:=toAS fr.rd s) ⟨rfl,rfl,rfl,rfl⟩ (fun _ _=>rfl) (fun v h' n' ds' hk'=>?_) (fun v h' n' ds' hk=>pan hK hk) h2
     obtain ⟨t,ht,ho'⟩:=hk'
     obtain ⟨h3,h4⟩:=hk t ho'
     show zRw U st _∧amDr Tryz.prog _ _ rest U _
     rw [ht]
     exact ⟨h3,h4⟩
   ·rw [hw]
    rw [zTs] at h
    obtain ⟨h3,h4⟩:=hk _ (Sub.of_eq h)
    have:toAS fr.rd ⟨putT o.dst (.tuple []) s.τ,s.H,s.n,s.ds⟩={ toAS fr.rd s with τ:=aPut (envT s.τ) o.dst (.tuple []) }:=by simp only [toAS,zF3]
    rw [this] at h4
    exact ⟨h3,h4⟩
 |two i st p j st' q ihp ihq =>
  intro listed Tn T U s K hp hr hf hK
  obtain ⟨τ,H,n,ds⟩:=s
  have he:Fails (.fail fr.f id i):=zAt _ _ _
  have hx:drX call own fr id ops (zCq ops) (.two i st p j st' q) T ⟨τ,H,n,ds⟩=twoX (.fail fr.f id i) (zCq ops) i st p j st' q ⟨τ,H,n,ds⟩:=rfl
  generalize drX call own fr id ops (zCq ops) (.two i st p j st' q) T ⟨τ,H,n,ds⟩=out at hx hf hK ⊢
  unfold twoX at hx
  rw [orec] at hx
  cases hc1:(zFr (zCq ops) i).bind zM0 with
  |none=>rw [hc1] at hx;exact absurd (hx ▸ he) hf
  |some c1 =>
   rw [hc1] at hx
   simp only at hx
   rw [orec] at hx
   cases hc2:(zFr (zCq ops) j).bind zM0 with
   |none=>rw [hc2] at hx;exact absurd (hx ▸ he) hf
   |some c2 =>
    rw [hc2] at hx
    simp only at hx
    rw [brec] at hx
    split at hx
    ·rename_i hchk
     simp only [Bool.and_eq_true] at hchk
     obtain ⟨⟨⟨g1,g2⟩,g3⟩,g4⟩:=hchk
     obtain rfl:=zPy g1
     obtain rfl:=zPy g2
     obtain rfl:=zNn g3
     obtain rfl:=zNn g4
     obtain ⟨T1,a1,x1⟩:=c1
     obtain ⟨T2,a2,x2⟩:=c2
     obtain ⟨co1,hn1,hs1⟩:=Option.bind_eq_some_iff.1 hc1
     obtain ⟨co2,hn2,hs2⟩:=Option.bind_eq_some_iff.1 hc2
     have hs1:=zN1 hs1
     have hs2:=zN1 hs2
     obtain ⟨o1,ho1,rfl⟩:=zJz hn1
     obtain ⟨o2,ho2,rfl⟩:=zJz hn2
     have hx2:out=Bool.rec (.fail fr.f id i) (zN8 T1 a1 x1 (.fail fr.f id i) τ H n fun _ H1 _=>zN8 T2 a2 x2 (.fail fr.f id i) τ H1 n fun _ H2 _=>.norm ⟨τ,H2,n,ds⟩) (z2i (ev a1 τ) (ev a2 τ)):=hx
     rw [brec] at hx2
     split at hx2
     ·rename_i hap
      rw [zFx,zFx] at hap
      obtain ⟨k1,p1,k2,p2,ha1,ha2,hne⟩:=zZ4 hap
      rcases zTd T1 a1 x1 (.fail fr.f id i) τ H n (fun _ H1 _=>zN8 T2 a2 x2 (.fail fr.f id i) τ H1 n fun _ H2 _=>.norm ⟨τ,H2,n,ds⟩) with h1|⟨v1,H1,h1,h2⟩
      ·rw [h1] at hx2;exact absurd (hx2 ▸ he) hf
      ·rw [h2] at hx2
       rcases zTd T2 a2 x2 (.fail fr.f id i) τ H1 n (fun _ H2 _=>.norm ⟨τ,H2,n,ds⟩) with h3|⟨v2,H2,h3,h4⟩
       ·rw [h3] at hx2;exact absurd (hx2 ▸ he) hf
       ·rw [h4] at hx2
        have st:∀ {T:TypeId} {a x:Operand} {h h':zAd} {m:Nat} {v:AV},aop Tryz.prog (.store T a x) (zAx (envT τ)) h m=some (v,h')→zHp Tryz.prog T (zAx (envT τ) a) (zAx (envT τ) x) h=some h':=by
         intro T a x h h' m v hh
         simp only [aop] at hh
         cases hq:zHp Tryz.prog T (zAx (envT τ) a) (zAx (envT τ) x) h with
         |none=>rw [hq] at hh;cases hh
         |some r=>rw [hq] at hh;simp only [Option.map_some,Option.some.injEq,Prod.mk.injEq] at hh;rw [hh.2]
        have e1:=st h1
        have e2:=st h3
        rw [ha1] at e1
        rw [ha2] at e2
        obtain ⟨hh2,e3,e4⟩:=zYi hne e1 e2
        rw [← ha1] at e1 e4
        rw [← ha2] at e2 e3
        have fin:K .normal ⟨envT τ,hpT H2,n,ds,fr.rd⟩:=hK .normal _ ⟨⟨τ,H2,n,ds⟩,by rw [hx2];rfl,rfl⟩
        have em:∀ {h:zAd},zRw U [] h:=fun {h} q hq hc=>by simp at hc
        simp only [amDr]
        refine ⟨zLs (g:=.go) ho1 hs1 (s:=toAS fr.rd ⟨τ,H,n,ds⟩) e1 ⟨em,zLs (g:=.go) ho2 hs2 (s:=⟨envT τ,hpT H1,n,ds,fr.rd⟩) e2 ⟨em,fin⟩⟩,
         zLs (g:=.go) ho2 hs2 (s:=toAS fr.rd ⟨τ,H,n,ds⟩) e3 ⟨em,zLs (g:=.go) ho1 hs1 (s:=⟨envT τ,hh2,n,ds,fr.rd⟩) e4 ⟨em,fin⟩⟩⟩
     ·exact absurd (hx2 ▸ he) hf
    ·exact absurd (hx ▸ he) hf
theorem yD6 {hn:zNv} {call:zJu} (hcall:zMt call) (fr:Fr) (id:Nat) (ops:Array Oper) (hc:chkC hn fr.f (.region id ops true)=true) (s:St):Fails (yD7 hn call fr id ops s)∨NSem Tryz.prog fr.nt (.region id ops true) (IsX fr.rd (yD7 hn call fr id ops s)) (toAS fr.rd s):=by
 have hx:yD7 hn call fr id ops s=Option.rec (motive:=fun _=>Out) (.fail fr.f id 8801) (fun q=>drX call (hn.own fr.f id) fr id ops (zCq ops) q.1 [] s) (hn.plan fr.f id):=rfl
 rw [orec] at hx
 simp only [chkC,cond_true] at hc
 cases hp:hn.plan fr.f id with
 |none=>rw [hp] at hx;exact .inl (hx ▸ zAt _ _ _)
 |some q =>
  rw [hp] at hx hc
  simp only at hx hc
  simp only [yFk,Bool.and_eq_true,zEo] at hc
  obtain ⟨⟨h1,h2⟩,h3⟩:=hc
  rw [hx]
  by_cases hf:Fails (drX call (hn.own fr.f id) fr id ops (zCq ops) q.1 [] s)
  ·exact .inl hf
  ·exact .inr (NSem.late zIo ⟨q.1,q.2,h1,h2,h3,yMd hcall (hn.own fr.f id) fr id ops q.1 _ [] [] [] s _ h1 rfl hf fun _ _ h=>h⟩)
end Go.Proofs.YthkjmiejaoomcaaGreat.Am
namespace Go.Proofs.YthkjmiejaoomcaaGreat.Am
open Go Go.RowKit Go.Proofs
set_option linter.unusedVariables false
set_option linter.unusedSimpArgs false
set_option maxRecDepth 20000
theorem zKy (o:Option XObj) (err:Out) (k:LoopState→Option Code→Nat→Tr AV→List Nat→Code→Code→Nat→Nat→Out):zP6 o err k=err∨∃ st pend nt env ps asg bd d f,o=some (.loop st pend nt env ps asg bd d f)∧zP6 o err k=k st pend nt env ps asg bd d f:=by
 cases o with
 |none=>exact .inl rfl
 |some x =>
  cases x with
  |o a=>exact .inl rfl
  |loop st pend nt env ps asg bd d f=>exact .inr ⟨st,pend,nt,env,ps,asg,bd,d,f,rfl,rfl⟩
theorem zUg {H:Tr XObj} {l:Nat} {st:LoopState} {pend:Option Code} {nt:Nat} {env:Tr AV} {ps:List Nat} {asg bd:Code} {d f:Nat} (h:getP (bits l) H=some (.loop st pend nt env ps asg bd d f)):hpT H l=some (.loop st pend nt (envT env) ps asg bd d):=by
 unfold hpT;rw [h];rfl
theorem zZj (v:AV) (err:Out) (k:AV→Out):yC6 v err k=err∨∃ g a b,v=.func (.func g) a b∧yC6 v err k=k v:=by
 cases v with
 |func fn a b=>cases fn with
  |func g=>exact .inr ⟨g,a,b,rfl,rfl⟩
  |_=>exact .inl rfl
 |_=>exact .inl rfl
theorem z1g {F:Out→Out} (hF:∀ a b,F (.alt a b)=.alt (F a) (F b)):∀ (o x:Out),Leaf x o→Sub (F x) (F o):=by
 intro o
 induction o with
 |alt a b iha ihb =>
  intro x h
  rw [hF]
  rcases h with h|h
  ·exact fun y hy=>.inl (iha x h y hy)
  ·exact fun y hy=>.inr (ihb x h y hy)
 |_=>intro x h;have h:x=_:=h;subst h;exact Sub.refl _
theorem zF1 {B:St→Out} {o x:Out} (h:Leaf x o):Sub (zYg B x) (zYg B o):=z1g (F:=zYg B) (fun _ _=>rfl) o x h
theorem zMa {id:Nat} {o x:Out} (h:Leaf x o):Sub (zW6 id x) (zW6 id o):=z1g (F:=zW6 id) (fun _ _=>rfl) o x h
theorem LeAV.any (a:AV):LeAV a .any:=fun _ _ _ _=>by simp [Rel]
theorem LeAV.trans {a b c:AV} (h1:LeAV a b) (h2:LeAV b c):LeAV a c:=fun G W v h=>h2 G W v (h1 G W v h)
def LeS (t u:St):Prop:=(∀ i,LeAV (envT t.τ i) (envT u.τ i))∧zAh (hpT t.H) (hpT u.H)∧u.n=t.n∧u.ds=t.ds
theorem LeS.trans {a b c:St} (h1:LeS a b) (h2:LeS b c):LeS a c:=⟨fun i=>(h1.1 i).trans (h2.1 i),fun i o h=>h1.2.1 i o (h2.2.1 i o h),h2.2.2.1.trans h1.2.2.1,h2.2.2.2.trans h1.2.2.2⟩
theorem zOx:∀ (p:List Bool) (t:Tr AV),getP p (anyT t)=(getP p t).map fun _=>.any
 |[],.nil=>rfl
 |[],.node l v r=>by cases v <;> rfl
 |b::p,.nil=>rfl
 |b::p,.node l v r=>by
  cases b
  ·exact zOx p l
  ·exact zOx p r
noncomputable def jv (x y:Option AV):Option AV:=z3y x y id
theorem zUb (x y:Option AV) {β:Type} (k:Option AV→β):z3y x y k=k (jv x y):=by
 cases x with
 |none=>cases y <;> rfl
 |some x=>cases y with
  |none=>rfl
  |some y =>
   show Bool.rec (k (some .any)) (k (some x)) (avEq 100 x y)=k (Bool.rec (some .any) (some x) (avEq 100 x y))
   cases avEq 100 x y <;> rfl
noncomputable def jT (a b:Tr AV):Tr AV:=zRr a b id
theorem zIk:∀ (a b:Tr AV) {β:Type} (k:Tr AV→β),zRr a b k=k (jT a b)
 |.nil,b,β,k=>rfl
 |.node l v r,.nil,β,k=>rfl
 |.node l v r,.node l' v' r',β,k=>by
  show zRr l l' (fun l=>zRr r r' fun r=>z3y v v' fun v=>k (.node l v r))=k (zRr l l' fun l=>zRr r r' fun r=>z3y v v' fun v=>id (Tr.node l v r))
  rw [zIk l l',zIk r r',zUb,zIk l l',zIk r r',zUb]
  rfl
theorem z8z (l r l' r':Tr AV) (v v':Option AV):jT (.node l v r) (.node l' v' r')=.node (jT l l') (jv v v') (jT r r'):=by
 show zRr l l' (fun l=>zRr r r' fun r=>z3y v v' fun v=>id (Tr.node l v r))=_
 rw [zIk l l',zIk r r',zUb]
 rfl
def LeO (x z:Option AV):Prop:=LeAV (x.getD (.tuple [])) (z.getD (.tuple []))
theorem LeO.refl (x:Option AV):LeO x x:=LeAV.refl _
theorem LeO.anyO (y:Option AV):LeO Option.none (y.map fun _=>.any)∧LeO y (y.map fun _=>.any):=by
 cases y with
 |none=>exact ⟨LeAV.refl _,LeAV.refl _⟩
 |some y=>exact ⟨LeAV.any _,LeAV.any _⟩
theorem jv_le (x y:Option AV):LeO x (jv x y)∧LeO y (jv x y):=by
 cases x with
 |none=>cases y with
  |none=>exact ⟨LeO.refl _,LeO.refl _⟩
  |some y=>exact ⟨LeAV.any _,LeAV.any _⟩
 |some x=>cases y with
  |none=>exact ⟨LeAV.any _,LeAV.any _⟩
  |some y =>
   have:jv (some x) (some y)=(match avEq 100 x y with|true=>some x|false=>some .any):=by
    show (zZb x y fun v=>id (some v))=_
    unfold zZb
    cases avEq 100 x y <;> rfl
   rw [this]
   cases h:avEq 100 x y with
   |false=>exact ⟨LeAV.any _,LeAV.any _⟩
   |true=>have:=zGs 100 x y h;subst this;exact ⟨LeO.refl _,LeO.refl _⟩
theorem yC0:∀ (p:List Bool) (a b:Tr AV),LeO (getP p a) (getP p (jT a b))∧LeO (getP p b) (getP p (jT a b))
 |p,.nil,b=>by
  show LeO (getP p .nil) (getP p (anyT b))∧LeO (getP p b) (getP p (anyT b))
  rw [zOx,zD9]
  exact LeO.anyO _
 |p,.node l v r,.nil=>by
  show LeO (getP p (.node l v r)) (getP p (anyT (.node l v r)))∧LeO (getP p .nil) (getP p (anyT (.node l v r)))
  rw [zOx,zD9]
  exact (LeO.anyO _).symm
 |[],.node l v r,.node l' v' r'=>by rw [z8z];exact jv_le v v'
 |b::p,.node l v r,.node l' v' r'=>by
  rw [z8z]
  cases b
  ·exact yC0 p l l'
  ·exact yC0 p r r'
theorem zMc (τ:Tr AV) (i:Nat):envT τ i=(getP (bits i) τ).getD (.tuple []):=by
 show Option.rec (motive:=fun _=>AV) _ _ (getP (bits i) τ)=_
 cases getP (bits i) τ <;> rfl
noncomputable def jo (x y:Option XObj):Option XObj:=z3z x y id
theorem zUc (x y:Option XObj) {β:Type} (k:Option XObj→β):z3z x y k=k (jo x y):=by
 cases x with
 |none=>rfl
 |some x=>cases y with
  |none=>rfl
  |some y =>
   show Bool.rec (k Option.none) (k (some x)) (xoEq x y)=k (Bool.rec Option.none (some x) (xoEq x y))
   cases xoEq x y <;> rfl
noncomputable def jH (a b:Tr XObj):Tr XObj:=zRs a b id
theorem zIl:∀ (a b:Tr XObj) {β:Type} (k:Tr XObj→β),zRs a b k=k (jH a b)
 |.nil,b,β,k=>rfl
 |.node l v r,.nil,β,k=>rfl
 |.node l v r,.node l' v' r',β,k=>by
  show zRs l l' (fun l=>zRs r r' fun r=>z3z v v' fun v=>k (.node l v r))=k (zRs l l' fun l=>zRs r r' fun r=>z3z v v' fun v=>id (Tr.node l v r))
  rw [zIl l l',zIl r r',zUc,zIl l l',zIl r r',zUc]
  rfl
theorem z81 (l r l' r':Tr XObj) (v v':Option XObj):jH (.node l v r) (.node l' v' r')=.node (jH l l') (jo v v') (jH r r'):=by
 show zRs l l' (fun l=>zRs r r' fun r=>z3z v v' fun v=>id (Tr.node l v r))=_
 rw [zIl l l',zIl r r',zUc]
 rfl
theorem zSq:∀ (l m:List (AV × AV × Nat)),esEq l m=true→l=m
 |[],[],_=>rfl
 |[],b::m,h=>by cases h
 |a::l,[],h=>by cases h
 |a::l,b::m,h=>by
  simp only [esEq,Bool.and_eq_true,zB0] at h
  obtain ⟨a1,a2,a3⟩:=a
  obtain ⟨b1,b2,b3⟩:=b
  obtain ⟨⟨⟨h1,h2⟩,h3⟩,h4⟩:=h
  have h1:a1=b1:=zGs _ _ _ h1
  have h2:a2=b2:=zGs _ _ _ h2
  have h3:a3=b3:=h3
  rw [h1,h2,h3,zSq l m h4]
theorem z2r (a b:XObj) (h:xoEq a b=true):a=b:=by
 unfold xoEq at h
 split at h
 ·simp only [Bool.and_eq_true,zB0] at h
  rw [h.1,zGd (zGs 100) _ _ h.2]
 ·rw [zB0.1 h]
 ·simp only [Bool.and_eq_true,zB0] at h
  rw [h.1,zSq _ _ h.2]
 ·rfl
 ·cases h
theorem yHj {x y:Option XObj} {z:XObj} (h:jo x y=some z):x=some z∧y=some z:=by
 cases x with
 |none=>cases h
 |some x=>cases y with
  |none=>cases h
  |some y =>
   have:jo (some x) (some y)=(match xoEq x y with|true=>some x|false=>Option.none):=by
    show zZd x y id=_
    unfold zZd
    cases xoEq x y <;> rfl
   rw [this] at h
   cases he:xoEq x y with
   |false=>rw [he] at h;cases h
   |true =>
    rw [he] at h
    have:=z2r x y he
    subst this
    exact ⟨h,h⟩
theorem zZe:∀ (p:List Bool) (a b:Tr XObj) (z:XObj),getP p (jH a b)=some z→getP p a=some z∧getP p b=some z
 |p,.nil,b,z,h=>by
  have:getP p (Tr.nil:Tr XObj)=some z:=h
  rw [zD9] at this;cases this
 |p,.node l v r,.nil,z,h=>by
  have:getP p (Tr.nil:Tr XObj)=some z:=h
  rw [zD9] at this;cases this
 |[],.node l v r,.node l' v' r',z,h=>by rw [z81] at h;exact yHj h
 |b::p,.node l v r,.node l' v' r',z,h=>by
  rw [z81] at h
  cases b
  ·exact zZe p l l' z h
  ·exact zZe p r r' z h
theorem yC2 {H:Tr XObj} {i:Nat} {o:AObj} (h:hpT H i=some o):∃ x,getP (bits i) H=some x∧o=x.toO:=by
 unfold hpT at h
 cases hg:getP (bits i) H with
 |none=>rw [hg] at h;cases h
 |some x=>rw [hg] at h;simp only [Option.map_some,Option.some.injEq] at h;exact ⟨x,rfl,h.symm⟩
theorem yCz {err:Out} {s t:St}:zZc err s t=err∨∃ u,zZc err s t=.norm u∧LeS s u∧LeS t u:=by
 have hx:zZc err s t=Bool.rec err (zRr s.τ t.τ fun τ=>zRs s.H t.H fun H=>.norm ⟨τ,H,s.n,[]⟩) (Nat.beq s.n t.n&&zXd s.ds&&zXd t.ds):=rfl
 rw [brec,zIk,zIl] at hx
 split at hx
 ·rename_i hc
  simp only [Bool.and_eq_true,zB0] at hc
  have em:∀ {l:List ADef},zXd l=true→l=[]:=by
   intro l h
   cases l with
   |nil=>rfl
   |cons=>cases h
  have hp:∀ {i:Nat} {o:AObj},hpT (jH s.H t.H) i=some o→hpT s.H i=some o∧hpT t.H i=some o:=by
   intro i o h
   obtain ⟨x,hx,rfl⟩:=yC2 h
   obtain ⟨h1,h2⟩:=zZe _ _ _ _ hx
   exact ⟨by unfold hpT;rw [h1];rfl,by unfold hpT;rw [h2];rfl⟩
  refine .inr ⟨_,hx,⟨fun i=>?_,fun i o h=>(hp h).1,rfl,(em hc.1.2).symm⟩,⟨fun i=>?_,fun i o h=>(hp h).2,hc.1.1,(em hc.2).symm⟩⟩
  ·rw [zMc,zMc];exact (yC0 (bits i) s.τ t.τ).1
  ·rw [zMc,zMc];exact (yC0 (bits i) s.τ t.τ).2
 ·exact .inl hx
theorem zP2 (o err:Out) (he:Fails err) (k:St→Out):Fails (zY0 o err k)∨∃ s,o=.norm s∧zY0 o err k=k s:=by
 cases o with
 |norm s=>exact .inr ⟨s,rfl,rfl⟩
 |fail f r i=>exact .inl (zAt _ _ _)
 |_=>exact .inl he
theorem yCp {err:Out} (he:Fails err):∀ (o x:Out),¬ Fails (zJj err o)→Leaf x o→Leaf x (zJj err o)∨∃ t u,x=.norm t∧LeS t u∧Leaf (.norm u) (zJj err o):=by
 intro o
 induction o with
 |alt a b iha ihb =>
  intro x hf h
  have hx:zJj err (.alt a b)=zY0 (zJj err a) err fun s=>zY0 (zJj err b) err fun t=>zZc err s t:=rfl
  rcases zP2 (zJj err a) err he (fun s=>zY0 (zJj err b) err fun t=>zZc err s t) with h1|⟨s,h1,h2⟩
  ·exact absurd (hx ▸ h1) hf
  rcases zP2 (zJj err b) err he (fun t=>zZc err s t) with h3|⟨t,h3,h4⟩
  ·exact absurd (by rw [hx,h2];exact h3) hf
  rw [h2,h4] at hx
  rcases yCz (err:=err) (s:=s) (t:=t) with h5|⟨u,h5,l1,l2⟩
  ·exact absurd (by rw [hx,h5];exact he) hf
  rw [h5] at hx
  have nf:∀ {v:St},¬ Fails (.norm v):=by
   intro v hv;obtain ⟨_,_,_,hl⟩:=hv;cases hl
  refine .inr ?_
  rw [hx]
  rcases h with h|h
  ·rcases iha x (by rw [h1];exact nf) h with h6|⟨t',u',rfl,l3,h6⟩
   ·rw [h1] at h6
    exact ⟨s,u,h6,l1,rfl⟩
   ·rw [h1] at h6
    have h6:Out.norm u'=.norm s:=h6
    injection h6 with h6
    subst h6
    exact ⟨t',u,rfl,l3.trans l1,rfl⟩
  ·rcases ihb x (by rw [h3];exact nf) h with h6|⟨t',u',rfl,l3,h6⟩
   ·rw [h3] at h6
    exact ⟨t,u,h6,l2,rfl⟩
   ·rw [h3] at h6
    have h6:Out.norm u'=.norm t:=h6
    injection h6 with h6
    subst h6
    exact ⟨t',u,rfl,l3.trans l2,rfl⟩
 |_=>intro x hf h;exact .inl h
def LeA (s u:AS):Prop:=(∀ i,LeAV (s.τ i) (u.τ i))∧zAh s.h u.h∧u.n=s.n∧u.ds=s.ds∧u.rd=s.rd
theorem LeA.refl (s:AS):LeA s s:=⟨fun i=>LeAV.refl _,zAh.refl _,rfl,rfl,rfl⟩
theorem LeS.toA {rd:Option Nat} {t u:St} (h:LeS t u):LeA (toAS rd t) (toAS rd u):=⟨h.1,h.2.1,h.2.2.1,h.2.2.2,rfl⟩
theorem Agree.le {P:Program} {nt:Nat} {F:Fence} {G0 G:Gh} {W0 W:World} {s u:AS} {a:Act} (ag:Agree P nt F G0 W0 G W s a) (h:LeA s u):Agree P nt F G0 W0 G W u a:=by
 obtain ⟨h1,h2,h3,h4,h5⟩:=h
 exact ⟨ag.sim.less h2,by rw [h3];exact ag.num,ag.evo,⟨ag.tmps.size,fun t=>h1 t G W _ (ag.tmps.get t)⟩,by rw [h4];exact ag.defers,by rw [h5];exact ag.rd⟩
theorem NSem.post {P:Program} {nt:Nat} {c:Code} {K K':KS} {s:AS} (hk:∀ e s,K e s→∃ u,LeA s u∧K' e u) (hc:NSem P nt c K s):NSem P nt c K' s:=by
 refine ⟨fun {F m G0 W0 G W a} hF hok ag=>wpIn_mono (hc.run hF hok ag) fun e a' w' hq=>?_⟩
 cases e with
 |normal=>obtain ⟨G',s',ag',hq⟩:=hq;obtain ⟨u,hu,hq⟩:=hk _ _ hq;exact ⟨G',u,ag'.le hu,hq⟩
 |exit i=>obtain ⟨G',s',ag',hq⟩:=hq;obtain ⟨u,hu,hq⟩:=hk _ _ hq;exact ⟨G',u,ag'.le hu,hq⟩
 |ret=>obtain ⟨G',s',ag',hq⟩:=hq;obtain ⟨u,hu,hq⟩:=hk _ _ hq;exact ⟨G',u,ag'.le hu,hq⟩
 |panic ch=>obtain ⟨G',s',v,v',ag',h2,h3,hq⟩:=hq;obtain ⟨u,hu,hq⟩:=hk _ _ hq;exact ⟨G',u,v,v',ag'.le hu,h2,h3,hq⟩
 |goto l=>exact hq
 |outgrown=>exact hq
section
variable {hn:zNv} {call:zJu} {fuel:Nat} {fr:Fr}
def zIb (fr:Fr) (c:Code) (A:St→Out):Prop:=∀ s,Fails (A s)∨NSem Tryz.prog fr.nt c (IsX fr.rd (A s)) (toAS fr.rd s)
theorem seq_ok {a b:Code} {A B:St→Out} (ha:zIb fr a A) (hb:zIb fr b B):zIb fr (.seq a b) (xSeq A B):=by
 intro s
 have hx:xSeq A B s=zYg B (A s):=rfl
 rcases ha s with ⟨f,r,i,h⟩|h
 ·exact .inl (by rw [hx];exact (zAt f r i).sub (zF1 (B:=B) h))
 ·by_cases hf:Fails (xSeq A B s)
  ·exact .inl hf
  refine .inr (NSem.seq (h.mono fun e s' hk=>?_))
  cases e with
  |normal =>
   obtain ⟨t,ht,rfl⟩:=hk
   have hx':Sub (B t) (xSeq A B s):=by rw [hx];exact zF1 (B:=B) ht
   rcases hb t with h2|h2
   ·exact absurd (h2.sub hx') hf
   ·exact h2.mono fun e s' hh=>hh.sub hx'
  |exit i=>obtain ⟨t,ht,rfl⟩:=hk;exact ⟨t,by rw [hx];exact zF1 (B:=B) ht _ rfl,rfl⟩
  |ret=>obtain ⟨t,ht,rfl⟩:=hk;exact ⟨t,by rw [hx];exact zF1 (B:=B) ht _ rfl,rfl⟩
  |panic v=>obtain ⟨t,ht,rfl⟩:=hk;exact ⟨t,by rw [hx];exact zF1 (B:=B) ht _ rfl,rfl⟩
theorem yIj {c:Operand} {a b:Code} {A B:St→Out} (ha:zIb fr a A) (hb:zIb fr b B):zIb fr (.cond c a b) (yBd fr c A B):=by
 intro s
 have hx:yBd fr c A B s=yCc (zAx (envT s.τ) c) fr A B s:=by unfold yBd;rw [zFx]
 have key:∀ v,zAx (envT s.τ) c=v→Fails (yCc v fr A B s)∨NSem Tryz.prog fr.nt (.cond c a b) (IsX fr.rd (yCc v fr A B s)) (toAS fr.rd s):=by
  intro v hv
  cases v with
  |bool t =>
   cases t with
   |true =>
    rcases ha s with h|h
    ·exact .inl h
    ·exact .inr (NSem.cond (t:=true) hv (fun _=>h) (fun h=>by cases h))
   |false =>
    rcases hb s with h|h
    ·exact .inl h
    ·exact .inr (NSem.cond (t:=false) hv (fun h=>by cases h) (fun _=>h))
  |_=>exact .inl (zAt _ _ _)
 rw [hx]
 exact key _ rfl
theorem yEk {id:Nat} {a:Code} {A:St→Out} (ha:zIb fr a A):zIb fr (.block id a) (zO7 fr id A):=by
 intro s
 have hx:zO7 fr id A s=zJj (.fail fr.f 8831 id) (zW6 id (A s)):=rfl
 have he:Fails (.fail fr.f 8831 id):=zAt _ _ _
 by_cases hf:Fails (zO7 fr id A s)
 ·exact .inl hf
 have mg:∀ {x:Out},Leaf x (zW6 id (A s))→Leaf x (zO7 fr id A s)∨∃ t u,x=.norm t∧LeS t u∧Leaf (.norm u) (zO7 fr id A s):=by
  intro x h
  rw [hx] at hf ⊢
  exact yCp he _ x hf h
 have mgn:∀ {t:St},Leaf (.norm t) (zW6 id (A s))→∃ u,LeA (toAS fr.rd t) u∧IsX fr.rd (zO7 fr id A s) .normal u:=by
  intro t h
  rcases mg h with h|⟨t',u,h1,h2,h3⟩
  ·exact ⟨_,LeA.refl _,t,h,rfl⟩
  ·injection h1 with h1
   subst h1
   exact ⟨_,h2.toA,u,h3,rfl⟩
 rcases ha s with ⟨f,r,i,h⟩|h
 ·refine .inl ?_
  rcases mg (zMa (id:=id) h _ rfl) with h|⟨_,_,h1,_⟩
  ·exact ⟨f,r,i,h⟩
  ·cases h1
 ·refine .inr (NSem.block (NSem.post (fun e s' hk=>?_) h))
  cases e with
  |normal=>obtain ⟨t,ht,rfl⟩:=hk;exact mgn (zMa (id:=id) ht _ rfl)
  |exit i =>
   obtain ⟨t,ht,rfl⟩:=hk
   have hs:=zMa (id:=id) ht
   have hs':zW6 id (.exit i t)=Bool.rec (.exit i t) (.norm t) (Nat.beq i id):=rfl
   rw [hs'] at hs
   simp only [zUr]
   cases hb:Nat.beq i id with
   |true=>rw [hb] at hs;exact mgn (hs _ rfl)
   |false =>
    rw [hb] at hs
    rcases mg (hs _ rfl) with h|⟨_,_,h1,_⟩
    ·exact ⟨_,LeA.refl _,t,h,rfl⟩
    ·cases h1
  |ret =>
   obtain ⟨t,ht,rfl⟩:=hk
   rcases mg (zMa (id:=id) ht _ rfl) with h|⟨_,_,h1,_⟩
   ·exact ⟨_,LeA.refl _,t,h,rfl⟩
   ·cases h1
  |panic v =>
   obtain ⟨t,ht,rfl⟩:=hk
   rcases mg (zMa (id:=id) ht _ rfl) with h|⟨_,_,h1,_⟩
   ·exact ⟨_,LeA.refl _,t,h,rfl⟩
   ·cases h1
theorem yHc {a:Code} {A:St→Out} (ha:zIb fr a A):zIb fr (.loop a) (zO6 fuel fr A):=by
 intro s
 by_cases hf:Fails (zO6 fuel fr A s)
 ·exact .inl hf
 refine .inr ?_
 generalize ho:zO6 fuel fr A s=out at hf ⊢
 refine NSem.loop (fun k s'=>∃ t,s'=toAS fr.rd t∧Sub (zO6 k fr A t) out) fuel ⟨s,rfl,Sub.of_eq ho.symm⟩ fun k s' hI=>?_
 obtain ⟨t,rfl,ht⟩:=hI
 cases k with
 |zero=>exact absurd ((zAt _ _ _).sub ht) hf
 |succ k =>
  have hx:Sub (zYg (zO6 k fr A) (A t)) out:=ht
  rcases ha t with ⟨f,r,i,h⟩|h
  ·exact absurd (((zAt f r i).sub (zF1 (B:=zO6 k fr A) h)).sub hx) hf
  ·refine h.mono fun e s2 hk=>?_
   cases e with
   |normal=>obtain ⟨t',ht',rfl⟩:=hk;exact ⟨k,Nat.lt_succ_self k,t',rfl,(zF1 (B:=zO6 k fr A) ht').trans hx⟩
   |exit i=>obtain ⟨t',ht',rfl⟩:=hk;exact ⟨t',hx _ (zF1 (B:=zO6 k fr A) ht' _ rfl),rfl⟩
   |ret=>obtain ⟨t',ht',rfl⟩:=hk;exact ⟨t',hx _ (zF1 (B:=zO6 k fr A) ht' _ rfl),rfl⟩
   |panic v=>obtain ⟨t',ht',rfl⟩:=hk;exact ⟨t',hx _ (zF1 (B:=zO6 k fr A) ht' _ rfl),rfl⟩
theorem yB6 (hcall:zMt call) {g:Operand} {ps:Array Tmp} {asg bd:Code}:zIb fr (.rangeFunc g ps asg bd) (zVd call fr g ps asg bd):=by
 intro s
 obtain ⟨τ,H,n,ds⟩:=s
 obtain ⟨f,nt,rd⟩:=fr
 by_cases hf:Fails (zVd call ⟨f,nt,rd⟩ g ps asg bd ⟨τ,H,n,ds⟩)
 ·exact .inl hf
 refine .inr ?_
 cases rd with
 |some l=>exact absurd (zAt _ _ _) hf
 |none =>
  have hx:zVd call ⟨f,nt,Option.none⟩ g ps asg bd ⟨τ,H,n,ds⟩=yC6 (ev g τ) (.fail f 8805 0) fun v=>setK (some (.o .defs)) (bits n) H fun H1=>fNat (Nat.succ n) fun n1 =>
   setK (some (.loop .ready Option.none nt τ ps.toList asg bd n f)) (bits n1) H1 fun H2=>fNat (Nat.succ n1) fun n2 =>
   yGw (.fail f 8806 0) τ ds n (call v [.yield n1] H2 n2):=rfl
  generalize zVd call ⟨f,nt,Option.none⟩ g ps asg bd ⟨τ,H,n,ds⟩=out at hx hf ⊢
  simp only [zBw,zEl] at hx
  rw [zFx] at hx
  rcases zZj (zAx (envT τ) g) (.fail f 8805 0) (fun v=>yGw (.fail f 8806 0) τ ds n (call v [.yield (n+1)] (setP (some (.loop .ready Option.none nt τ ps.toList asg bd n f)) (bits (n+1)) (setP (some (.o .defs)) (bits n) H)) (n+1+1))) with h|⟨g',a,b,hv,h⟩
  ·exact absurd (by rw [hx,h];exact zAt _ _ _) hf
  ·rw [h] at hx
   have hk:=hcall (zAx (envT τ) g) [.yield (n+1)] (setP (some (.loop .ready Option.none nt τ ps.toList asg bd n f)) (bits (n+1)) (setP (some (.o .defs)) (bits n) H)) (n+1+1)
   generalize call (zAx (envT τ) g) [.yield (n+1)] (setP (some (.loop .ready Option.none nt τ ps.toList asg bd n f)) (bits (n+1)) (setP (some (.o .defs)) (bits n) H)) (n+1+1)=co at hk hx
   rcases hk with hk|hk
   ·refine absurd ?_ hf
    rw [hx]
    cases co with
    |val v H n=>obtain ⟨_,_,_,h⟩:=hk;cases h
    |thr v H n=>obtain ⟨_,_,_,h⟩:=hk;cases h
    |_=>exact zAt _ _ _
   ·rw [hv] at hk
    have hk:zEp Tryz.prog g' (a++[.yield (n+1)]++b) (hpT (setP (some (.loop .ready Option.none nt τ ps.toList asg bd n f)) (bits (n+1)) (setP (some (.o .defs)) (bits n) H))) (n+1+1) (IsV co):=hk
    rw [zEj,zEj] at hk
    refine NSem.rangeFunc (s:=toAS Option.none ⟨τ,H,n,ds⟩) rfl hv (hk.mono fun ao h' n' hq=>?_)
    cases ao with
    |ret v =>
     obtain ⟨H',rfl,rfl⟩:=hq
     have hx:out=zP6 (getP (bits (Nat.succ n)) H') (.fail f 8806 0) fun st pend _ _ _ _ _ _ _=>Bool.rec (.fail f 8806 0) (setK Option.none (bits (Nat.succ n)) H' fun H=>yHi pend (.fail f 8806 0) ⟨τ,H,n',.coll n::ds⟩) (z6i st):=hx
     rcases zKy (getP (bits (Nat.succ n)) H') (.fail f 8806 0) (fun st pend _ _ _ _ _ _ _=>Bool.rec (.fail f 8806 0) (setK Option.none (bits (Nat.succ n)) H' fun H=>yHi pend (.fail f 8806 0) ⟨τ,H,n',.coll n::ds⟩) (z6i st)) with h1|⟨st,pend,nt',env,ps',asg',bd',d,f',h1,h2⟩
     ·exact absurd (by rw [hx,h1];exact zAt _ _ _) hf
     ·rw [h2,zBw,brec] at hx
      split at hx
      ·rename_i hst
       refine ⟨st,pend,nt',envT env,ps',asg',bd',d,zUg h1,?_,?_⟩
       ·intro e;subst e;cases hst
       ·have e1:toAS Option.none ⟨τ,setP Option.none (bits (Nat.succ n)) H',n',.coll n::ds⟩={ toAS Option.none ⟨τ,H,n,ds⟩ with h:=upd (hpT H') (n+1) Option.none,n:=n',ds:=.coll n::ds }:=by simp only [toAS,zOw]
        cases pend with
        |none=>exact ⟨⟨τ,setP Option.none (bits (Nat.succ n)) H',n',.coll n::ds⟩,by rw [hx];rfl,e1.symm⟩
        |some c =>
         cases c with
         |ret=>exact ⟨rfl,NSem.ret ⟨⟨τ,setP Option.none (bits (Nat.succ n)) H',n',.coll n::ds⟩,by rw [hx];rfl,e1.symm⟩⟩
         |exit i=>exact ⟨rfl,NSem.exit ⟨⟨τ,setP Option.none (bits (Nat.succ n)) H',n',.coll n::ds⟩,by rw [hx];rfl,e1.symm⟩⟩
         |_=>exact absurd (by rw [hx];exact zAt _ _ _) hf
      ·exact absurd (by rw [hx];exact zAt _ _ _) hf
    |panic v =>
     obtain ⟨H',rfl,rfl⟩:=hq
     exact ⟨⟨τ,H',n',.coll n::ds⟩,by rw [hx];rfl,rfl⟩
theorem yL7 (hcall:zMt call):∀ c:Code,chkC hn fr.f c=true→zIb fr c (exC hn fuel call fr c):=by
 intro c
 induction c with
 |skip=>intro _ s;exact .inr (NSem.skip ⟨s,rfl,rfl⟩)
 |region id ops draw =>
  cases draw with
  |false =>
   intro _ s
   by_cases hf:Fails (seqX call (hn.own fr.f id) fr id ops (zAm ops.toList ops.toList) s)
   ·exact .inl hf
   ·exact .inr (NSem.region (yGn hcall (hn.own fr.f id) fr id ops ops.toList s _ hf fun _ _ h=>h))
  |true=>exact fun hc s=>yD6 hcall fr id ops hc s
 |seq a b iha ihb=>intro hc;simp only [chkC,Bool.and_eq_true] at hc;exact seq_ok (iha hc.1) (ihb hc.2)
 |cond c a b iha ihb=>intro hc;simp only [chkC,Bool.and_eq_true] at hc;exact yIj (iha hc.1) (ihb hc.2)
 |block id a ih=>intro hc;exact yEk (ih hc)
 |loop a ih=>intro hc;exact yHc (ih hc)
 |rangeFunc g ps asg bd _ _=>intro _;exact yB6 hcall
 |exit id=>intro _ s;exact .inr (NSem.exit ⟨s,rfl,rfl⟩)
 |scope a _=>intro _ s;exact .inl (zAt _ _ _)
 |label l=>intro _ s;exact .inr (NSem.label ⟨s,rfl,rfl⟩)
 |goto l=>intro _ s;exact .inl (zAt _ _ _)
 |ret=>intro _ s;exact .inr (NSem.ret ⟨s,rfl,rfl⟩)
 |refuse w=>intro _ s;exact .inl (zAt _ _ _)
end
def yA7 (hn:zNv):Prop:=∀ g fn c,fnAt g=some (fn,c)→chkC hn g c=true
theorem zCa {o x:Out} (h:Leaf x o) (hn:∀ a b,o≠.alt a b):o=x:=by
 cases o with
 |alt a b=>exact absurd rfl (hn a b)
 |_=>exact Eq.symm h
def ExOK (hn:zNv) (ex:Fr→Code→St→Out):Prop:=∀ fr c,chkC hn fr.f c=true→zIb fr c (ex fr c)
noncomputable def zIw:List AV→Nat→Tr AV→Tr AV
 |[],_,τ=>τ
 |a::l,i,τ=>zIw l (i+1) (setP (some a) (bits i) τ)
theorem zQs:∀ (l:List AV) (i:Nat) (τ:Tr AV) (k:Tr AV→Out),zSs l i τ k=k (zIw l i τ)
 |[],i,τ,k=>rfl
 |a::l,i,τ,k=>by
  show (fV a fun a=>setK (some a) (bits i) τ fun τ=>zSs l (Nat.succ i) τ k)=_
  rw [zK9,zBw,zQs l]
  rfl
theorem zSr:∀ (l:List AV) (i:Nat) (τ:Tr AV) (t:Nat),envT (zIw l i τ) t=if t<i then envT τ t else (l[t - i]?).getD (envT τ t)
 |[],i,τ,t=>by simp [zIw]
 |a::l,i,τ,t=>by
  rw [zIw,zSr l,zOz]
  simp only [eupd]
  by_cases h1:t<i
  ·have h2:(t==i)=false:=by simpa using (by omega:t≠i)
   rw [if_pos (by omega),if_pos h1,h2];rfl
  ·rw [if_neg h1]
   by_cases h3:t=i
   ·subst h3
    rw [if_pos (by omega)]
    simp
   ·have h2:(t==i)=false:=by simpa using h3
    rw [if_neg (by omega),h2]
    rw [show t - i=(t - (i+1))+1 by omega,List.getElem?_cons_succ];rfl
theorem zW8 (l:List AV):envT (zIw l 0 .nil)=zIx l:=by
 funext t
 rw [zSr]
 have:envT (Tr.nil:Tr AV) t=.tuple []:=by
  show Option.rec (motive:=fun _=>AV) _ _ (getP (bits t) Tr.nil)=_
  rw [zD9]
 rw [this,if_neg (by omega),Nat.sub_zero,zIx,List.getD_eq_getElem?_getD]
noncomputable def zipT:List Nat→List AV→Tr AV→Tr AV
 |p::ps,a::l,τ=>zipT ps l (setP (some a) (bits p) τ)
 |_,_,τ=>τ
theorem z5b:∀ (ps:List Nat) (l:List AV) (τ:Tr AV) (k:Tr AV→Out),zipK ps l τ k=k (zipT ps l τ)
 |[],l,τ,k=>by cases l <;> rfl
 |p::ps,[],τ,k=>rfl
 |p::ps,a::l,τ,k=>by
  show (fV a fun a=>setK (some a) (bits p) τ fun τ=>zipK ps l τ k)=_
  rw [zK9,zBw,z5b ps l]
  rfl
theorem z1w:∀ (ps:List Nat) (l:List AV) (τ:Tr AV),envT (zipT ps l τ)=zKg (envT τ) ps l
 |[],l,τ=>by cases l <;> rfl
 |p::ps,[],τ=>rfl
 |p::ps,a::l,τ=>by rw [zipT,z1w ps l,zOz];rfl
theorem yGx (τ:Tr AV) (H:Tr XObj) (r:ResultVar) (err:Out) (k:AV→Out):res1 τ H r err k=match zZ7 Tryz.prog (envT τ) (hpT H) r with|some v=>k v|Option.none=>err:=by
 cases r with
 |tmp t=>exact zK9 _ _
 |cell a t =>
  show z8p t (evT a τ) err H (fun v=>fV v k)=_
  rw [z1d]
  simp only [zK9]
  rfl
theorem zYt (err:Out) (τ:Tr AV) (H:Tr XObj):∀ (rs:List ResultVar) (k:List AV→Out),resX err τ H rs k=match zFo Tryz.prog (envT τ) (hpT H) rs with|some vs=>k vs|Option.none=>err
 |[],k=>rfl
 |r::rs,k=>by
  show res1 τ H r err (fun v=>resX err τ H rs fun vs=>k (v::vs))=_
  rw [yGx]
  simp only [zFo]
  cases zZ7 Tryz.prog (envT τ) (hpT H) r with
  |none=>rfl
  |some v =>
   simp only
   rw [zYt err τ H rs]
   cases zFo Tryz.prog (envT τ) (hpT H) rs <;> rfl
theorem yCd (l:List AV) (k:AV→Out):yG2 l k=k (zAo l):=by
 cases l with
 |nil=>rfl
 |cons a l=>cases l <;> rfl
theorem zQg {g:Nat} {fn:Func} {c:Code} (h:fnAt g=some (fn,c)):Tryz.prog.funcs[g]?=some fn∧fn.body=some c∧zC8 fn.ntmps c=true∧enters Tryz.prog g:=by
 unfold fnAt at h
 split at h
 ·rename_i fn' hf
  split at h
  ·rename_i c' hb
   cases hc : (zC8 fn'.ntmps c' && !(fn'.name == "runtime.NumGoroutine")) with
   |false=>rw [hc] at h;cases h
   |true =>
    rw [hc] at h
    simp only [cond_true,Option.some.injEq,Prod.mk.injEq] at h
    obtain ⟨rfl,rfl⟩:=h
    simp only [Bool.and_eq_true,Bool.not_eq_eq_eq_not,Bool.not_true] at hc
    have hf':Tryz.prog.funcs[g]?=some fn':=by simpa using hf
    exact ⟨hf',hb,hc.1,enters_of hf' hc.2 (by rw [hb];rfl)⟩
  ·cases h
 ·cases h
theorem zXf {c:Code} {o:Oper} {rest:Code} (h:zQx c=some (o,rest)):∃ id,c=.seq (.region id #[o] false) rest∧zG0 o=true:=by
 unfold zQx at h
 split at h
 ·rename_i id ops rest'
  split at h
  ·rename_i o' ho
   cases hr:zG0 o' with
   |false=>rw [hr] at h;cases h
   |true =>
    rw [hr] at h
    simp only [cond_true,Option.some.injEq,Prod.mk.injEq] at h
    obtain ⟨rfl,rfl⟩:=h
    have:ops=#[o']:=by rw [← Array.toList_inj];simpa using ho
    subst this
    exact ⟨id,rfl,hr⟩
  ·cases h
 ·cases h
section
variable {hn:zNv} {ex:Fr→Code→St→Out} (hall:yA7 hn) (hex:ExOK hn ex)
include hall hex
theorem z6y {err:Out} (he:Fails err) (g:Nat) (args:List AV) (H:Tr XObj) (n:Nat) (pv:Option AV) (k:Tr XObj→Nat→Out) :
  Fails (zLz ex err g args H n pv k)∨(enters Tryz.prog g∧NDef Tryz.prog g args (hpT H) n pv fun h' n'=>∃ H',h'=hpT H'∧zLz ex err g args H n pv k=k H' n'):=by
 have hx:zLz ex err g args H n pv k=Option.rec (motive:=fun _=>Out) err (fun q=>Option.rec (motive:=fun _=>Out) err (fun oc=>Bool.rec err
  (zSs args 0 .nil fun τ=>rPut oc.1.dst (pv.getD .nilI) τ fun τ=>yFl err q.1.results.toList k (ex ⟨g,q.1.ntmps,Option.none⟩ oc.2 ⟨τ,H,n,[]⟩))
  (Nat.ble (lenN args) q.1.ntmps)) (zQx q.2)) (fnAt g):=rfl
 generalize zLz ex err g args H n pv k=out at hx ⊢
 rw [orec] at hx
 cases hfn:fnAt g with
 |none=>rw [hfn] at hx;exact .inl (hx ▸ he)
 |some q =>
  obtain ⟨fn,c⟩:=q
  obtain ⟨hf,hb,hok,hent⟩:=zQg hfn
  have hchk:=hall _ _ _ hfn
  rw [hfn] at hx
  simp only at hx
  rw [orec] at hx
  cases hdc:zQx c with
  |none=>rw [hdc] at hx;exact .inl (hx ▸ he)
  |some oc =>
   obtain ⟨o,rest⟩:=oc
   obtain ⟨id,rfl,hro⟩:=zXf hdc
   rw [hdc] at hx
   simp only at hx
   rw [brec] at hx
   split at hx
   ·rename_i hlen
    rw [zEo,zIi] at hlen
    rw [zQs,zM9] at hx
    by_cases hf2:Fails out
    ·exact .inl hf2
    refine .inr ⟨hent,NDef.of_sem hf hb hro hok hlen ?_⟩
    have hna:∀ a b,ex ⟨g,fn.ntmps,Option.none⟩ rest ⟨putT o.dst (pv.getD .nilI) (zIw args 0 .nil),H,n,[]⟩≠.alt a b:=fun a b h=>hf2 (by rw [hx,h];exact he)
    rcases hex ⟨g,fn.ntmps,Option.none⟩ rest (by simp only [chkC,Bool.and_eq_true] at hchk;exact hchk.2) ⟨putT o.dst (pv.getD .nilI) (zIw args 0 .nil),H,n,[]⟩ with h|h
    ·obtain ⟨x,y,z,h⟩:=h
     have h:=zCa h hna
     exact absurd (by rw [hx,h];exact zAt _ _ _) hf2
    ·have e1:toAS Option.none ⟨putT o.dst (pv.getD .nilI) (zIw args 0 .nil),H,n,[]⟩=⟨aPut (zIx args) o.dst (pv.getD .nilI),hpT H,n,[],Option.none⟩:=by simp only [toAS,zF3,zW8]
     have h:=h
     rw [e1] at h
     refine h.mono fun e s' hk=>?_
     have fin:∀ t:St,out=List.rec (motive:=fun _=>Out) (resX err t.τ t.H fn.results.toList fun _=>k t.H t.n) (fun _ _ _=>err) t.ds →
       t.ds=[]∧(∃ vs,zFo Tryz.prog (envT t.τ) (hpT t.H) fn.results.toList=some vs)∧∃ H',hpT t.H=hpT H'∧out=k H' t.n:=by
      intro t ht
      obtain ⟨τ',H',n',ds'⟩:=t
      cases ds' with
      |cons d ds'=>exact absurd (by rw [ht];exact he) hf2
      |nil =>
       have ht:out=resX err τ' H' fn.results.toList fun _=>k H' n':=ht
       rw [zYt] at ht
       cases hr:zFo Tryz.prog (envT τ') (hpT H') fn.results.toList with
       |none=>rw [hr] at ht;exact absurd (by rw [ht];exact he) hf2
       |some vs=>rw [hr] at ht;exact ⟨rfl,⟨vs,rfl⟩,H',rfl,ht⟩
     cases e with
     |normal=>obtain ⟨t,ht,rfl⟩:=hk;have ht:=zCa ht hna;exact fin t (by rw [hx,ht];rfl)
     |ret=>obtain ⟨t,ht,rfl⟩:=hk;have ht:=zCa ht hna;exact fin t (by rw [hx,ht];rfl)
     |exit i=>obtain ⟨t,ht,rfl⟩:=hk;have ht:=zCa ht hna;exact absurd (by rw [hx,ht];exact he) hf2
     |panic v=>obtain ⟨t,ht,rfl⟩:=hk;have ht:=zCa ht hna;exact absurd (by rw [hx,ht];exact he) hf2
   ·exact .inl (hx ▸ he)
theorem z8t {err:Out} (he:Fails err) (fn:Func) (τ:Tr AV):∀ (ds:List ADef) (pv:Option AV) (H:Tr XObj) (n:Nat) (ds0:List ADef),
  Fails (zGz ex err fn.results.toList τ ds pv H n)∨zJl Tryz.prog fn (IsV (zGz ex err fn.results.toList τ ds pv H n)) ds pv ⟨envT τ,hpT H,n,ds0,Option.none⟩:=by
 intro ds
 induction ds with
 |nil =>
  intro pv H n ds0
  cases pv with
  |none =>
   have hx:zGz ex err fn.results.toList τ [] Option.none H n=resX err τ H fn.results.toList fun vs=>yG2 vs fun v=>.val v H n:=rfl
   rw [hx,zYt]
   cases hr:zFo Tryz.prog (envT τ) (hpT H) fn.results.toList with
   |none=>exact .inl he
   |some vs =>
    refine .inr ⟨vs,hr,EndV.of ?_⟩
    simp only [yCd]
    exact ⟨H,rfl,rfl⟩
  |some v=>exact .inr (EndV.of ⟨H,rfl,rfl⟩)
 |cons d ds ih =>
  intro pv H n ds0
  cases d with
  |coll k =>
   have hx:zGz ex err fn.results.toList τ (.coll k::ds) pv H n=Bool.rec err (setK Option.none (bits k) H fun H=>zGz ex err fn.results.toList τ ds pv H n) (z9d (getP (bits k) H)):=rfl
   rw [hx,brec,zBw]
   split
   ·rename_i hd
    rcases ih pv (setP Option.none (bits k) H) n ds0 with h|h
    ·exact .inl h
    ·refine .inr ⟨?_,?_⟩
     ·unfold z9d at hd
      split at hd
      ·rename_i hg;show hpT H k=_;unfold hpT;rw [hg];rfl
      ·cases hd
     ·rw [zOw] at h;exact h
   ·exact .inl he
  |fn f args =>
   have hx:zGz ex err fn.results.toList τ (.fn f args::ds) pv H n=defF f err fun g a b=>zLz ex err g (a++args++b) H n pv fun H n=>zGz ex err fn.results.toList τ ds Option.none H n:=rfl
   rw [hx]
   cases f with
   |func fv a b =>
    cases fv with
    |func g =>
     show Fails (zLz ex err g (a++args++b) H n pv fun H n=>zGz ex err fn.results.toList τ ds Option.none H n)∨zJl Tryz.prog fn (IsV (zLz ex err g (a++args++b) H n pv fun H n=>zGz ex err fn.results.toList τ ds Option.none H n)) _ pv _
     rcases z6y hall hex he g (a++args++b) H n pv (fun H n=>zGz ex err fn.results.toList τ ds Option.none H n) with h|⟨h1,h2⟩
     ·exact .inl h
     ·by_cases hf:Fails (zLz ex err g (a++args++b) H n pv fun H n=>zGz ex err fn.results.toList τ ds Option.none H n)
      ·exact .inl hf
      refine .inr ⟨g,a,b,rfl,h1,?_⟩
      intro F m G W vargs u hF hr sim hn rl rm
      refine (h2 F m G W vargs u hF hr sim hn rl rm).mono fun e u' W' hq=>?_
      obtain ⟨rv,h',G',e1,⟨H',rfl,hk⟩,rest⟩:=hq
      refine ⟨rv,_,G',e1,?_,rest⟩
      rcases ih Option.none H' G'.n ds0 with h3|h3
      ·exact absurd (hk ▸ h3) hf
      ·rw [hk];exact h3
    |_=>exact .inl he
   |_=>exact .inl he
theorem yEb (g:Nat) (args:List AV) (H:Tr XObj) (n:Nat):Fails (yAb ex g args H n)∨zEp Tryz.prog g args (hpT H) n (IsV (yAb ex g args H n)):=by
 have hx:yAb ex g args H n=Option.rec (motive:=fun _=>Out) (.fail g 8811 0) (fun q=>Bool.rec (.fail g 8812 0)
  (zSs args 0 .nil fun τ=>yAm ex (.fail g 8813 0) q.1.results.toList (ex ⟨g,q.1.ntmps,Option.none⟩ q.2 ⟨τ,H,n,[]⟩))
  (Nat.ble (lenN args) q.1.ntmps)) (fnAt g):=rfl
 generalize yAb ex g args H n=out at hx ⊢
 rw [orec] at hx
 cases hfn:fnAt g with
 |none=>rw [hfn] at hx;exact .inl (hx ▸ zAt _ _ _)
 |some q =>
  obtain ⟨fn,c⟩:=q
  obtain ⟨hf,hb,hok,hent⟩:=zQg hfn
  have hchk:=hall _ _ _ hfn
  rw [hfn] at hx
  simp only at hx
  rw [brec] at hx
  split at hx
  ·rename_i hlen
   rw [zEo,zIi] at hlen
   rw [zQs] at hx
   by_cases hf2:Fails out
   ·exact .inl hf2
   have he:Fails (.fail g 8813 0):=zAt _ _ _
   refine .inr (zEp.of_semM hf hb hok hlen hent ?_)
   have hna:∀ a b,ex ⟨g,fn.ntmps,Option.none⟩ c ⟨zIw args 0 .nil,H,n,[]⟩≠.alt a b:=fun a b h=>hf2 (by rw [hx,h];exact he)
   rcases hex ⟨g,fn.ntmps,Option.none⟩ c hchk ⟨zIw args 0 .nil,H,n,[]⟩ with h|h
   ·obtain ⟨x,y,z,h⟩:=h
    have h:=zCa h hna
    exact absurd (by rw [hx,h];exact zAt _ _ _) hf2
   ·have e1:toAS Option.none ⟨zIw args 0 .nil,H,n,[]⟩=⟨zIx args,hpT H,n,[],Option.none⟩:=by simp only [toAS,zW8]
    have h:=h
    rw [e1] at h
    refine h.mono fun e s' hk=>?_
    have fin:∀ (t:St) (pv:Option AV),out=zGz ex (.fail g 8813 0) fn.results.toList t.τ t.ds pv t.H t.n→zJl Tryz.prog fn (IsV out) t.ds pv (toAS Option.none t):=by
     intro t pv ht
     rcases z8t hall hex he fn t.τ t.ds pv t.H t.n t.ds with h3|h3
     ·exact absurd (ht ▸ h3) hf2
     ·rw [ht];exact h3
    cases e with
    |normal=>obtain ⟨t,ht,rfl⟩:=hk;have ht:=zCa ht hna;exact fin t Option.none (by rw [hx,ht];rfl)
    |ret=>obtain ⟨t,ht,rfl⟩:=hk;have ht:=zCa ht hna;exact fin t Option.none (by rw [hx,ht];rfl)
    |exit i=>obtain ⟨t,ht,rfl⟩:=hk;have ht:=zCa ht hna;exact absurd (by rw [hx,ht];exact he) hf2
    |panic v=>obtain ⟨t,ht,rfl⟩:=hk;have ht:=zCa ht hna;exact fin t (some v) (by rw [hx,ht];rfl)
  ·exact .inl (hx ▸ zAt _ _ _)
omit hall hex in
theorem zR5 (l:Nat) (st st':LoopState) (hst:st=.ready∨st=.busy) (pend':Option Code) (err:Out) (H:Tr XObj) (k:Tr XObj→Out) :
  zGu l st st' pend' err H k=err∨∃ nt env ps asg bd d H',hpT H l=some (.loop st Option.none nt env ps asg bd d)∧hpT H'=upd (hpT H) l (some (.loop st' pend' nt env ps asg bd d))∧zGu l st st' pend' err H k=k H':=by
 unfold zGu
 rcases zKy (getP (bits l) H) err (fun st0 pend nt env ps asg bd d f=>Option.rec (motive:=fun _=>Out)
  (Bool.rec err (setK (some (.loop st' pend' nt env ps asg bd d f)) (bits l) H k) (yE7 st st0)) (fun _=>err) pend) with h|⟨st0,pend,nt,env,ps,asg,bd,d,f,h1,h2⟩
 ·exact .inl h
 ·rw [h2]
  cases pend with
  |some c=>exact .inl rfl
  |none =>
   simp only [zBw]
   by_cases e:st0=st
   ·subst e
    refine .inr ⟨nt,envT env,ps,asg,bd,d,_,zUg h1,zEj H l (.loop st' pend' nt env ps asg bd d f),?_⟩
    rcases hst with rfl|rfl <;> rfl
   ·refine .inl ?_
    rcases hst with rfl|rfl <;> cases st0 <;> first|rfl|exact absurd rfl e
omit hall in
theorem z6z (l:Nat) (args:List AV) (H:Tr XObj) (n:Nat):Fails (zR8 hn ex l args H n)∨zIy Tryz.prog l args (hpT H) n (IsV (zR8 hn ex l args H n)):=by
 by_cases hf:Fails (zR8 hn ex l args H n)
 ·exact .inl hf
 refine .inr ?_
 have hx:zR8 hn ex l args H n=zP6 (getP (bits l) H) (.fail l 8814 0) fun st pend nt env ps asg bd d f=>Option.rec (motive:=fun _=>Out)
  (match st with
  |.ready=>Bool.rec (.fail f 8815 0) (zipK ps args env fun τ=>Out.rec (motive:=fun _=>Out) .fail
    (fun s=>zGu l .ready .busy Option.none (.fail f 8816 0) s.H fun H=>roundEnd l (.fail f 8817 0) (ex ⟨f,nt,some l⟩ bd ⟨s.τ,H,s.n,s.ds⟩))
    (fun _ _=>.fail f 8818 0) (fun _=>.fail f 8818 1) (fun _ _=>.fail f 8818 2) (fun _ _ _=>.fail f 8818 3) (fun _ _ _=>.fail f 8818 4) (fun _ _ _ _=>.fail f 8818 5)
    (ex ⟨f,nt,some l⟩ asg ⟨τ,H,n,[]⟩)) (Nat.beq (lenN args) (lenN ps)&&(chkC hn f asg&&chkC hn f bd))
  |_=>.fail f 8819 0) (fun _=>.fail f 8820 0) pend:=rfl
 generalize zR8 hn ex l args H n=out at hx hf ⊢
 rcases zKy (getP (bits l) H) (.fail l 8814 0) (fun st pend nt env ps asg bd d f=>Option.rec (motive:=fun _=>Out)
  (match st with
  |.ready=>Bool.rec (.fail f 8815 0) (zipK ps args env fun τ=>Out.rec (motive:=fun _=>Out) .fail
    (fun s=>zGu l .ready .busy Option.none (.fail f 8816 0) s.H fun H=>roundEnd l (.fail f 8817 0) (ex ⟨f,nt,some l⟩ bd ⟨s.τ,H,s.n,s.ds⟩))
    (fun _ _=>.fail f 8818 0) (fun _=>.fail f 8818 1) (fun _ _=>.fail f 8818 2) (fun _ _ _=>.fail f 8818 3) (fun _ _ _=>.fail f 8818 4) (fun _ _ _ _=>.fail f 8818 5)
    (ex ⟨f,nt,some l⟩ asg ⟨τ,H,n,[]⟩)) (Nat.beq (lenN args) (lenN ps)&&(chkC hn f asg&&chkC hn f bd))
  |_=>.fail f 8819 0) (fun _=>.fail f 8820 0) pend) with h|⟨st,pend,nt,env,ps,asg,bd,d,f,h1,h2⟩
 ·exact absurd (by rw [hx,h];exact zAt _ _ _) hf
 rw [h2] at hx
 cases pend with
 |some c=>exact absurd (by rw [hx];exact zAt _ _ _) hf
 |none =>
  cases st with
  |ready =>
   simp only at hx
   rw [brec] at hx
   split at hx
   ·rename_i hlen
    simp only [Bool.and_eq_true,zB0,zIi] at hlen
    obtain ⟨hlen,hca,hcb⟩:=hlen
    rw [z5b] at hx
    refine zIy.of_sem (zUg h1) hlen ?_
    have hna:∀ a b,ex ⟨f,nt,some l⟩ asg ⟨zipT ps args env,H,n,[]⟩≠.alt a b:=fun a b h=>hf (by rw [hx,h];exact zAt _ _ _)
    rcases hex ⟨f,nt,some l⟩ asg hca ⟨zipT ps args env,H,n,[]⟩ with h|h
    ·obtain ⟨x,y,z,h⟩:=h
     have h:=zCa h hna
     exact absurd (by rw [hx,h];exact zAt _ _ _) hf
    ·have e1:toAS (some l) ⟨zipT ps args env,H,n,[]⟩=⟨zKg (envT env) ps args,hpT H,n,[],some l⟩:=by simp only [toAS,z1w]
     have h:=h
     rw [e1] at h
     refine h.mono fun e s' hk=>?_
     cases e with
     |normal =>
      obtain ⟨t,ht,rfl⟩:=hk
      have ht:=zCa ht hna
      have hx:out=zGu l .ready .busy Option.none (.fail f 8816 0) t.H fun H=>roundEnd l (.fail f 8817 0) (ex ⟨f,nt,some l⟩ bd ⟨t.τ,H,t.n,t.ds⟩):=by rw [hx,ht]
      rcases zR5 l .ready .busy (.inl rfl) Option.none (.fail f 8816 0) t.H (fun H=>roundEnd l (.fail f 8817 0) (ex ⟨f,nt,some l⟩ bd ⟨t.τ,H,t.n,t.ds⟩)) with h3|⟨nt',env',ps',asg',bd',d',H',h3,h4,h5⟩
      ·exact absurd (by rw [hx,h3];exact zAt _ _ _) hf
      ·rw [h5] at hx
       refine ⟨nt',env',ps',asg',bd',d',h3,?_⟩
       have e2:toAS (some l) ⟨t.τ,H',t.n,t.ds⟩={ toAS (some l) t with h:=upd (toAS (some l) t).h l (some (.loop .busy Option.none nt' env' ps' asg' bd' d')) }:=by simp only [toAS,h4]
       have hna2:∀ a b,ex ⟨f,nt,some l⟩ bd ⟨t.τ,H',t.n,t.ds⟩≠.alt a b:=fun a b h=>hf (by rw [hx,h];exact zAt _ _ _)
       rcases hex ⟨f,nt,some l⟩ bd hcb ⟨t.τ,H',t.n,t.ds⟩ with h6|h6
       ·obtain ⟨x,y,z,h6⟩:=h6
        have h6:=zCa h6 hna2
        exact absurd (by rw [hx,h6];exact zAt _ _ _) hf
       ·have h6:=h6
        rw [e2] at h6
        refine h6.mono fun e s2 hk=>?_
        have fin:∀ (t2:St) (st':LoopState) (pend':Option Code) (b:Bool),out=(zGu l .busy st' pend' (.fail f 8817 0) t2.H fun H=>.val (.bool b) H t2.n) →
          ∃ nt env ps asg bd d,hpT t2.H l=some (.loop .busy Option.none nt env ps asg bd d)∧IsV out (.ret (.bool b)) (upd (hpT t2.H) l (some (.loop st' pend' nt env ps asg bd d))) t2.n:=by
         intro t2 st' pend' b ht2
         rcases zR5 l .busy st' (.inr rfl) pend' (.fail f 8817 0) t2.H (fun H=>.val (.bool b) H t2.n) with h7|⟨nt',env',ps',asg',bd',d',H',h7,h8,h9⟩
         ·exact absurd (by rw [ht2,h7];exact zAt _ _ _) hf
         ·exact ⟨nt',env',ps',asg',bd',d',h7,H',by rw [ht2,h9],h8.symm⟩
        cases e with
        |normal=>obtain ⟨t2,ht2,rfl⟩:=hk;have ht2:=zCa ht2 hna2;exact fin t2 .ready Option.none true (by rw [hx,ht2];rfl)
        |ret=>obtain ⟨t2,ht2,rfl⟩:=hk;have ht2:=zCa ht2 hna2;exact fin t2 .done (some .ret) false (by rw [hx,ht2];rfl)
        |exit i=>obtain ⟨t2,ht2,rfl⟩:=hk;have ht2:=zCa ht2 hna2;exact fin t2 .done (some (.exit i)) false (by rw [hx,ht2];rfl)
        |panic v=>obtain ⟨t2,ht2,rfl⟩:=hk;have ht2:=zCa ht2 hna2;exact absurd (by rw [hx,ht2];exact zAt _ _ _) hf
     |exit i=>obtain ⟨t,ht,rfl⟩:=hk;have ht:=zCa ht hna;exact absurd (by rw [hx,ht];exact zAt _ _ _) hf
     |ret=>obtain ⟨t,ht,rfl⟩:=hk;have ht:=zCa ht hna;exact absurd (by rw [hx,ht];exact zAt _ _ _) hf
     |panic v=>obtain ⟨t,ht,rfl⟩:=hk;have ht:=zCa ht hna;exact absurd (by rw [hx,ht];exact zAt _ _ _) hf
   ·exact absurd (by rw [hx];exact zAt _ _ _) hf
  |_=>exact absurd (by rw [hx];exact zAt _ _ _) hf
theorem yEa:zMt (yIp hn ex):=by
 intro f args H n
 cases f with
 |func fn a b =>
  cases fn with
  |func g=>exact yEb hall hex g (a++args++b) H n
  |_=>exact .inl (zAt _ _ _)
 |yield l=>exact z6z hex l args H n
 |_=>exact .inl (zAt _ _ _)
end
theorem z18 {hn:zNv} (hall:yA7 hn) (fuel:Nat):∀ depth,zMt (yAc hn fuel depth)
 |0=>fun _ _ _ _=>.inl (zAt _ _ _)
 |d+1=>by
  have:yAc hn fuel (d+1)=fun f=>yIp hn (exC hn fuel (yAc hn fuel d)) f:=rfl
  rw [this]
  exact yEa hall fun fr c hc=>yL7 (z18 hall fuel d) c hc
end Go.Proofs.YthkjmiejaoomcaaGreat.Am
