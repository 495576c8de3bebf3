/- Part of the proof of a law of layer 5: own texts, joined. -/
import Derived.Test.YthkjmiejaoomcaaGreatVb
set_option linter.unusedVariables false
set_option linter.unusedSimpArgs false
set_option linter.unnecessarySimpa false
namespace Go.Proofs.YthkjmiejaoomcaaGreat.Am
open Go Go.RowKit Go.Proofs
set_option maxRecDepth 100000
set_option maxHeartbeats 1000000
structure vP where
 own:Nat→Nat→Bool
 plan:Nat→Nat→Option (Plan × List Nat)
abbrev pF:=AV→List AV→Tr XObj→Nat→Out
abbrev RunF:=Out→St→(St→Out)→(AV→St→Out)→Out
inductive PE where
 |free (i:Nat)
 |rd (i:Nat) (op:Op) (τ:Tr AV) (v:AV)
noncomputable section
def rPut (d:Option Nat):AV→Tr AV→(Tr AV→Out)→Out:=Option.rec (motive:=fun _=>AV→Tr AV→(Tr AV→Out)→Out) (fun v τ k=>k τ) (fun d v τ k=>setK (some v) (bits d) τ k) d
def rX (d:Option Nat) (F:OpF):RunF:=fun err s k pan=>St.rec (motive:=fun _=>Out) (fun τ H n ds=>F err τ H n fun v H n=>rPut d v τ fun τ=>k ⟨τ,H,n,ds⟩) s
def JO (d:Option Nat):RunF:=fun err s k pan=>St.rec (motive:=fun _=>Out) (fun τ H n ds=>rPut d (.tuple []) τ fun τ=>k ⟨τ,H,n,ds⟩) s
def Md:RunF:=fun err s k pan=>err
def y7 (d:Option Nat) (err:Out) (τ:Tr AV) (ds:List ADef) (k:St→Out) (pan:AV→St→Out) (o:Out):Out :=
 Out.rec (motive:=fun _=>Out) (fun f r i=>.fail f r i) (fun _=>err) (fun _ _=>err) (fun _=>err) (fun _ _=>err) (fun v H n=>rPut d v τ fun τ=>k ⟨τ,H,n,ds⟩) (fun v H n=>pan v ⟨τ,H,n,ds⟩) (fun _ _ _ _=>err) o
def Wq (call:pF) (d:Option Nat) (f:Operand) (args:Array Operand):RunF:=fun err s k pan=>St.rec (motive:=fun _=>Out) (fun τ H n ds=>y7 d err τ ds k pan (call (ev f τ) (evL args.toList τ) H n)) s
def panA (v:AV):Out→St→(AV→St→Out)→Out:=match v with
 |.iface t x=>fun err s pan=>pan (.iface t x) s
 |_=>fun err s pan=>err
def Mc (x:Operand):RunF:=fun err s k pan=>panA (ev x s.τ) err s pan
def defA (v:AV):Out→(AV→Out)→Out:=match v with
 |.func fn a b=>fun err k=>k (.func fn a b)
 |_=>fun err k=>err
def Me (rd:Option Nat) (d:Option Nat) (f:Operand) (args:Array Operand):RunF:=fun err s k pan=>St.rec (motive:=fun _=>Out)
 (fun τ H n ds=>Option.rec (motive:=fun _=>Out) (defA (ev f τ) err fun v=>yM (evL args.toList τ) fun l=>rPut d (.tuple []) τ fun τ=>k ⟨τ,H,n,.fn v l::ds⟩) (fun _=>err) rd) s
def Im (own:Bool) (d:Option Nat) (c:Call) (b:Builtin):RunF:=match b with
 |.recover=>Md
 |b=>rX d (lS own b c)
def Mf (call:pF) (own:Bool) (d:Option Nat) (c:Call) (cl:Callee):RunF:=match cl with
 |.builtin b=>Im own d c b
 |.value f=>Wq call d f c.args
 |.invoke _ _=>Md
def Il (rd:Option Nat) (d:Option Nat) (c:Call) (cl:Callee):RunF:=match cl with
 |.value f=>Me rd d f c.args
 |_=>Md
def BO (call:pF) (own:Bool) (rd:Option Nat) (d:Option Nat) (op:Op):RunF:=match op with
 |.call c=>Mf call own d c c.callee
 |.panic x=>Mc x
 |.defer c=>Il rd d c c.callee
 |op=>rX d (xop op)
def gSel (w:Bool) (v:AV):RunF→RunF→RunF:=match v with
 |.bool b=>fun go skip=>Bool.rec (Bool.rec go skip w) (Bool.rec skip go w) b
 |.tuple _=>fun go skip=>skip
 |_=>fun go skip=>Md
def stepG (d:Option Nat) (g:GT) (run:RunF):RunF:=match g with
 |.go=>run
 |.off=>JO d
 |.at_ t w=>fun err s k pan=>gSel w (evT t s.τ) run (JO d) err s k pan
def Gc (l:List Oper) (τ:Tr AV):Tr AV:=List.rec (motive:=fun _=>Tr AV) τ (fun o _ ih=>Option.rec (motive:=fun _=>Tr AV) ih (fun d=>setP (some .any) (bits d) ih) o.dst) l
def panX (ops:Array Oper):AV→St→Out:=fun v s=>St.rec (motive:=fun _=>Out) (fun τ H n ds=>.panic v ⟨Gc ops.toList τ,H,n,ds⟩) s
def dN (d:Option Nat):Nat:=Option.rec (motive:=fun _=>Nat) 9999 (fun d=>d) d
def seqX (call:pF) (own:Bool) (fr:Fr) (id:Nat) (ops:Array Oper) (l:List CO):St→Out :=
 List.rec (motive:=fun _=>St→Out) (fun s=>.norm s) (fun o _ ih s=>CO.rec (motive:=fun _=>Out) (fun d op g=>stepG d g (BO call own fr.rd d op) (.fail fr.f id (dN d)) s ih (panX ops)) o) l
def leq (f:AV→AV→Bool):List AV→List AV→Bool
 |[],[]=>true
 |a::l,b::m=>Bool.rec false (leq f l m) (f a b)
 |_,_=>false
def Uw (a b:AV):Bool:=match a,b with
 |.any,.any=>true
 |.someBool,.someBool=>true
 |.yield i,.yield j=>Nat.beq i j
 |.bool x,.bool y=>Bool.rec (Bool.rec true false y) y x
 |.int k x,.int k' y=>kEq k k'&&iEq x y
 |.str x,.str y=>O9 x y
 |.ptr i o,.ptr j p=>Nat.beq i j&&Nat.beq o p
 |.nilptr,.nilptr=>true
 |.sl i o n,.sl j p m=>Nat.beq i j&&Nat.beq o p&&Nat.beq n m
 |.map i,.map j=>Nat.beq i j
 |.nilmap,.nilmap=>true
 |.nilfunc,.nilfunc=>true
 |.nilI,.nilI=>true
 |_,_=>false
def Sn (a b:Tok):Bool:=match a,b with
 |.none,.none=>true
 |.full,.full=>true
 |.nil,.nil=>true
 |.id i,.id j=>Nat.beq i j
 |_,_=>false
def Uv (f:AV→AV→Bool) (a b:AV):Bool:=match a,b with
 |.cptr l o,.cptr m p=>Nat.beq o p&&leq f l m
 |.list z l n t,.list y m k u=>Nat.beq z y&&Nat.beq n k&&Sn t u&&leq f l m
 |.iface t v,.iface u w=>Nat.beq t u&&f v w
 |.agg l,.agg m=>leq f l m
 |.tuple l,.tuple m=>leq f l m
 |.func (.func g) l l',.func (.func g') m m'=>Nat.beq g g'&&leq f l m&&leq f l' m'
 |a,b=>Uw a b
def avEq (n:Nat):AV→AV→Bool:=Nat.rec (motive:=fun _=>AV→AV→Bool) (fun _ _=>false) (fun _ ih=>Uv ih) n
def peOk (st:List Nat) (H:Tr XObj) (q:PE):Bool:=match q with
 |.free _=>true
 |.rd i op τ v=>!(st.contains i)||Option.rec (motive:=fun _=>Bool) false (fun q=>avEq 100 q.1 v) (aop Tryz.prog op (aR (envT τ)) (hpT H) 0)
def Ia (st:List Nat) (T:List PE) (H:Tr XObj):Bool:=List.rec (motive:=fun _=>Bool) true (fun _ _ _=>allB (peOk st H) T) st
def SQ (i:Nat) (d:Option Nat) (op:Op) (T:List PE) (k:List PE→St→Out):RunF:=fun err s _ pan=>St.rec (motive:=fun _=>Out)
 (fun τ H n ds=>xop op err τ H n fun v _ _=>rPut d v τ fun τ'=>Bool.rec (k (.rd i op τ v::T) ⟨τ',H,n,ds⟩) (k (.free i::T) ⟨τ',H,n,ds⟩) (Nat.beq (kw op) 0)) s
def xS (i:Nat) (d:Option Nat) (T:List PE) (k:List PE→St→Out):RunF:=fun err s _ pan=>JO d err s (k (.free i::T)) pan
def Sr (i:Nat) (d:Option Nat) (g:GT) (op:Op) (T:List PE) (k:List PE→St→Out):RunF:=match g with
 |.go=>SQ i d op T k
 |.off=>xS i d T k
 |.at_ t w=>fun err s k' pan=>gSel w (evT t s.τ) (SQ i d op T k) (xS i d T k) err s k' pan
def I8 (l:List Nat):Bool:=match l with
 |[]=>true
 |_=>false
def Ca (j:Nat) (p:Plan):Bool:=match p with
 |.one j' st .done=>Nat.beq j j'&&I8 st
 |_=>false
def uS (o:CO):Option (TypeId × Operand × Operand):=match o with
 |⟨Option.none,.store T a x,.go⟩=>some (T,a,x)
 |_=>Option.none
def ptrA (v:AV):Option Nat:=match v with
 |.ptr i _=>some i
 |_=>Option.none
def Jp (a b:AV):Bool:=match ptrA a,ptrA b with
 |some i,some j=>!(Nat.beq i j)
 |_,_=>false
def twoS (err:Out) (p q:TypeId × Operand × Operand) (s:St):Out:=St.rec (motive:=fun _=>Out) (fun τ H n ds =>
 Bool.rec err (wh p.1 p.2.1 p.2.2 err τ H n fun _ H1 _=>wh q.1 q.2.1 q.2.2 err τ H1 n fun _ H2 _=>.norm ⟨τ,H2,n,ds⟩) (Jp (ev p.2.1 τ) (ev q.2.1 τ))) s
def twoX (err:Out) (cl:List CO) (i:Nat) (st:List Nat) (p:Plan) (j:Nat) (st':List Nat) (q:Plan) (s:St):Out :=
 Option.rec (motive:=fun _=>Out) err (fun c1=>Option.rec (motive:=fun _=>Out) err (fun c2=>Bool.rec err (twoS err c1 c2 s) (Ca j p&&Ca i q&&I8 st&&I8 st')) ((jE cl j).bind uS)) ((jE cl i).bind uS)
def drX (call:pF) (own:Bool) (fr:Fr) (id:Nat) (ops:Array Oper) (cl:List CO) (pl:Plan):List PE→St→Out :=
 Plan.rec (motive:=fun _=>List PE→St→Out) (fun _ s=>.norm s)
  (fun i _ ih T s=>Option.rec (motive:=fun _=>Out) (.fail fr.f id i) (fun o=>CO.rec (motive:=fun _=>Out) (fun d op g=>Sr i d g op T ih (.fail fr.f id i) s (fun s=>.fail fr.f id i) (panX ops)) o) (jE cl i))
  (fun i st _ ih T s=>Option.rec (motive:=fun _=>Out) (.fail fr.f id i) (fun o=>CO.rec (motive:=fun _=>Out) (fun d op g=>stepG d g (BO call own fr.rd d op) (.fail fr.f id i) s (fun s=>Bool.rec (.fail fr.f id i) (ih T s) (Ia st T s.H)) (panX ops)) o) (jE cl i))
  (fun i st p j st' q _ _ _ s=>twoX (.fail fr.f id i) cl i st p j st' q s) pl
def RJ (ops:Array Oper) (pl:Plan) (ord:List Nat):Bool :=
 jy (bf Tryz.prog ops) pl (Array.replicate ops.size false) []&&Nat.ble pl.len ops.size&&BV (bf Tryz.prog ops) ord (Array.replicate ops.size false)
def dQ (ops:Array Oper):List CO:=aF (bf Tryz.prog ops).toList (bf Tryz.prog ops).toList
def QN (hn:vP) (call:pF) (fr:Fr) (id:Nat) (ops:Array Oper):St→Out:=fun s =>
 Option.rec (motive:=fun _=>Out) (.fail fr.f id 8801) (fun q=>drX call (hn.own fr.f id) fr id ops (dQ ops) q.1 [] s) (hn.plan fr.f id)
def chkC (hn:vP) (f:Nat):Code→Bool
 |.region id ops draw=>bif draw then (match hn.plan f id with|some q=>RJ ops q.1 q.2|Option.none=>true) else true
 |.seq a b=>chkC hn f a&&chkC hn f b
 |.cond _ a b=>chkC hn f a&&chkC hn f b
 |.block _ a=>chkC hn f a
 |.loop a=>chkC hn f a
 |_=>true
def FM (B:St→Out) (o:Out):Out:=Out.rec (motive:=fun _=>Out) .fail B .exit .ret .panic .val .thr (fun _ _ x y=>.alt x y) o
def xSeq (A B:St→Out):St→Out:=fun s=>FM B (A s)
def Pz (v:AV) (fr:Fr):(St→Out)→(St→Out)→St→Out:=match v with
 |.bool b=>fun A B=>Bool.rec B A b
 |_=>fun A B s=>.fail fr.f 8803 0
def OV (fr:Fr) (c:Operand) (A B:St→Out):St→Out:=fun s=>Pz (ev c s.τ) fr A B s
def EL (id:Nat) (o:Out):Out:=Out.rec (motive:=fun _=>Out) .fail .norm (fun i s=>Bool.rec (.exit i s) (.norm s) (Nat.beq i id)) .ret .panic .val .thr (fun _ _ x y=>.alt x y) o
def Gr {β:Type} (x y:AV) (k:AV→β):β:=Bool.rec (k .any) (k x) (avEq 100 x y)
def Ki (x y:Option AV) {β:Type} (k:Option AV→β):β :=
 Option.rec (motive:=fun _=>β) (Option.rec (motive:=fun _=>β) (k Option.none) (fun _=>k (some .any)) y) (fun x=>Option.rec (motive:=fun _=>β) (k (some .any)) (fun y=>Gr x y fun v=>k (some v)) y) x
def anyT (t:Tr AV):Tr AV:=Tr.rec (motive:=fun _=>Tr AV) .nil (fun _ v _ l r=>.node l (Option.rec (motive:=fun _=>Option AV) Option.none (fun _=>some .any) v) r) t
def zU {β:Type} (a:Tr AV):Tr AV→(Tr AV→β)→β:=Tr.rec (motive:=fun _=>Tr AV→(Tr AV→β)→β)
 (fun b k=>k (anyT b))
 (fun l v r ihl ihr b k=>Tr.rec (motive:=fun _=>β) (k (anyT (.node l v r))) (fun l' v' r' _ _=>ihl l' fun l=>ihr r' fun r=>Ki v v' fun v=>k (.node l v r)) b) a
def esEq:List (AV × AV × Nat)→List (AV × AV × Nat)→Bool
 |[],[]=>true
 |a::l,b::m=>avEq 100 a.1 b.1&&avEq 100 a.2.1 b.2.1&&Nat.beq a.2.2 b.2.2&&esEq l m
 |_,_=>false
def xoEq (a b:XObj):Bool:=match a,b with
 |.o (.cells cs T),.o (.cells cs' T')=>Nat.beq T T'&&leq (avEq 100) cs cs'
 |.o (.front T),.o (.front T')=>Nat.beq T T'
 |.o (.map es c),.o (.map es' c')=>Nat.beq c c'&&esEq es es'
 |.o .defs,.o .defs=>true
 |_,_=>false
def Gt {β:Type} (x y:XObj) (k:Option XObj→β):β:=Bool.rec (k Option.none) (k (some x)) (xoEq x y)
def Kj (x y:Option XObj) {β:Type} (k:Option XObj→β):β :=
 Option.rec (motive:=fun _=>β) (k Option.none) (fun x=>Option.rec (motive:=fun _=>β) (k Option.none) (fun y=>Gt x y k) y) x
def zW {β:Type} (a:Tr XObj):Tr XObj→(Tr XObj→β)→β:=Tr.rec (motive:=fun _=>Tr XObj→(Tr XObj→β)→β)
 (fun b k=>k .nil)
 (fun l v r ihl ihr b k=>Tr.rec (motive:=fun _=>β) (k .nil) (fun l' v' r' _ _=>ihl l' fun l=>ihr r' fun r=>Kj v v' fun v=>k (.node l v r)) b) a
def EU (l:List ADef):Bool:=match l with
 |[]=>true
 |_=>false
def Gs (err:Out) (s t:St):Out:=Bool.rec err (zU s.τ t.τ fun τ=>zW s.H t.H fun H=>.norm ⟨τ,H,s.n,[]⟩) (Nat.beq s.n t.n&&EU s.ds&&EU t.ds)
def Ga (o:Out):Out→(St→Out)→Out:=match o with
 |.norm s=>fun err k=>k s
 |.fail f r i=>fun err k=>.fail f r i
 |_=>fun err k=>err
def oZ (err:Out) (o:Out):Out:=Out.rec (motive:=fun _=>Out) .fail .norm .exit .ret .panic .val .thr (fun _ _ x y=>Ga x err fun s=>Ga y err fun t=>Gs err s t) o
def xC (fr:Fr) (id:Nat) (A:St→Out):St→Out:=fun s=>oZ (.fail fr.f 8831 id) (EL id (A s))
def xB (fuel:Nat) (fr:Fr) (A:St→Out):St→Out:=Nat.rec (motive:=fun _=>St→Out) (fun _=>.fail fr.f 8804 0) (fun _ ih s=>FM ih (A s)) fuel
def LD (st:LoopState):Bool:=match st with
 |.busy=>false
 |_=>true
def Tw (c:Option Code):Out→St→Out:=match c with
 |Option.none=>fun err s=>.norm s
 |some .ret=>fun err s=>.ret s
 |some (.exit i)=>fun err s=>.exit i s
 |_=>fun err s=>err
def yl (o:Option XObj):Out→(LoopState→Option Code→Nat→Tr AV→List Nat→Code→Code→Nat→Nat→Out)→Out:=match o with
 |some (.loop st pend nt env ps asg bd d f)=>fun err k=>k st pend nt env ps asg bd d f
 |_=>fun err k=>err
def SK (err:Out) (τ:Tr AV) (ds:List ADef) (n0:Nat) (o:Out):Out :=
 Out.rec (motive:=fun _=>Out) .fail (fun _=>err) (fun _ _=>err) (fun _=>err) (fun _ _=>err)
  (fun _ H n=>yl (getP (bits (Nat.succ n0)) H) err fun st pend _ _ _ _ _ _ _=>Bool.rec err (setK Option.none (bits (Nat.succ n0)) H fun H=>Tw pend err ⟨τ,H,n,.coll n0::ds⟩) (LD st))
  (fun v H n=>.panic v ⟨τ,H,n,.coll n0::ds⟩) (fun _ _ _ _=>err) o
def Qc (v:AV):Out→(AV→Out)→Out:=match v with
 |.func (.func g) a b=>fun err k=>k (.func (.func g) a b)
 |_=>fun err k=>err
def Dm (call:pF) (fr:Fr) (g:Operand) (ps:Array Tmp) (asg bd:Code):St→Out:=fun s=>St.rec (motive:=fun _=>Out)
 (fun τ H n ds=>Option.rec (motive:=fun _=>Out)
  (Qc (ev g τ) (.fail fr.f 8805 0) fun v=>setK (some (.o .defs)) (bits n) H fun H1=>fNat (Nat.succ n) fun n1 =>
   setK (some (.loop .ready Option.none fr.nt τ ps.toList asg bd n fr.f)) (bits n1) H1 fun H2=>fNat (Nat.succ n1) fun n2 =>
   SK (.fail fr.f 8806 0) τ ds n (call v [.yield n1] H2 n2))
  (fun _=>.fail fr.f 8807 0) fr.rd) s
def exC (hn:vP) (fuel:Nat) (call:pF) (fr:Fr) (c:Code):St→Out:=Code.rec (motive:=fun _=>St→Out)
 .norm
 (fun id ops draw=>Bool.rec (seqX call (hn.own fr.f id) fr id ops (aF ops.toList ops.toList)) (QN hn call fr id ops) draw)
 (fun _ _ A B=>xSeq A B)
 (fun c _ _ A B=>OV fr c A B)
 (fun id _ A=>xC fr id A)
 (fun _ A=>xB fuel fr A)
 (fun g ps asg bd _ _=>Dm call fr g ps asg bd)
 (fun id s=>.exit id s)
 (fun _ _ _=>.fail fr.f 8808 0)
 (fun _ s=>.norm s)
 (fun _ _=>.fail fr.f 8809 0)
 .ret
 (fun _ _=>.fail fr.f 8810 0) c
def AY (args:List AV):Nat→Tr AV→(Tr AV→Out)→Out:=List.rec (motive:=fun _=>Nat→Tr AV→(Tr AV→Out)→Out) (fun _ τ k=>k τ) (fun a _ ih i τ k=>fV a fun a=>setK (some a) (bits i) τ fun τ=>ih (Nat.succ i) τ k) args
def zipK (ps:List Nat):List AV→Tr AV→(Tr AV→Out)→Out:=List.rec (motive:=fun _=>List AV→Tr AV→(Tr AV→Out)→Out) (fun _ τ k=>k τ)
 (fun p _ ih args τ k=>List.rec (motive:=fun _=>Out) (k τ) (fun a rest _=>fV a fun a=>setK (some a) (bits p) τ fun τ=>ih rest τ k) args) ps
def res1 (τ:Tr AV) (H:Tr XObj) (r:ResultVar):Out→(AV→Out)→Out:=match r with
 |.tmp t=>fun err k=>fV (evT t τ) k
 |.cell a t=>fun err k=>MX t (evT a τ) err H fun v=>fV v k
def resX (err:Out) (τ:Tr AV) (H:Tr XObj) (rs:List ResultVar):(List AV→Out)→Out:=List.rec (motive:=fun _=>(List AV→Out)→Out) (fun k=>k []) (fun r _ ih k=>res1 τ H r err fun v=>ih fun vs=>k (v::vs)) rs
def SY (l:List AV) (k:AV→Out):Out:=match l with
 |[v]=>k v
 |l=>k (.tuple l)
def fnAt (g:Nat):Option (Func × Code):=match Tryz.prog.funcs.toList[g]? with
 |some fn=>match fn.body with
  | some c => bif eH fn.ntmps c && !(fn.name == "runtime.NumGoroutine") then some (fn, c) else Option.none
  |Option.none=>Option.none
 |Option.none=>Option.none
def yV (c:Code):Option (Oper × Code):=match c with
 |.seq (.region _ ops false) rest=>match ops.toList with
  |[o]=>bif kX o then some (o,rest) else Option.none
  |_=>Option.none
 |_=>Option.none
def RL (err:Out) (rs:List ResultVar) (k:Tr XObj→Nat→Out) (o:Out):Out :=
 Out.rec (motive:=fun _=>Out) .fail
  (fun s=>List.rec (motive:=fun _=>Out) (resX err s.τ s.H rs fun _=>k s.H s.n) (fun _ _ _=>err) s.ds) (fun _ _=>err)
  (fun s=>List.rec (motive:=fun _=>Out) (resX err s.τ s.H rs fun _=>k s.H s.n) (fun _ _ _=>err) s.ds) (fun _ _=>err) (fun _ _ _=>err) (fun _ _ _=>err) (fun _ _ _ _=>err) o
def sI (ex:Fr→Code→St→Out) (err:Out) (g:Nat) (args:List AV) (H:Tr XObj) (n:Nat) (pv:Option AV) (k:Tr XObj→Nat→Out):Out :=
 Option.rec (motive:=fun _=>Out) err (fun q=>Option.rec (motive:=fun _=>Out) err (fun oc=>Bool.rec err
  (AY args 0 .nil fun τ=>rPut oc.1.dst (pv.getD .nilI) τ fun τ=>RL err q.1.results.toList k (ex ⟨g,q.1.ntmps,Option.none⟩ oc.2 ⟨τ,H,n,[]⟩))
  (Nat.ble (lenN args) q.1.ntmps)) (yV q.2)) (fnAt g)
def defF (v:AV):Out→(Nat→List AV→List AV→Out)→Out:=match v with
 |.func (.func g) a b=>fun err k=>k g a b
 |_=>fun err k=>err
def Nk (o:Option XObj):Bool:=match o with
 |some (.o .defs)=>true
 |_=>false
def kW (ex:Fr→Code→St→Out) (err:Out) (rs:List ResultVar) (τ:Tr AV) (ds:List ADef):Option AV→Tr XObj→Nat→Out :=
 List.rec (motive:=fun _=>Option AV→Tr XObj→Nat→Out)
  (fun pv H n=>Option.rec (motive:=fun _=>Out) (resX err τ H rs fun vs=>SY vs fun v=>.val v H n) (fun v=>.thr v H n) pv)
  (fun d _ ih pv H n=>ADef.rec (motive:=fun _=>Out)
   (fun f args=>defF f err fun g a b=>sI ex err g (a++args++b) H n pv fun H n=>ih Option.none H n)
   (fun k=>Bool.rec err (setK Option.none (bits k) H fun H=>ih pv H n) (Nk (getP (bits k) H))) d) ds
def Oo (ex:Fr→Code→St→Out) (err:Out) (rs:List ResultVar) (o:Out):Out :=
 Out.rec (motive:=fun _=>Out) .fail (fun s=>kW ex err rs s.τ s.ds Option.none s.H s.n) (fun _ _=>err) (fun s=>kW ex err rs s.τ s.ds Option.none s.H s.n) (fun v s=>kW ex err rs s.τ s.ds (some v) s.H s.n) (fun _ _ _=>err) (fun _ _ _=>err) (fun _ _ _ _=>err) o
def N8 (ex:Fr→Code→St→Out) (g:Nat) (args:List AV) (H:Tr XObj) (n:Nat):Out :=
 Option.rec (motive:=fun _=>Out) (.fail g 8811 0) (fun q=>Bool.rec (.fail g 8812 0)
  (AY args 0 .nil fun τ=>Oo ex (.fail g 8813 0) q.1.results.toList (ex ⟨g,q.1.ntmps,Option.none⟩ q.2 ⟨τ,H,n,[]⟩))
  (Nat.ble (lenN args) q.1.ntmps)) (fnAt g)
def Rp (st st0:LoopState):Bool:=match st,st0 with
 |.ready,.ready=>true
 |.busy,.busy=>true
 |_,_=>false
def kP (l:Nat) (st st':LoopState) (pend':Option Code) (err:Out) (H:Tr XObj) (k:Tr XObj→Out):Out :=
 yl (getP (bits l) H) err fun st0 pend nt env ps asg bd d f=>Option.rec (motive:=fun _=>Out)
  (Bool.rec err (setK (some (.loop st' pend' nt env ps asg bd d f)) (bits l) H k) (Rp st st0)) (fun _=>err) pend
def roundEnd (l:Nat) (err:Out) (o:Out):Out :=
 Out.rec (motive:=fun _=>Out) .fail
  (fun s=>kP l .busy .ready Option.none err s.H fun H=>.val (.bool true) H s.n)
  (fun i s=>kP l .busy .done (some (.exit i)) err s.H fun H=>.val (.bool false) H s.n)
  (fun s=>kP l .busy .done (some .ret) err s.H fun H=>.val (.bool false) H s.n) (fun _ _=>err) (fun _ _ _=>err) (fun _ _ _=>err) (fun _ _ _ _=>err) o
def Ai (hn:vP) (ex:Fr→Code→St→Out) (l:Nat) (args:List AV) (H:Tr XObj) (n:Nat):Out :=
 yl (getP (bits l) H) (.fail l 8814 0) fun st pend nt env ps asg bd d f=>Option.rec (motive:=fun _=>Out)
  (match st with
  |.ready=>Bool.rec (.fail f 8815 0) (zipK ps args env fun τ=>Out.rec (motive:=fun _=>Out) .fail
    (fun s=>kP l .ready .busy Option.none (.fail f 8816 0) s.H fun H=>roundEnd l (.fail f 8817 0) (ex ⟨f,nt,some l⟩ bd ⟨s.τ,H,s.n,s.ds⟩))
    (fun _ _=>.fail f 8818 0) (fun _=>.fail f 8818 1) (fun _ _=>.fail f 8818 2) (fun _ _ _=>.fail f 8818 3) (fun _ _ _=>.fail f 8818 4) (fun _ _ _ _=>.fail f 8818 5)
    (ex ⟨f,nt,some l⟩ asg ⟨τ,H,n,[]⟩)) (Nat.beq (lenN args) (lenN ps)&&(chkC hn f asg&&chkC hn f bd))
  |_=>.fail f 8819 0) (fun _=>.fail f 8820 0) pend
def Uq (hn:vP) (ex:Fr→Code→St→Out) (f:AV):List AV→Tr XObj→Nat→Out:=match f with
 |.func (.func g) first cap=>fun args H n=>N8 ex g (first++args++cap) H n
 |.yield l=>Ai hn ex l
 |_=>fun _ _ _=>.fail 0 8821 0
def N9 (hn:vP) (fuel:Nat) (depth:Nat):pF:=Nat.rec (motive:=fun _=>pF) (fun _ _ _ _=>.fail 0 8822 0) (fun _ ih f=>Uq hn (exC hn fuel ih) f) depth
end
noncomputable section
def pl13 (r:Nat):Option (Plan × List Nat) :=
 Bool.rec (
 Bool.rec (
 Bool.rec (
 Bool.rec (
 Bool.rec (
 Bool.rec (
 Bool.rec (
 Bool.rec (
 Bool.rec (
 Option.none) (some (.take 0 (.take 1 (.take 2 (.take 3 (.take 4 (.take 5 (.one 6 [5] (.take 7 (.one 8 [5] (.one 9 [] (.take 10 (.take 11 (.take 12 (.take 13 (.take 14 (.take 15 (.take 16 (.one 17 [15,14,13] (.one 18 [15,14,13] (.one 19 [15,14] (.take 20 (.take 21 (.take 22 (.done))))))))))))))))))))))),[0,1,2,3,4,5,6,7,8,9,10,11,12,13,14,15,16,17,18,19,20,21,22])) (Nat.beq r 15)) (some (.take 0 (.take 1 (.take 2 (.take 3 (.one 4 [2] (.one 5 [] (.take 6 (.take 7 (.take 8 (.take 9 (.take 10 (.one 11 [9] (.one 12 [] (.take 13 (.take 14 (.take 15 (.take 16 (.take 17 (.take 18 (.take 19 (.take 20 (.take 21 (.take 22 (.done))))))))))))))))))))))),[0,1,2,3,4,5,6,7,8,9,10,11,12,13,14,15,16,17,18,19,20,21,22])) (Nat.beq r 14)) (some (.take 0 (.take 1 (.take 2 (.take 3 (.take 6 (.take 7 (.one 4 [6,2,1,0] (.one 5 [6,2,1,0] (.one 8 [6,2,1,0] (.one 9 [6,2,1,0] (.take 10 (.one 11 [6,2,1] (.take 12 (.take 13 (.take 14 (.take 15 (.take 16 (.take 17 (.take 18 (.done))))))))))))))))))),[0,1,2,3,6,7,4,5,8,9,10,11,12,13,14,15,16,17,18])) (Nat.beq r 10)) (some (.take 0 (.take 1 (.take 2 (.take 5 (.take 6 (.take 7 (.one 3 [6,5,1,0] (.one 4 [6,5,1,0] (.one 8 [6,5,1,0] (.one 9 [6,5,1,0] (.one 10 [6,5,1] (.take 11 (.take 12 (.take 13 (.take 14 (.one 15 [] (.one 16 [] (.take 17 (.take 18 (.done))))))))))))))))))),[0,1,2,5,6,7,3,4,8,9,10,11,12,13,14,15,16,17,18])) (Nat.beq r 9)) (some (.take 0 (.take 1 (.take 2 (.take 3 (.take 4 (.take 5 (.take 6 (.take 7 (.take 8 (.take 9 (.take 10 (.take 11 (.take 12 (.one 13 [11,10] (.one 14 [11,10] (.one 15 [11] (.take 16 (.take 17 (.take 18 (.take 19 (.take 20 (.take 21 (.take 22 (.take 23 (.take 24 (.take 25 (.take 26 (.take 27 (.take 28 (.take 29 (.take 30 (.take 31 (.take 32 (.take 33 (.done)))))))))))))))))))))))))))))))))),[0,1,2,3,4,5,6,7,8,9,10,11,12,13,14,15,16,17,18,19,20,21,22,23,24,25,26,27,28,29,30,31,32,33])) (Nat.beq r 8)) (some (.take 0 (.take 1 (.take 2 (.take 5 (.take 6 (.one 3 [5,1,0] (.one 4 [5,1,0] (.one 7 [5,1,0] (.one 8 [5,1,0] (.one 9 [5,1] (.take 10 (.take 11 (.take 12 (.take 13 (.one 14 [] (.one 15 [] (.take 16 (.take 17 (.done)))))))))))))))))),[0,1,2,5,6,3,4,7,8,9,10,11,12,13,14,15,16,17])) (Nat.beq r 7)) (some (.take 0 (.take 1 (.take 2 (.take 5 (.take 6 (.one 3 [5,1,0] (.one 4 [5,1,0] (.one 7 [5,1,0] (.take 8 (.one 9 [5,1,0] (.one 10 [5,1,0] (.one 11 [5,1] (.take 12 (.take 13 (.take 14 (.take 15 (.one 16 [] (.one 17 [] (.take 18 (.take 19 (.done)))))))))))))))))))),[0,1,2,5,6,3,4,7,8,9,10,11,12,13,14,15,16,17,18,19])) (Nat.beq r 6)) (some (.take 0 (.take 1 (.take 2 (.take 3 (.one 4 [2,1,0] (.one 5 [2,1,0] (.one 6 [2,1] (.take 7 (.take 8 (.take 9 (.one 10 [] (.one 11 [] (.take 12 (.done))))))))))))),[0,1,2,3,4,5,6,7,8,9,10,11,12])) (Nat.beq r 5)) (some (.take 0 (.take 1 (.take 2 (.take 3 (.take 6 (.take 7 (.one 4 [6,2,1,0] (.one 5 [6,2,1,0] (.one 8 [6,2,1,0] (.one 9 [6,2,1,0] (.one 10 [6,2,1] (.take 11 (.take 12 (.take 13 (.take 14 (.one 15 [] (.one 16 [] (.take 17 (.take 18 (.done))))))))))))))))))),[0,1,2,3,6,7,4,5,8,9,10,11,12,13,14,15,16,17,18])) (Nat.beq r 4)
def pl15 (r:Nat):Option (Plan × List Nat) :=
 Bool.rec (
 Option.none) (some (.take 0 (.take 1 (.take 2 (.take 3 (.take 4 (.take 5 (.take 6 (.take 7 (.one 8 [] (.done))))))))),[0,1,2,3,4,5,6,7,8])) (Nat.beq r 13)
def pl31 (r:Nat):Option (Plan × List Nat) :=
 Bool.rec (
 Bool.rec (
 Option.none) (some (.take 0 (.take 1 (.take 2 (.take 3 (.take 4 (.take 5 (.take 6 (.take 7 (.done)))))))),[0,1,2,3,4,5,6,7])) (Nat.beq r 29)) (some (.take 0 (.take 1 (.take 2 (.take 3 (.one 4 [] (.take 5 (.two 6 [] (.one 7 [] (.done)) 7 [] (.one 6 [] (.done)))))))),[0,1,2,3,4,5,6,7])) (Nat.beq r 22)
def pl43 (r:Nat):Option (Plan × List Nat) :=
 Bool.rec (
 Option.none) (some (.take 0 (.take 1 (.take 2 (.take 3 (.take 4 (.take 5 (.take 6 (.take 7 (.take 8 (.take 9 (.one 10 [6,1] (.take 11 (.done)))))))))))),[0,1,2,3,4,5,6,7,8,9,10,11])) (Nat.beq r 6)
def pl58 (r:Nat):Option (Plan × List Nat) :=
 Bool.rec (
 Option.none) (some (.take 0 (.take 1 (.take 2 (.take 3 (.take 4 (.take 5 (.take 7 (.take 8 (.one 6 [8] (.one 9 [] (.take 10 (.take 11 (.one 12 [] (.take 13 (.take 14 (.one 15 [] (.done)))))))))))))))),[0,1,2,3,4,5,7,8,6,9,10,11,12,13,14,15])) (Nat.beq r 5)
def pl61 (r:Nat):Option (Plan × List Nat) :=
 Bool.rec (
 Bool.rec (
 Option.none) (some (.take 0 (.take 1 (.take 2 (.take 3 (.take 4 (.take 5 (.take 6 (.take 7 (.take 8 (.take 9 (.take 10 (.take 11 (.take 12 (.one 13 [7,2] (.done)))))))))))))),[0,1,2,3,4,5,6,7,8,9,10,11,12,13])) (Nat.beq r 6)) (some (.take 0 (.take 1 (.take 3 (.take 4 (.one 2 [4] (.one 5 [] (.one 6 [] (.one 7 [] (.done)))))))),[0,1,3,4,2,5,6,7])) (Nat.beq r 2)
def pl79 (r:Nat):Option (Plan × List Nat) :=
 Bool.rec (
 Bool.rec (
 Option.none) (some (.take 0 (.take 1 (.take 2 (.take 3 (.take 4 (.take 5 (.take 6 (.take 7 (.take 8 (.take 9 (.take 10 (.take 11 (.take 12 (.take 13 (.take 14 (.take 15 (.take 16 (.take 17 (.take 18 (.take 19 (.one 20 [15,13,7,5,1] (.take 21 (.take 22 (.done))))))))))))))))))))))),[0,1,2,3,4,5,6,7,8,9,10,11,12,13,14,15,16,17,18,19,20,21,22])) (Nat.beq r 17)) (some (.take 0 (.take 1 (.take 2 (.take 3 (.take 4 (.take 5 (.take 6 (.take 7 (.take 8 (.take 9 (.take 10 (.take 11 (.take 12 (.take 13 (.take 14 (.take 15 (.take 16 (.one 17 [15,12,5,1] (.take 18 (.take 19 (.done)))))))))))))))))))),[0,1,2,3,4,5,6,7,8,9,10,11,12,13,14,15,16,17,18,19])) (Nat.beq r 15)
def pl80 (r:Nat):Option (Plan × List Nat) :=
 Bool.rec (
 Option.none) (some (.take 0 (.take 1 (.take 2 (.take 4 (.take 5 (.one 3 [0] (.one 6 [] (.take 7 (.two 8 [] (.one 9 [] (.done)) 9 [] (.one 8 [] (.done)))))))))),[0,1,2,4,5,3,6,7,8,9])) (Nat.beq r 3)
def pl81 (r:Nat):Option (Plan × List Nat) :=
 Bool.rec (
 Bool.rec (
 Bool.rec (
 Bool.rec (
 Option.none) (some (.take 0 (.take 1 (.take 2 (.take 3 (.one 4 [1] (.take 5 (.one 6 [] (.take 7 (.one 8 [] (.done))))))))),[0,1,2,3,4,5,6,7,8])) (Nat.beq r 17)) (some (.take 0 (.take 1 (.take 2 (.take 3 (.take 4 (.take 5 (.take 6 (.take 7 (.one 8 [6,3] (.take 9 (.one 10 [] (.done))))))))))),[0,1,2,3,4,5,6,7,8,9,10])) (Nat.beq r 11)) (some (.take 0 (.take 1 (.take 2 (.one 3 [1] (.take 4 (.one 5 [] (.done)))))),[0,1,2,3,4,5])) (Nat.beq r 7)) (some (.take 0 (.take 1 (.take 2 (.take 3 (.take 4 (.take 5 (.take 6 (.take 7 (.take 8 (.take 9 (.one 10 [] (.one 11 [] (.take 12 (.done))))))))))))),[0,1,2,3,4,5,6,7,8,9,10,11,12])) (Nat.beq r 4)
def pl85 (r:Nat):Option (Plan × List Nat) :=
 Bool.rec (
 Option.none) (some (.take 0 (.take 1 (.take 2 (.take 3 (.one 4 [1] (.take 5 (.one 6 [] (.done))))))),[0,1,2,3,4,5,6])) (Nat.beq r 5)
def pl105 (r:Nat):Option (Plan × List Nat) :=
 Bool.rec (
 Option.none) (some (.take 0 (.take 1 (.take 2 (.take 3 (.one 4 [1] (.take 5 (.one 6 [] (.done))))))),[0,1,2,3,4,5,6])) (Nat.beq r 5)
def pl106 (r:Nat):Option (Plan × List Nat) :=
 Bool.rec (
 Option.none) (some (.take 0 (.take 1 (.one 2 [1] (.one 3 [] (.done)))),[0,1,2,3])) (Nat.beq r 10)
def pl109 (r:Nat):Option (Plan × List Nat) :=
 Bool.rec (
 Option.none) (some (.take 0 (.take 1 (.take 2 (.take 3 (.take 4 (.take 5 (.take 6 (.take 7 (.take 8 (.take 9 (.one 10 [6,1] (.done))))))))))),[0,1,2,3,4,5,6,7,8,9,10])) (Nat.beq r 5)
def pl118 (r:Nat):Option (Plan × List Nat) :=
 Bool.rec (
 Option.none) (some (.take 0 (.take 1 (.take 2 (.take 3 (.one 4 [2] (.take 5 (.done)))))),[0,1,2,3,4,5])) (Nat.beq r 7)
def pl119 (r:Nat):Option (Plan × List Nat) :=
 Bool.rec (
 Option.none) (some (.take 0 (.take 1 (.take 2 (.take 3 (.take 4 (.take 5 (.take 6 (.take 7 (.take 8 (.take 9 (.take 10 (.take 11 (.take 12 (.take 13 (.take 14 (.take 15 (.take 16 (.take 17 (.take 18 (.take 19 (.take 20 (.take 21 (.take 22 (.take 23 (.take 24 (.done))))))))))))))))))))))))),[0,1,2,3,4,5,6,7,8,9,10,11,12,13,14,15,16,17,18,19,20,21,22,23,24])) (Nat.beq r 1)
def pl120 (r:Nat):Option (Plan × List Nat) :=
 Bool.rec (
 Option.none) (some (.take 0 (.take 1 (.take 2 (.take 3 (.take 4 (.take 5 (.take 6 (.take 7 (.one 8 [4,2] (.done))))))))),[0,1,2,3,4,5,6,7,8])) (Nat.beq r 7)
def pl123 (r:Nat):Option (Plan × List Nat) :=
 Bool.rec (
 Bool.rec (
 Bool.rec (
 Option.none) (some (.take 0 (.take 1 (.take 2 (.take 3 (.take 4 (.take 5 (.one 6 [1] (.take 7 (.one 8 [] (.take 9 (.one 10 [] (.done))))))))))),[0,1,2,3,4,5,6,7,8,9,10])) (Nat.beq r 13)) (some (.take 0 (.take 1 (.take 2 (.take 3 (.take 4 (.take 5 (.take 6 (.take 7 (.take 8 (.take 9 (.take 10 (.take 11 (.take 12 (.one 13 [11,6,4] (.take 14 (.take 15 (.take 16 (.one 17 [] (.one 18 [] (.take 19 (.done)))))))))))))))))))),[0,1,2,3,4,5,6,7,8,9,10,11,12,13,14,15,16,17,18,19])) (Nat.beq r 2)) (some (.take 0 (.take 1 (.take 2 (.take 3 (.take 4 (.take 5 (.take 6 (.take 7 (.take 8 (.take 9 (.take 10 (.take 11 (.take 12 (.take 13 (.take 14 (.done))))))))))))))),[0,1,2,3,4,5,6,7,8,9,10,11,12,13,14])) (Nat.beq r 1)
def pl127 (r:Nat):Option (Plan × List Nat) :=
 Bool.rec (
 Bool.rec (
 Bool.rec (
 Bool.rec (
 Option.none) (some (.take 0 (.take 1 (.take 2 (.take 3 (.take 4 (.take 5 (.take 6 (.one 7 [] (.done)))))))),[0,1,2,3,4,5,6,7])) (Nat.beq r 20)) (some (.take 0 (.take 1 (.take 2 (.take 3 (.take 4 (.take 5 (.take 8 (.take 9 (.one 6 [3] (.one 7 [3] (.one 10 [] (.take 11 (.take 13 (.take 14 (.two 12 [] (.one 15 [] (.done)) 15 [] (.one 12 [] (.done)))))))))))))))),[0,1,2,3,4,5,8,9,6,7,10,11,13,14,12,15])) (Nat.beq r 19)) (some (.take 0 (.take 1 (.take 2 (.take 3 (.take 4 (.take 5 (.take 6 (.take 7 (.take 8 (.take 9 (.one 10 [] (.one 11 [] (.done)))))))))))),[0,1,2,3,4,5,6,7,8,9,10,11])) (Nat.beq r 11)) (some (.take 0 (.take 1 (.take 2 (.take 3 (.take 4 (.take 5 (.take 6 (.take 7 (.take 8 (.take 9 (.take 10 (.take 11 (.one 12 [] (.one 13 [] (.done)))))))))))))),[0,1,2,3,4,5,6,7,8,9,10,11,12,13])) (Nat.beq r 8)
def pl143 (r:Nat):Option (Plan × List Nat) :=
 Bool.rec (
 Option.none) (some (.take 0 (.take 1 (.take 2 (.take 3 (.take 4 (.one 5 [1] (.take 6 (.one 7 [] (.take 8 (.one 9 [] (.done)))))))))),[0,1,2,3,4,5,6,7,8,9])) (Nat.beq r 12)
def pl144 (r:Nat):Option (Plan × List Nat) :=
 Bool.rec (
 Option.none) (some (.take 0 (.take 1 (.take 2 (.take 3 (.take 4 (.take 5 (.one 6 [2] (.one 7 [2] (.one 8 [] (.take 9 (.one 10 [] (.done))))))))))),[0,1,2,3,4,5,6,7,8,9,10])) (Nat.beq r 10)
def pl145 (r:Nat):Option (Plan × List Nat) :=
 Bool.rec (
 Option.none) (some (.take 0 (.take 1 (.take 2 (.take 3 (.take 4 (.take 5 (.take 6 (.take 7 (.one 8 [1] (.take 9 (.one 10 [] (.take 11 (.one 12 [] (.done))))))))))))),[0,1,2,3,4,5,6,7,8,9,10,11,12])) (Nat.beq r 18)
def pl146 (r:Nat):Option (Plan × List Nat) :=
 Bool.rec (
 Option.none) (some (.take 0 (.take 1 (.take 2 (.take 3 (.take 4 (.take 5 (.one 6 [] (.done))))))),[0,1,2,3,4,5,6])) (Nat.beq r 4)
def pl156 (r:Nat):Option (Plan × List Nat) :=
 Bool.rec (
 Option.none) (some (.take 0 (.take 1 (.take 2 (.take 3 (.take 4 (.take 5 (.take 6 (.take 7 (.take 8 (.take 9 (.one 10 [6,1] (.take 11 (.done)))))))))))),[0,1,2,3,4,5,6,7,8,9,10,11])) (Nat.beq r 1)
def pl161 (r:Nat):Option (Plan × List Nat) :=
 Bool.rec (
 Option.none) (some (.take 0 (.take 1 (.take 2 (.take 3 (.take 4 (.take 5 (.take 6 (.take 7 (.take 8 (.take 9 (.one 10 [7] (.take 11 (.take 12 (.take 13 (.one 14 [] (.done))))))))))))))),[0,1,2,3,4,5,6,7,8,9,10,11,12,13,14])) (Nat.beq r 3)
def pl162 (r:Nat):Option (Plan × List Nat) :=
 Bool.rec (
 Bool.rec (
 Bool.rec (
 Option.none) (some (.take 0 (.take 1 (.take 2 (.take 3 (.take 4 (.take 5 (.take 6 (.take 7 (.take 9 (.take 10 (.one 8 [10,4,2] (.one 11 [4,2] (.one 12 [4,2] (.one 13 [4,2] (.take 14 (.one 15 [] (.done)))))))))))))))),[0,1,2,3,4,5,6,7,9,10,8,11,12,13,14,15])) (Nat.beq r 38)) (some (.take 0 (.take 1 (.take 2 (.take 4 (.take 5 (.take 6 (.one 3 [5] (.one 7 [5] (.take 8 (.take 9 (.done)))))))))),[0,1,2,4,5,6,3,7,8,9])) (Nat.beq r 13)) (some (.take 0 (.take 1 (.take 2 (.take 4 (.take 5 (.take 6 (.one 3 [6] (.one 7 [] (.one 8 [] (.one 9 [] (.one 10 [] (.one 11 [] (.done)))))))))))),[0,1,2,4,5,6,3,7,8,9,10,11])) (Nat.beq r 3)
def pl163 (r:Nat):Option (Plan × List Nat) :=
 Bool.rec (
 Option.none) (some (.take 0 (.take 1 (.take 2 (.take 3 (.take 4 (.take 5 (.take 6 (.take 7 (.take 8 (.one 9 [5,1] (.take 10 (.take 11 (.take 12 (.done))))))))))))),[0,1,2,3,4,5,6,7,8,9,10,11,12])) (Nat.beq r 5)
def pl167 (r:Nat):Option (Plan × List Nat) :=
 Bool.rec (
 Option.none) (some (.take 0 (.take 1 (.take 2 (.take 3 (.take 4 (.take 5 (.take 6 (.take 7 (.take 8 (.take 9 (.take 10 (.take 11 (.take 12 (.one 13 [] (.take 14 (.take 15 (.take 16 (.done))))))))))))))))),[0,1,2,3,4,5,6,7,8,9,10,11,12,13,14,15,16])) (Nat.beq r 17)
def pl170 (r:Nat):Option (Plan × List Nat) :=
 Bool.rec (
 Bool.rec (
 Option.none) (some (.take 0 (.take 1 (.take 2 (.take 3 (.take 4 (.take 5 (.take 6 (.take 7 (.take 8 (.take 9 (.take 10 (.take 11 (.take 12 (.take 13 (.take 14 (.one 15 [] (.take 16 (.one 17 [] (.done)))))))))))))))))),[0,1,2,3,4,5,6,7,8,9,10,11,12,13,14,15,16,17])) (Nat.beq r 6)) (some (.take 0 (.take 1 (.take 2 (.take 3 (.take 4 (.take 5 (.take 6 (.take 7 (.take 8 (.take 9 (.take 10 (.take 11 (.take 12 (.take 13 (.one 14 [] (.take 15 (.take 16 (.done))))))))))))))))),[0,1,2,3,4,5,6,7,8,9,10,11,12,13,14,15,16])) (Nat.beq r 4)
def pl171 (r:Nat):Option (Plan × List Nat) :=
 Bool.rec (
 Option.none) (some (.take 0 (.take 1 (.take 2 (.take 3 (.take 4 (.take 5 (.take 6 (.take 7 (.take 8 (.take 9 (.take 10 (.take 11 (.take 12 (.take 13 (.take 14 (.take 15 (.take 16 (.one 17 [] (.take 18 (.one 19 [] (.done)))))))))))))))))))),[0,1,2,3,4,5,6,7,8,9,10,11,12,13,14,15,16,17,18,19])) (Nat.beq r 10)
def pl172 (r:Nat):Option (Plan × List Nat) :=
 Bool.rec (
 Option.none) (some (.take 0 (.take 1 (.take 2 (.take 3 (.take 4 (.take 5 (.take 6 (.take 7 (.take 8 (.take 9 (.take 10 (.take 11 (.take 12 (.take 13 (.take 14 (.take 15 (.take 16 (.one 17 [] (.take 18 (.one 19 [] (.done)))))))))))))))))))),[0,1,2,3,4,5,6,7,8,9,10,11,12,13,14,15,16,17,18,19])) (Nat.beq r 10)
def pl174 (r:Nat):Option (Plan × List Nat) :=
 Bool.rec (
 Option.none) (some (.take 0 (.take 1 (.take 2 (.take 3 (.take 4 (.take 5 (.take 6 (.take 7 (.take 8 (.take 9 (.take 10 (.take 11 (.take 12 (.one 13 [] (.take 14 (.one 15 [] (.done)))))))))))))))),[0,1,2,3,4,5,6,7,8,9,10,11,12,13,14,15])) (Nat.beq r 3)
def pl175 (r:Nat):Option (Plan × List Nat) :=
 Bool.rec (
 Bool.rec (
 Bool.rec (
 Bool.rec (
 Bool.rec (
 Bool.rec (
 Option.none) (some (.take 0 (.take 1 (.take 2 (.take 3 (.take 4 (.take 5 (.take 6 (.take 7 (.take 8 (.take 9 (.take 10 (.take 11 (.take 12 (.take 13 (.take 14 (.one 15 [] (.take 16 (.one 17 [] (.done)))))))))))))))))),[0,1,2,3,4,5,6,7,8,9,10,11,12,13,14,15,16,17])) (Nat.beq r 23)) (some (.take 0 (.take 1 (.take 2 (.take 3 (.take 4 (.take 5 (.take 6 (.take 7 (.take 8 (.take 9 (.one 10 [] (.take 11 (.take 12 (.done))))))))))))),[0,1,2,3,4,5,6,7,8,9,10,11,12])) (Nat.beq r 22)) (some (.take 0 (.take 1 (.take 2 (.take 3 (.take 4 (.take 5 (.take 6 (.take 7 (.take 8 (.take 9 (.take 10 (.take 11 (.take 12 (.take 13 (.take 14 (.one 15 [] (.take 16 (.one 17 [] (.done)))))))))))))))))),[0,1,2,3,4,5,6,7,8,9,10,11,12,13,14,15,16,17])) (Nat.beq r 17)) (some (.take 0 (.take 1 (.take 2 (.take 3 (.take 4 (.take 5 (.take 6 (.take 7 (.take 8 (.take 9 (.one 10 [] (.take 11 (.take 12 (.done))))))))))))),[0,1,2,3,4,5,6,7,8,9,10,11,12])) (Nat.beq r 16)) (some (.take 0 (.take 1 (.take 2 (.take 3 (.take 4 (.take 5 (.take 6 (.take 7 (.take 8 (.take 9 (.take 10 (.take 11 (.take 12 (.take 13 (.take 14 (.one 15 [] (.take 16 (.one 17 [] (.done)))))))))))))))))),[0,1,2,3,4,5,6,7,8,9,10,11,12,13,14,15,16,17])) (Nat.beq r 11)) (some (.take 0 (.take 1 (.take 2 (.take 3 (.take 4 (.take 5 (.take 6 (.take 7 (.take 8 (.take 9 (.take 10 (.take 11 (.take 12 (.take 13 (.one 14 [] (.take 15 (.take 16 (.take 17 (.done)))))))))))))))))),[0,1,2,3,4,5,6,7,8,9,10,11,12,13,14,15,16,17])) (Nat.beq r 5)
def pl176 (r:Nat):Option (Plan × List Nat) :=
 Bool.rec (
 Bool.rec (
 Bool.rec (
 Bool.rec (
 Option.none) (some (.take 0 (.take 1 (.take 2 (.take 3 (.take 4 (.take 5 (.take 6 (.take 7 (.take 8 (.take 9 (.take 10 (.take 11 (.take 12 (.one 13 [] (.take 14 (.one 15 [] (.done)))))))))))))))),[0,1,2,3,4,5,6,7,8,9,10,11,12,13,14,15])) (Nat.beq r 8)) (some (.take 0 (.take 1 (.take 2 (.take 3 (.take 4 (.take 5 (.take 6 (.take 7 (.take 8 (.take 9 (.take 10 (.take 11 (.take 12 (.one 13 [] (.take 14 (.take 15 (.done)))))))))))))))),[0,1,2,3,4,5,6,7,8,9,10,11,12,13,14,15])) (Nat.beq r 5)) (some (.take 0 (.take 1 (.take 2 (.take 3 (.take 4 (.take 5 (.take 6 (.take 7 (.take 8 (.take 9 (.take 10 (.take 11 (.take 12 (.one 13 [] (.take 14 (.take 15 (.take 16 (.done))))))))))))))))),[0,1,2,3,4,5,6,7,8,9,10,11,12,13,14,15,16])) (Nat.beq r 3)) (some (.take 0 (.take 1 (.take 2 (.take 3 (.take 4 (.take 5 (.take 6 (.take 7 (.take 8 (.take 9 (.take 10 (.take 11 (.take 12 (.one 13 [] (.take 14 (.one 15 [] (.done)))))))))))))))),[0,1,2,3,4,5,6,7,8,9,10,11,12,13,14,15])) (Nat.beq r 1)
def pl177 (r:Nat):Option (Plan × List Nat) :=
 Bool.rec (
 Bool.rec (
 Bool.rec (
 Bool.rec (
 Bool.rec (
 Bool.rec (
 Bool.rec (
 Bool.rec (
 Bool.rec (
 Option.none) (some (.take 0 (.take 1 (.take 2 (.take 3 (.take 4 (.take 5 (.take 6 (.take 7 (.take 8 (.take 9 (.take 10 (.take 11 (.take 12 (.one 13 [] (.take 14 (.one 15 [] (.done)))))))))))))))),[0,1,2,3,4,5,6,7,8,9,10,11,12,13,14,15])) (Nat.beq r 21)) (some (.take 0 (.take 1 (.take 2 (.take 3 (.take 4 (.take 5 (.take 6 (.take 7 (.take 8 (.take 9 (.take 10 (.take 11 (.take 12 (.one 13 [] (.take 14 (.one 15 [] (.done)))))))))))))))),[0,1,2,3,4,5,6,7,8,9,10,11,12,13,14,15])) (Nat.beq r 18)) (some (.take 0 (.take 1 (.take 2 (.take 3 (.take 4 (.take 5 (.take 6 (.take 7 (.take 8 (.take 9 (.take 10 (.take 11 (.take 12 (.one 13 [] (.take 14 (.take 15 (.take 16 (.done))))))))))))))))),[0,1,2,3,4,5,6,7,8,9,10,11,12,13,14,15,16])) (Nat.beq r 15)) (some (.take 0 (.take 1 (.take 2 (.take 3 (.take 4 (.take 5 (.take 6 (.take 7 (.take 8 (.take 9 (.take 10 (.take 11 (.take 12 (.one 13 [] (.take 14 (.take 15 (.done)))))))))))))))),[0,1,2,3,4,5,6,7,8,9,10,11,12,13,14,15])) (Nat.beq r 13)) (some (.take 0 (.take 1 (.take 2 (.take 3 (.take 4 (.take 5 (.take 6 (.take 7 (.take 8 (.take 9 (.take 10 (.take 11 (.take 12 (.one 13 [] (.take 14 (.one 15 [] (.done)))))))))))))))),[0,1,2,3,4,5,6,7,8,9,10,11,12,13,14,15])) (Nat.beq r 10)) (some (.take 0 (.take 1 (.take 2 (.take 3 (.take 4 (.take 5 (.take 6 (.take 7 (.take 8 (.take 9 (.take 10 (.take 11 (.take 12 (.one 13 [] (.take 14 (.one 15 [] (.done)))))))))))))))),[0,1,2,3,4,5,6,7,8,9,10,11,12,13,14,15])) (Nat.beq r 8)) (some (.take 0 (.take 1 (.take 2 (.take 3 (.take 4 (.take 5 (.take 6 (.take 7 (.take 8 (.take 9 (.take 10 (.take 11 (.take 12 (.one 13 [] (.take 14 (.take 15 (.take 16 (.done))))))))))))))))),[0,1,2,3,4,5,6,7,8,9,10,11,12,13,14,15,16])) (Nat.beq r 5)) (some (.take 0 (.take 1 (.take 2 (.take 3 (.take 4 (.take 5 (.take 6 (.take 7 (.take 8 (.take 9 (.take 10 (.take 11 (.take 12 (.one 13 [] (.take 14 (.take 15 (.done)))))))))))))))),[0,1,2,3,4,5,6,7,8,9,10,11,12,13,14,15])) (Nat.beq r 3)) (some (.take 0 (.take 1 (.take 2 (.take 3 (.take 4 (.take 5 (.take 6 (.take 7 (.take 8 (.take 9 (.take 10 (.take 11 (.take 12 (.one 13 [] (.take 14 (.one 15 [] (.done)))))))))))))))),[0,1,2,3,4,5,6,7,8,9,10,11,12,13,14,15])) (Nat.beq r 1)
def pl181 (r:Nat):Option (Plan × List Nat) :=
 Bool.rec (
 Bool.rec (
 Bool.rec (
 Option.none) (some (.take 0 (.take 1 (.take 2 (.take 3 (.take 4 (.take 5 (.take 6 (.take 7 (.take 8 (.take 9 (.take 10 (.take 11 (.take 12 (.take 13 (.take 14 (.take 15 (.take 16 (.take 17 (.take 18 (.take 19 (.take 20 (.one 21 [] (.take 22 (.one 23 [] (.done)))))))))))))))))))))))),[0,1,2,3,4,5,6,7,8,9,10,11,12,13,14,15,16,17,18,19,20,21,22,23])) (Nat.beq r 6)) (some (.take 0 (.take 1 (.take 2 (.take 3 (.take 4 (.take 5 (.take 6 (.take 7 (.take 8 (.take 9 (.take 10 (.take 11 (.take 12 (.one 13 [] (.take 14 (.take 15 (.done)))))))))))))))),[0,1,2,3,4,5,6,7,8,9,10,11,12,13,14,15])) (Nat.beq r 5)) (some (.take 0 (.take 1 (.take 2 (.take 3 (.take 4 (.take 5 (.take 6 (.take 7 (.take 8 (.take 9 (.take 10 (.take 11 (.take 12 (.take 13 (.take 14 (.take 15 (.take 16 (.take 17 (.take 18 (.one 19 [] (.take 20 (.take 21 (.done)))))))))))))))))))))),[0,1,2,3,4,5,6,7,8,9,10,11,12,13,14,15,16,17,18,19,20,21])) (Nat.beq r 3)
def pl183 (r:Nat):Option (Plan × List Nat) :=
 Bool.rec (
 Bool.rec (
 Bool.rec (
 Option.none) (some (.take 0 (.take 1 (.take 2 (.take 3 (.take 4 (.take 5 (.take 6 (.take 7 (.take 8 (.one 9 [] (.done)))))))))),[0,1,2,3,4,5,6,7,8,9])) (Nat.beq r 3)) (some (.take 0 (.take 1 (.take 2 (.take 3 (.take 4 (.take 5 (.take 6 (.take 7 (.take 8 (.one 9 [] (.done)))))))))),[0,1,2,3,4,5,6,7,8,9])) (Nat.beq r 2)) (some (.take 0 (.take 1 (.take 2 (.take 3 (.take 4 (.take 5 (.take 6 (.take 7 (.take 8 (.one 9 [] (.done)))))))))),[0,1,2,3,4,5,6,7,8,9])) (Nat.beq r 1)
def pl186 (r:Nat):Option (Plan × List Nat) :=
 Bool.rec (
 Option.none) (some (.take 0 (.take 1 (.take 2 (.take 3 (.take 4 (.take 5 (.take 6 (.take 7 (.take 8 (.one 9 [] (.take 10 (.done))))))))))),[0,1,2,3,4,5,6,7,8,9,10])) (Nat.beq r 1)
def qN:Nat→Option (Plan × List Nat):=fun _=>Option.none
def plL:List (Nat→Option (Plan × List Nat)):=[qN,qN,qN,qN,qN,qN,qN,qN,qN,qN,qN,qN,qN,pl13,qN,pl15,qN,qN,qN,qN,qN,qN,qN,qN,qN,qN,qN,qN,qN,qN,qN,pl31,qN,qN,qN,qN,qN,qN,qN,qN,qN,qN,qN,pl43,qN,qN,qN,qN,qN,qN,qN,qN,qN,qN,qN,qN,qN,qN,pl58,qN,qN,pl61,qN,qN,qN,qN,qN,qN,qN,qN,qN,qN,qN,qN,qN,qN,qN,qN,qN,pl79,pl80,pl81,qN,qN,qN,pl85,qN,qN,qN,qN,qN,qN,qN,qN,qN,qN,qN,qN,qN,qN,qN,qN,qN,qN,qN,pl105,pl106,qN,qN,pl109,qN,qN,qN,qN,qN,qN,qN,qN,pl118,pl119,pl120,qN,qN,pl123,qN,qN,qN,pl127,qN,qN,qN,qN,qN,qN,qN,qN,qN,qN,qN,qN,qN,qN,qN,pl143,pl144,pl145,pl146,qN,qN,qN,qN,qN,qN,qN,qN,qN,pl156,qN,qN,qN,qN,pl161,pl162,pl163,qN,qN,qN,pl167,qN,qN,pl170,pl171,pl172,qN,pl174,pl175,pl176,pl177,qN,qN,qN,pl181,qN,pl183,qN,qN,pl186]
def planT (f r:Nat):Option (Plan × List Nat):=List.rec (motive:=fun _=>Option (Plan × List Nat)) Option.none (fun g _ _=>g r) (JA f plL)
end
noncomputable def toAS (rd:Option Nat) (s:St):AS:=⟨envT s.τ,hpT s.H,s.n,s.ds,rd⟩
def Fails (o:Out):Prop:=∃ f r i,Leaf (.fail f r i) o
def IsX (rd:Option Nat) (o:Out):KS
 |.normal,s=>∃ t,Leaf (.norm t) o∧s=toAS rd t
 |.exit i,s=>∃ t,Leaf (.exit i t) o∧s=toAS rd t
 |.ret,s=>∃ t,Leaf (.ret t) o∧s=toAS rd t
 |.panic v,s=>∃ t,Leaf (.panic v t) o∧s=toAS rd t
theorem Fails.sub {a o:Out} (h:Sub a o) (hf:Fails a):Fails o:=let ⟨f,r,i,hl⟩:=hf;⟨f,r,i,h _ hl⟩
theorem IsX.sub {rd:Option Nat} {a o:Out} (h:Sub a o) {e:Re} {s:AS} (hx:IsX rd a e s):IsX rd o e s:=by
 cases e with
 |normal=>obtain ⟨t,hl,hs⟩:=hx;exact ⟨t,h _ hl,hs⟩
 |exit i=>obtain ⟨t,hl,hs⟩:=hx;exact ⟨t,h _ hl,hs⟩
 |ret=>obtain ⟨t,hl,hs⟩:=hx;exact ⟨t,h _ hl,hs⟩
 |panic v=>obtain ⟨t,hl,hs⟩:=hx;exact ⟨t,h _ hl,hs⟩
def IsV (o:Out):AOut→ai→Nat→Prop
 |.ret v,h,n=>∃ H,o=.val v H n∧h=hpT H
 |.panic v,h,n=>∃ H,o=.thr v H n∧h=hpT H
def uJ (call:pF):Prop:=∀ f args H n,Fails (call f args H n)∨C8 Tryz.prog f args (hpT H) n (IsV (call f args H n))
theorem aO (f r i:Nat):Fails (.fail f r i):=⟨f,r,i,rfl⟩
noncomputable def putT (d:Option Nat) (v:AV) (τ:Tr AV):Tr AV:=match d with
 |Option.none=>τ
 |some d=>setP (some v) (bits d) τ
theorem u7 (d:Option Nat) (v:AV) (τ:Tr AV) (k:Tr AV→Out):rPut d v τ k=k (putT d v τ):=by
 cases d with
 |none=>rfl
 |some d=>exact cu _ _ _ _
theorem jV (d:Option Nat) (v:AV) (τ:Tr AV):envT (putT d v τ)=aPut (envT τ) d v:=by
 cases d with
 |none=>rfl
 |some d=>exact xu τ d v
theorem SN (d:Option Nat) (F:OpF) (err:Out) (s:St) (k:St→Out) (pan:AV→St→Out):rX d F err s k pan=F err s.τ s.H s.n fun v H n=>k ⟨putT d v s.τ,H,n,s.ds⟩:=by
 obtain ⟨τ,H,n,ds⟩:=s
 show (F err τ H n fun v H n=>rPut d v τ fun τ=>k ⟨τ,H,n,ds⟩)=_
 simp only [u7]
def qO (rd:Option Nat) (o:Out) (k:St→Out):AS→Prop:=fun s'=>∃ t,s'=toAS rd t∧Sub (k t) o
def Hg (rd:Option Nat) (o:Out) (pan:AV→St→Out):AV→AS→Prop:=fun v s'=>∃ t,s'=toAS rd t∧Sub (pan v t) o
def zx (rd:Option Nat) (o:Oper) (R:RunF):Prop:=∀ err s k pan,Fails err→Fails (R err s k pan)∨amOp Tryz.prog o (toAS rd s) (qO rd (R err s k pan) k) (Hg rd (R err s k pan) pan)
theorem Rl (op:Op) (hn:∀ x,op≠.next x false):XS op (xop op):=by
 cases op <;> first
  |exact RZ _|exact K3 _|exact RX _ _ _|exact OU _|exact U3 _ _|exact R3 _ _|exact Bv _ _ _
  |exact Dk _ _ _|exact Dj _ _ _|exact OT _ _|exact Bw _ _ _|exact U5 _ _ _ _ _|exact Jw _ _
  |exact FC _ _ _|exact Dh _ _ _ _|exact Di _ _ _|exact OP _ _ _ _ _|exact OQ _ _|skip
 all_goals try exact Df _
 case unOp op T x=>cases op <;> first|exact U2 _ _|exact Df _
 case makeMap T r=>cases r <;> first|exact Jv _|exact Df _
 case next x b =>
  cases b with
  |true=>exact Df _
  |false=>exact absurd rfl (hn x)
theorem Su {rd:Option Nat} {o:Oper} {F:OpF} {s:St} {k:St→Out} {pan:AV→St→Out} {err:Out} (hF:∀ k',F err s.τ s.H s.n k'=err∨∃ v H',aop Tryz.prog o.op (aR (envT s.τ)) (hpT s.H) s.n=some (v,hpT H')∧F err s.τ s.H s.n k'=k' v H' (s.n+bif bN o.op then 1 else 0)) (he:Fails err) :
  Fails (rX o.dst F err s k pan)∨oq Tryz.prog o (toAS rd s) (qO rd (rX o.dst F err s k pan) k):=by
 rw [SN]
 rcases hF (fun v H n=>k ⟨putT o.dst v s.τ,H,n,s.ds⟩) with h|⟨v,H',h1,h2⟩
 ·exact .inl (by rw [h];exact he)
 ·refine .inr fun _=>?_
  show (match aop Tryz.prog o.op (aR (envT s.τ)) (hpT s.H) s.n with|some (v,h')=>_|Option.none=>False)
  rw [h1]
  exact ⟨⟨putT o.dst v s.τ,H',_,s.ds⟩,by simp only [toAS,jV],Sub.of_eq h2⟩
theorem LP {rd:Option Nat} {o:Oper} (hq:∀ x,o.op≠.next x false) (hcl:∀ c,o.op≠.call c) (hp:∀ x,o.op≠.panic x) (hd:∀ c,o.op≠.defer c):zx rd o (rX o.dst (xop o.op)):=by
 intro err s k pan he
 rcases Su (rd:=rd) (o:=o) (k:=k) (pan:=pan) (fun k'=>Rl o.op hq err s.τ s.H s.n k') he with h|h
 ·exact .inl h
 ·refine .inr ?_
  unfold amOp
  split
  ·rename_i hop;exact absurd hop (hcl _)
  ·rename_i hop;exact absurd hop (hp _)
  ·rename_i hop;exact absurd hop (hd _)
  ·rename_i hop;exact absurd hop (hq _)
  ·exact h
theorem LU {rd:Option Nat} {o:Oper} {x:Operand} (hop:o.op=.next x false):zx rd o (rX o.dst (J3 x)):=by
 intro err s k pan he
 rw [SN]
 rcases RY x err s.τ s.H s.n (fun v H n=>k ⟨putT o.dst v s.τ,H,n,s.ds⟩) with h|h
 ·exact .inl (by rw [h];exact he)
 ·refine .inr ?_
  unfold amOp
  rw [hop]
  exact h _ fun v H' hs=>⟨⟨putT o.dst v s.τ,H',s.n,s.ds⟩,by simp only [toAS,jV],hs⟩
theorem wR {rd:Option Nat} {o:Oper}:zx rd o Md:=fun err s k pan he=>.inl he
theorem F3 {rd:Option Nat} {o:Oper} {own:Bool} {c:Call} {b:Builtin} (hop:o.op=.call c) (hc:c.callee=.builtin b):zx rd o (Im own o.dst c b):=by
 have key:b≠.recover→zx rd o (rX o.dst (lS own b c)):=by
  intro hb err s k pan he
  rw [SN]
  rcases Jy own b c hc err s.τ s.H s.n (fun v H n=>k ⟨putT o.dst v s.τ,H,n,s.ds⟩) with h|⟨v,H',h1,h2⟩
  ·exact .inl (by rw [h];exact he)
  ·refine .inr ?_
   have fin:∀ m,(m=s.n+bif bN (.call c) then 1 else 0)→qO rd (lS own b c err s.τ s.H s.n fun v H n=>k ⟨putT o.dst v s.τ,H,n,s.ds⟩) k ⟨aPut (envT s.τ) o.dst v,hpT H',m,s.ds,rd⟩:=by
    intro m hm
    subst hm
    exact ⟨⟨putT o.dst v s.τ,H',_,s.ds⟩,by simp only [toAS,jV],Sub.of_eq h2⟩
   have goal:oq Tryz.prog o (toAS rd s) (qO rd (lS own b c err s.τ s.H s.n fun v H n=>k ⟨putT o.dst v s.τ,H,n,s.ds⟩) k)∨kI Tryz.prog c o.dst (toAS rd s) (qO rd (lS own b c err s.τ s.H s.n fun v H n=>k ⟨putT o.dst v s.τ,H,n,s.ds⟩) k):=by
    rcases h1 with h1|⟨tS,tX,q,x,hb',hts,hxs,h1⟩
    ·refine .inl fun _=>?_
     show (match aop Tryz.prog o.op (aR (envT s.τ)) (hpT s.H) s.n with|some (v,h')=>_|Option.none=>False)
     have:aop Tryz.prog o.op (aR (envT s.τ)) (hpT s.H) s.n=some (v,hpT H'):=by rw [hop];simp only [aop,hc];exact h1
     rw [this]
     exact fin _ (by rw [hop];rfl)
    ·refine .inr ?_
     subst hb'
     unfold kI
     rw [hc,hts,hxs]
     intro _
     show (match aOwn Tryz.prog tS tX (aR (envT s.τ) q) (unSl Tryz.prog (hpT s.H) (aR (envT s.τ) x)) (hpT s.H) s.n with|some (v,h')=>_|Option.none=>False)
     rw [h1]
     exact fin _ (by simp only [bN,hc,cond_true];rfl)
   unfold amOp
   rw [hop]
   simp only
   split
   ·rename_i hc';rw [hc] at hc';injection hc' with hc';exact absurd hc' hb
   ·exact goal
   ·rename_i hc';rw [hc] at hc';cases hc'
   ·rename_i hc';rw [hc] at hc';cases hc'
 cases b <;> first|exact wR|exact key (by intro h;cases h)
theorem Po {rd:Option Nat} {o:Oper} {c:Call} {f:Operand} {call:pF} (hcall:uJ call) (hop:o.op=.call c) (hc:c.callee=.value f):zx rd o (Wq call o.dst f c.args):=by
 intro err s k pan he
 obtain ⟨τ,H,n,ds⟩:=s
 show Fails (y7 o.dst err τ ds k pan (call (ev f τ) (evL c.args.toList τ) H n))∨amOp Tryz.prog o _ (qO rd (y7 o.dst err τ ds k pan (call (ev f τ) (evL c.args.toList τ) H n)) k) (Hg rd (y7 o.dst err τ ds k pan (call (ev f τ) (evL c.args.toList τ) H n)) pan)
 have hk:=hcall (ev f τ) (evL c.args.toList τ) H n
 generalize call (ev f τ) (evL c.args.toList τ) H n=out at hk ⊢
 rcases hk with hk|hk
 ·refine .inl ?_
  cases out with
  |fail a b i=>exact aO _ _ _
  |val v H n=>obtain ⟨_,_,_,h⟩:=hk;cases h
  |thr v H n=>obtain ⟨_,_,_,h⟩:=hk;cases h
  |_=>exact he
 have hok:∀ {o'},o'=y7 o.dst err τ ds k pan out→Fails o'∨amOp Tryz.prog o (toAS rd ⟨τ,H,n,ds⟩) (qO rd o' k) (Hg rd o' pan):=by
  intro o' ho'
  refine .inr ?_
  unfold amOp
  rw [hop]
  simp only
  split
  ·rename_i hc';rw [hc] at hc';cases hc'
  ·rename_i hc';rw [hc] at hc';cases hc'
  ·rename_i f' hc'
   rw [hc] at hc'
   injection hc' with hc'
   subst hc'
   rw [jM,NG] at hk
   refine Bt hk fun ao h' n' hq=>?_
   cases ao with
   |ret v =>
    obtain ⟨H',rfl,rfl⟩:=hq
    refine ⟨⟨putT o.dst v τ,H',n',ds⟩,by simp only [toAS,jV],?_⟩
    rw [ho']
    refine Sub.of_eq ?_
    show rPut o.dst v τ (fun τ=>k ⟨τ,H',n',ds⟩)=_
    rw [u7]
   |panic v =>
    obtain ⟨H',rfl,rfl⟩:=hq
    exact ⟨⟨τ,H',n',ds⟩,rfl,Sub.of_eq ho'⟩
  ·rename_i hc';rw [hc] at hc';cases hc'
 exact hok rfl
theorem LQ {rd:Option Nat} {o:Oper} {x:Operand} (hop:o.op=.panic x):zx rd o (Mc x):=by
 intro err s k pan he
 unfold Mc
 rw [jM]
 have key:∀ v,v=aR (envT s.τ) x→Fails (panA v err s pan)∨amOp Tryz.prog o (toAS rd s) (qO rd (panA v err s pan) k) (Hg rd (panA v err s pan) pan):=by
  intro v hv
  cases v with
  |iface t y =>
   refine .inr ?_
   unfold amOp
   rw [hop]
   show Fy (aR (envT s.τ) x) (hpT s.H) _
   rw [← hv]
   exact ⟨s,rfl,Sub.refl _⟩
  |_=>exact .inl he
 exact key _ rfl
theorem LV {rd:Option Nat} {o:Oper} {c:Call} {f:Operand} (hop:o.op=.defer c) (hc:c.callee=.value f):zx rd o (Me rd o.dst f c.args):=by
 intro err s k pan he
 obtain ⟨τ,H,n,ds⟩:=s
 cases rd with
 |some l=>exact .inl he
 |none =>
  show Fails (defA (ev f τ) err fun v=>yM (evL c.args.toList τ) fun l=>rPut o.dst (.tuple []) τ fun τ=>k ⟨τ,H,n,.fn v l::ds⟩)∨amOp Tryz.prog o _ (qO Option.none (defA (ev f τ) err fun v=>yM (evL c.args.toList τ) fun l=>rPut o.dst (.tuple []) τ fun τ=>k ⟨τ,H,n,.fn v l::ds⟩) k) _
  simp only [yL,u7]
  rw [jM,NG]
  have key:∀ v,v=aR (envT τ) f→Fails (defA v err fun v=>k ⟨putT o.dst (.tuple []) τ,H,n,.fn v (c.args.toList.map (aR (envT τ)))::ds⟩)∨amOp Tryz.prog o (toAS Option.none ⟨τ,H,n,ds⟩) (qO Option.none (defA v err fun v=>k ⟨putT o.dst (.tuple []) τ,H,n,.fn v (c.args.toList.map (aR (envT τ)))::ds⟩) k)
    (Hg Option.none (Me Option.none o.dst f c.args err ⟨τ,H,n,ds⟩ k pan) pan):=by
   intro v hv
   cases v with
   |func fn a b =>
    refine .inr ?_
    unfold amOp
    rw [hop]
    simp only
    rw [hc]
    refine ⟨rfl,⟨fn,a,b,hv.symm⟩,⟨⟨putT o.dst (.tuple []) τ,H,n,.fn (.func fn a b) (c.args.toList.map (aR (envT τ)))::ds⟩,?_,Sub.refl _⟩⟩
    simp only [toAS,jV,← hv]
   |_=>exact .inl he
  exact key _ rfl
theorem Ik {call:pF} (hcall:uJ call) (own:Bool) (rd:Option Nat) (o:Oper):zx rd o (BO call own rd o.dst o.op):=by
 obtain ⟨d,op,ty,ps,af,g⟩:=o
 cases op
 case call c =>
  show zx rd _ (Mf call own d c c.callee)
  cases hc:c.callee with
  |builtin b=>exact F3 (o:=⟨d,.call c,ty,ps,af,g⟩) rfl hc
  |value f=>exact Po (o:=⟨d,.call c,ty,ps,af,g⟩) hcall rfl hc
  |invoke a b=>exact wR
 case panic x=>exact LQ rfl
 case defer c =>
  show zx rd _ (Il rd d c c.callee)
  cases hc:c.callee with
  |value f=>exact LV (o:=⟨d,.defer c,ty,ps,af,g⟩) rfl hc
  |builtin b=>exact wR
  |invoke a b=>exact wR
 case next x b =>
  cases b with
  |false=>exact LU (o:=⟨d,.next x false,ty,ps,af,g⟩) rfl
  |true=>exact LP (by intro x h;cases h) (by intro c h;cases h) (by intro x h;cases h) (by intro c h;cases h)
 all_goals exact LP (by intro x h;cases h) (by intro c h;cases h) (by intro x h;cases h) (by intro c h;cases h)
theorem BP (d:Option Nat) (err:Out) (s:St) (k:St→Out) (pan:AV→St→Out):JO d err s k pan=k ⟨putT d (.tuple []) s.τ,s.H,s.n,s.ds⟩:=by
 obtain ⟨τ,H,n,ds⟩:=s
 exact u7 _ _ _ _
theorem Kt (w:Bool) (v:AV) (go skip:RunF) (err:Out) (s:St) (k:St→Out) (pan:AV→St→Out) :
  (gSel w v go skip err s k pan=err)∨((match v with|.bool b=>some (b==w)|.tuple _=>some false|_=>Option.none)=some true∧gSel w v go skip=go)∨((match v with|.bool b=>some (b==w)|.tuple _=>some false|_=>Option.none)=some false∧gSel w v go skip=skip):=by
 cases v with
 |bool b=>cases b <;> cases w <;> first|exact .inr (.inl ⟨rfl,rfl⟩)|exact .inr (.inr ⟨rfl,rfl⟩)
 |tuple l=>exact .inr (.inr ⟨rfl,rfl⟩)
 |_=>exact .inl rfl
theorem ry (d:Option Nat) (g:GT) (run skip:RunF) (err:Out) (s:St) (k:St→Out) (pan:AV→St→Out) (G:RunF) (hG:G=match g with|.go=>run|.off=>skip|.at_ t w=>fun err s k pan=>gSel w (evT t s.τ) run skip err s k pan) :
  G err s k pan=err∨(eX g (envT s.τ)=some true∧G err s k pan=run err s k pan)∨(eX g (envT s.τ)=some false∧G err s k pan=skip err s k pan):=by
 subst hG
 cases g with
 |go=>exact .inr (.inl ⟨rfl,rfl⟩)
 |off=>exact .inr (.inr ⟨rfl,rfl⟩)
 |at_ t w =>
  rcases Kt w (evT t s.τ) run skip err s k pan with h|⟨h1,h2⟩|⟨h1,h2⟩
  ·exact .inl h
  ·exact .inr (.inl ⟨h1,by simp only [h2]⟩)
  ·exact .inr (.inr ⟨h1,by simp only [h2]⟩)
theorem EP (τ:Tr AV):∀ l:List Oper,envT (Gc l τ)=fun t=>bif l.any (fun o=>o.dst==some t) then .any else envT τ t
 |[]=>rfl
 |o::l=>by
  have ih:=EP τ l
  funext t
  rw [List.any_cons]
  cases hd:o.dst with
  |none =>
   have:Gc (o::l) τ=Gc l τ:=by show Option.rec (motive:=fun _=>Tr AV) _ _ o.dst=_;rw [hd];rfl
   rw [this,ih]
   simp
  |some d =>
   have:Gc (o::l) τ=setP (some .any) (bits d) (Gc l τ):=by show Option.rec (motive:=fun _=>Tr AV) _ _ o.dst=_;rw [hd];rfl
   rw [this,xu,ih]
   simp only [eupd]
   by_cases e:t=d
   ·subst e;simp
   ·have h1:(t==d)=false:=by simpa using e
    have h2:(some d==some t)=false:=by simpa using fun h:d=t=>e h.symm
    rw [h1,h2];simp
theorem Ml {rd:Option Nat} {ops:Array Oper} {v:AV} {s:AS} {o:Out} {K:KS} (hK:∀ e s',IsX rd o e s'→K e s') (h:Hg rd o (panX ops) v s):panK ops K v s:=by
 obtain ⟨⟨τ,H,n,ds⟩,rfl,ho⟩:=h
 exact hK _ _ ⟨⟨Gc ops.toList τ,H,n,ds⟩,ho _ rfl,by simp only [toAS,EP];rfl⟩
theorem Sz {call:pF} (hcall:uJ call) (own:Bool) (fr:Fr) (id:Nat) (ops:Array Oper):∀ (l:List Oper) (s:St) (K:KS),
  ¬ Fails (seqX call own fr id ops (aF ops.toList l) s)→(∀ e s',IsX fr.rd (seqX call own fr id ops (aF ops.toList l) s) e s'→K e s')→pE Tryz.prog ops l K (toAS fr.rd s):=by
 intro l
 induction l with
 |nil=>intro s K hf hK;exact hK .normal _ ⟨s,rfl,rfl⟩
 |cons o l ih =>
  intro s K hf hK
  have he:Fails (.fail fr.f id (dN o.dst)):=aO _ _ _
  have hx:seqX call own fr id ops (aF ops.toList (o::l)) s=stepG o.dst (gtOf ops.toList o.guard) (BO call own fr.rd o.dst o.op) (.fail fr.f id (dN o.dst)) s (seqX call own fr id ops (aF ops.toList l)) (panX ops):=rfl
  have hg:=ry o.dst (gtOf ops.toList o.guard) (BO call own fr.rd o.dst o.op) (JO o.dst) (.fail fr.f id (dN o.dst)) s (seqX call own fr id ops (aF ops.toList l)) (panX ops) (stepG o.dst (gtOf ops.toList o.guard) (BO call own fr.rd o.dst o.op)) (by cases gtOf ops.toList o.guard <;> rfl)
  rw [← hx] at hg
  rcases hg with h|⟨hw,h⟩|⟨hw,h⟩
  ·exact absurd (h ▸ he) hf
  ·rcases Ik hcall own fr.rd o _ s (seqX call own fr id ops (aF ops.toList l)) (panX ops) he with h2|h2
   ·exact absurd (h ▸ h2) hf
   ·rw [← h] at h2
    simp only [pE]
    rw [gU]
    show match eX (gtOf ops.toList o.guard) (envT s.τ) with|some true=>_|some false=>_|Option.none=>_
    rw [hw]
    refine uA (ops:=#[]) (s:=toAS fr.rd s) ⟨rfl,rfl,rfl,rfl⟩ (fun _ _=>rfl) (fun v h' n' ds' hk=>?_) (fun v h' n' ds' hk=>Ml hK hk) h2
    obtain ⟨t,ht,ho⟩:=hk
    show pE Tryz.prog ops l _ _
    rw [ht]
    exact ih t K (fun h3=>hf (h3.sub ho)) fun e s' hx=>hK e s' (hx.sub ho)
  ·rw [BP] at h
   simp only [pE]
   rw [gU]
   show match eX (gtOf ops.toList o.guard) (envT s.τ) with|some true=>_|some false=>_|Option.none=>_
   rw [hw]
   have:toAS fr.rd ⟨putT o.dst (.tuple []) s.τ,s.H,s.n,s.ds⟩={ toAS fr.rd s with τ:=aPut (toAS fr.rd s).τ o.dst (.tuple []) }:=by simp only [toAS,jV]
   rw [← this]
   exact ih _ K (fun h3=>hf (h ▸ h3)) fun e s' hx=>hK e s' (h ▸ hx)
theorem j5 {f:AV→AV→Bool} (hf:∀ a b,f a b=true→a=b):∀ (l m:List AV),leq f l m=true→l=m
 |[],[],_=>rfl
 |[],b::m,h=>by cases h
 |a::l,[],h=>by cases h
 |a::l,b::m,h=>by
  simp only [leq] at h
  rw [brec] at h
  split at h
  ·rename_i h1
   rw [hf a b h1,j5 hf l m h]
  ·cases h
theorem G7 (a b:AV) (h:Uw a b=true):a=b:=by
 unfold Uw at h
 split at h
 ·rfl
 ·rfl
 ·rw [cK.1 h]
 ·rename_i x y;cases x <;> cases y <;> first|rfl|cases h
 ·rw [Bool.and_eq_true,RD,IP] at h
  rw [h.1,eq_of_beq h.2]
 ·rename_i x y
  rw [H7] at h
  have:=eq_of_beq h
  rw [uz,uz] at this
  have h2:x=y:=by
   obtain ⟨⟨x⟩⟩:=x
   obtain ⟨⟨y⟩⟩:=y
   simp only at this
   rw [this]
  rw [h2]
 ·simp only [Bool.and_eq_true,cK] at h;rw [h.1,h.2]
 ·rfl
 ·simp only [Bool.and_eq_true,cK] at h;rw [h.1.1,h.1.2,h.2]
 ·simp only [cK] at h;rw [h]
 ·rfl
 ·rfl
 ·rfl
 ·cases h
theorem FK (a b:Tok) (h:Sn a b=true):a=b:=by
 unfold Sn at h
 split at h
 ·rfl
 ·rfl
 ·rfl
 ·rw [cK.1 h]
 ·cases h
theorem G6 {f:AV→AV→Bool} (hf:∀ a b,f a b=true→a=b) (a b:AV) (h:Uv f a b=true):a=b:=by
 unfold Uv at h
 split at h
 ·simp only [Bool.and_eq_true,cK] at h;rw [h.1,j5 hf _ _ h.2]
 ·simp only [Bool.and_eq_true,cK] at h;rw [h.1.1.1,h.1.1.2,FK _ _ h.1.2,j5 hf _ _ h.2]
 ·simp only [Bool.and_eq_true,cK] at h;rw [h.1,hf _ _ h.2]
 ·rw [j5 hf _ _ h]
 ·rw [j5 hf _ _ h]
 ·simp only [Bool.and_eq_true,cK] at h;rw [h.1.1,j5 hf _ _ h.1.2,j5 hf _ _ h.2]
 ·exact G7 _ _ h
theorem kL:∀ (n:Nat) (a b:AV),avEq n a b=true→a=b
 |0,a,b,h=>by cases h
 |n+1,a,b,h=>G6 (kL n) a b h
def KX:List PE→Pend→Prop
 |[],T=>T=[]
 |.free i::T,U=>∃ Y U',U=(i,Y)::U'∧(∀ h,Y h)∧KX T U'
 |.rd i op τ v::T,U=>∃ U',U=(i,yieldOf Tryz.prog op (envT τ) v)::U'∧KX T U'
theorem BD {st:List Nat} {H:Tr XObj}:∀ {T:List PE} {U:Pend},KX T U→allB (peOk st H) T=true→z8 U st (hpT H)
 |[],U,hr,_=>by
  intro q hq
  have:U=[]:=hr
  subst this
  cases hq
 |.free i::T,U,hr,ha=>by
  obtain ⟨Y,U',rfl,hY,hr⟩:=hr
  rw [mE,List.all_cons,Bool.and_eq_true] at ha
  intro q hq hc
  rcases List.mem_cons.1 hq with rfl|hq
  ·exact hY _
  ·exact BD hr (by rw [mE];exact ha.2) q hq hc
 |.rd i op τ v::T,U,hr,ha=>by
  obtain ⟨U',rfl,hr⟩:=hr
  rw [mE,List.all_cons,Bool.and_eq_true] at ha
  intro q hq hc
  rcases List.mem_cons.1 hq with rfl|hq
  ·refine .inr fun hk p=>?_
   have h1:=ha.1
   simp only [peOk] at h1
   have hc':st.contains i=true:=hc
   rw [hc'] at h1
   simp only [Bool.not_true,Bool.false_or] at h1
   rw [orec] at h1
   cases hx:aop Tryz.prog op (aR (envT τ)) (hpT H) 0 with
   |none=>rw [hx] at h1;cases h1
   |some r =>
    rw [hx] at h1
    obtain ⟨u,h'⟩:=r
    have:=kL 100 u v h1
    subst this
    exact pz hk hx p
  ·exact BD hr (by rw [mE];exact ha.2) q hq hc
theorem LC {st:List Nat} {H:Tr XObj} {T:List PE} {U:Pend} (hr:KX T U) (h:Ia st T H=true):z8 U st (hpT H):=by
 cases st with
 |nil=>intro q hq hc;simp at hc
 |cons a st=>exact BD hr h
theorem pO {ops:Array Oper} {i:Nat} {co:CO} (h:jE (dQ ops) i=some co):∃ o,(bf Tryz.prog ops)[i]?=some o∧co=⟨o.dst,o.op,gtOf (bf Tryz.prog ops).toList o.guard⟩:=by
 unfold dQ at h
 rw [pQ] at h
 cases ho:(bf Tryz.prog ops).toList[i]? with
 |none=>rw [ho] at h;cases h
 |some o =>
  rw [ho] at h
  simp only [Option.map_some,Option.some.injEq] at h
  exact ⟨o,by simpa using ho,h.symm⟩
theorem vI {l:List Nat} (h:I8 l=true):l=[]:=by cases l with|nil=>rfl|cons=>cases h
theorem xY {j:Nat} {p:Plan} (h:Ca j p=true):p=.one j [] .done:=by
 unfold Ca at h
 split at h
 ·simp only [Bool.and_eq_true,cK] at h
  rw [h.1,vI h.2]
 ·cases h
theorem vV {co:CO} {T:TypeId} {a x:Operand} (h:uS co=some (T,a,x)):co=⟨Option.none,.store T a x,.go⟩:=by
 unfold uS at h
 split at h
 ·simp only [Option.some.injEq,Prod.mk.injEq] at h
  obtain ⟨rfl,rfl,rfl⟩:=h;rfl
 ·cases h
theorem G8 {a b:AV} (h:Jp a b=true):∃ i o j p,a=.ptr i o∧b=.ptr j p∧i≠j:=by
 have pt:∀ {v:AV} {i:Nat},ptrA v=some i→∃ o,v=.ptr i o:=by
  intro v i hv
  unfold ptrA at hv
  split at hv
  ·injection hv with hv;subst hv;exact ⟨_,rfl⟩
  ·cases hv
 unfold Jp at h
 split at h
 ·rename_i i j h1 h2
  obtain ⟨o,h1⟩:=pt h1
  obtain ⟨p,h2⟩:=pt h2
  refine ⟨i,o,j,p,h1,h2,fun e=>?_⟩
  subst e
  have:Nat.beq i i=true:=Nat.beq_refl i
  rw [this] at h;cases h
 ·cases h
theorem FO {P:Program} {T1 T2:TypeId} {i o j p:Nat} {x y:AV} {h h1 h12:ai} (hij:i≠j) (e1:l9 P T1 (.ptr i o) x h=some h1) (e2:l9 P T2 (.ptr j p) y h1=some h12) :
  ∃ h2,l9 P T2 (.ptr j p) y h=some h2∧l9 P T1 (.ptr i o) x h2=some h12:=by
 unfold l9 at e1 e2 ⊢
 cases hz1:tsz P T1 with
 |none=>rw [hz1] at e1;cases e1
 |some z1 =>
  cases hz2:tsz P T2 with
  |none=>rw [hz2] at e2;cases e2
  |some z2 =>
   rw [hz1] at e1
   rw [hz2] at e2
   simp only at e1 e2 ⊢
   cases hi:h i with
   |none=>rw [hi] at e1;cases e1
   |some oi =>
    rw [hi] at e1
    cases oi with
    |cells cs T =>
     simp only at e1
     split at e1
     ·rename_i c1
      injection e1 with e1
      subst e1
      rw [ae _ _ (fun e=>hij e.symm)] at e2
      cases hj:h j with
      |none=>rw [hj] at e2;cases e2
      |some oj =>
       rw [hj] at e2
       cases oj with
       |cells cs2 T' =>
        simp only at e2
        split at e2
        ·rename_i c2
         injection e2 with e2
         refine ⟨upd h j (some (.cells (dV cs2 p y.cells) T')),by simp only [if_pos c2],?_⟩
         rw [ae _ _ hij,hi]
         simp only [if_pos c1]
         rw [← e2]
         congr 1
         funext k
         by_cases hk:k=i
         ·subst hk;rw [upd_same,ae _ _ hij,upd_same]
         ·by_cases hk2:k=j
          ·subst hk2;rw [ae _ _ hk,upd_same,upd_same]
          ·rw [ae _ _ hk,ae _ _ hk2,ae _ _ hk2,ae _ _ hk]
        ·cases e2
       |_=>cases e2
     ·cases e1
    |_=>cases e1
theorem su {ops:Array Oper} {i:Nat} {oi:Oper} {T:TypeId} {a x:Operand} {g:GT} (hi:ops[i]?=some oi) (hco:(⟨oi.dst,oi.op,gtOf ops.toList oi.guard⟩:CO)=⟨Option.none,.store T a x,.go⟩) {s:AS} {h':ai} (hs:l9 Tryz.prog T (aR s.τ a) (aR s.τ x) s.h=some h') {next:AS→Prop} {pan:AV→AS→Prop} (hn:next { s with h:=h' }) :
  iY Tryz.prog ops i next pan s:=by
 simp only [CO.mk.injEq] at hco
 obtain ⟨hd,hop,hg⟩:=hco
 unfold iY
 rw [hi]
 simp only
 rw [gU,hg]
 show amOp Tryz.prog oi s next pan
 unfold amOp
 rw [hop]
 intro _
 rw [hop]
 simp only [aop,hs,Option.map_some,bN,cond_false,Nat.add_zero,hd]
 exact hn
theorem WS {call:pF} (hcall:uJ call) (own:Bool) (fr:Fr) (id:Nat) (ops:Array Oper):∀ (pl:Plan) (listed:Array Bool) (Tn:List Nat) (T:List PE) (U:Pend) (s:St) (K:KS),jy (bf Tryz.prog ops) pl listed Tn=true→KX T U →
  ¬ Fails (drX call own fr id ops (dQ ops) pl T s)→(∀ e s',IsX fr.rd (drX call own fr id ops (dQ ops) pl T s) e s'→K e s')→amDr Tryz.prog (bf Tryz.prog ops) K pl U (toAS fr.rd s):=by
 intro pl
 have pan:∀ {rd o v s} {K:KS},(∀ e s',IsX rd o e s'→K e s')→Hg rd o (panX ops) v s→panK (bf Tryz.prog ops) K v s:=by
  intro rd o v s K hK h
  have:=Ml hK h
  unfold panK at this ⊢
  rw [wo];exact this
 induction pl with
 |done=>intro listed Tn T U s K hp hr hf hK;exact hK .normal _ ⟨s,rfl,rfl⟩
 |take i rest ih =>
  intro listed Tn T U s K hp hr hf hK
  simp only [jy,Bool.and_eq_true] at hp
  obtain ⟨⟨⟨⟨_,_⟩,hkind⟩,_⟩,hp⟩:=hp
  have he:Fails (.fail fr.f id i):=aO _ _ _
  cases hco:jE (dQ ops) i with
  |none =>
   refine absurd ?_ hf
   show Fails (Option.rec (motive:=fun _=>Out) _ _ (jE (dQ ops) i))
   rw [hco];exact he
  |some co =>
   obtain ⟨o,ho,rfl⟩:=pO hco
   rw [ho] at hkind
   simp only [decide_eq_true_eq] at hkind
   have hx:drX call own fr id ops (dQ ops) (.take i rest) T s=Sr i o.dst (gtOf (bf Tryz.prog ops).toList o.guard) o.op T (drX call own fr id ops (dQ ops) rest) (.fail fr.f id i) s (fun s=>.fail fr.f id i) (panX ops):=by
    show (Option.rec (motive:=fun _=>Out) _ _ (jE (dQ ops) i))=_
    rw [hco]
    rfl
   have hg:=ry o.dst (gtOf (bf Tryz.prog ops).toList o.guard) (SQ i o.dst o.op T (drX call own fr id ops (dQ ops) rest)) (xS i o.dst T (drX call own fr id ops (dQ ops) rest)) (.fail fr.f id i) s (fun s=>.fail fr.f id i) (panX ops)
    (Sr i o.dst (gtOf (bf Tryz.prog ops).toList o.guard) o.op T (drX call own fr id ops (dQ ops) rest)) (by cases gtOf (bf Tryz.prog ops).toList o.guard <;> rfl)
   rw [← hx] at hg
   rcases hg with h|⟨hw,h⟩|⟨hw,h⟩
   ·exact absurd (by rw [h];exact he) hf
   ·obtain ⟨τ,H,n,ds⟩:=s
    have hne:∀ x,o.op≠.next x false:=fun x hx=>by rw [hx] at hkind;simp only [kw] at hkind;omega
    have h':drX call own fr id ops (dQ ops) (.take i rest) T ⟨τ,H,n,ds⟩=xop o.op (.fail fr.f id i) τ H n fun v _ _=>Bool.rec (drX call own fr id ops (dQ ops) rest (.rd i o.op τ v::T) ⟨putT o.dst v τ,H,n,ds⟩) (drX call own fr id ops (dQ ops) rest (.free i::T) ⟨putT o.dst v τ,H,n,ds⟩) (Nat.beq (kw o.op) 0):=by
     rw [h]
     show (xop o.op (.fail fr.f id i) τ H n fun v _ _=>rPut o.dst v τ fun τ'=>_)=_
     simp only [u7]
    rcases Rl o.op hne (.fail fr.f id i) τ H n (fun v _ _=>Bool.rec (drX call own fr id ops (dQ ops) rest (.rd i o.op τ v::T) ⟨putT o.dst v τ,H,n,ds⟩) (drX call own fr id ops (dQ ops) rest (.free i::T) ⟨putT o.dst v τ,H,n,ds⟩) (Nat.beq (kw o.op) 0)) with h1|⟨v,H',h1,h2⟩
    ·exact absurd (by rw [h',h1];exact he) hf
    have hop0:aop Tryz.prog o.op (aR (envT τ)) (hpT H) 0=some (v,hpT H):=by
     by_cases h0:kw o.op=0
     ·exact CV h0 h1 _ _
     ·exact pz (by omega) h1 0
    have key:∀ (T':List PE),KX T' ((i,yieldOf Tryz.prog o.op (envT τ) v)::U)→drX call own fr id ops (dQ ops) (.take i rest) T ⟨τ,H,n,ds⟩=drX call own fr id ops (dQ ops) rest T' ⟨putT o.dst v τ,H,n,ds⟩→amDr Tryz.prog (bf Tryz.prog ops) K (.take i rest) U (toAS fr.rd ⟨τ,H,n,ds⟩):=by
     intro T' hT' he'
     have h3:=ih _ _ T' _ ⟨putT o.dst v τ,H,n,ds⟩ K hp hT' (he' ▸ hf) (fun e s' hh=>hK e s' (he' ▸ hh))
     simp only [amDr,ho]
     rw [gU]
     show match eX (gtOf (bf Tryz.prog ops).toList o.guard) (envT τ) with|some true=>_|some false=>_|Option.none=>_
     rw [hw]
     show match aop Tryz.prog o.op (aR (envT τ)) (hpT H) 0 with|some (v,_)=>_|Option.none=>_
     rw [hop0]
     have:toAS fr.rd ⟨putT o.dst v τ,H,n,ds⟩={ toAS fr.rd ⟨τ,H,n,ds⟩ with τ:=aPut (envT τ) o.dst v }:=by simp only [toAS,jV]
     rw [this] at h3
     exact h3
    rw [h2,brec] at h'
    split at h'
    ·rename_i h0
     rw [cK] at h0
     exact key (.free i::T) ⟨_,_,rfl,fun h=>.inl h0,hr⟩ h'
    ·exact key (.rd i o.op τ v::T) ⟨_,rfl,hr⟩ h'
   ·have h':drX call own fr id ops (dQ ops) (.take i rest) T s=drX call own fr id ops (dQ ops) rest (.free i::T) ⟨putT o.dst (.tuple []) s.τ,s.H,s.n,s.ds⟩:=by
     rw [h]
     exact BP _ _ _ _ _
    have h3:=ih _ _ (.free i::T) ((i,fun _=>True)::U) ⟨putT o.dst (.tuple []) s.τ,s.H,s.n,s.ds⟩ K hp ⟨_,_,rfl,fun _=>trivial,hr⟩ (h' ▸ hf) (fun e s' hh=>hK e s' (h' ▸ hh))
    simp only [amDr,ho]
    rw [gU]
    show match eX (gtOf (bf Tryz.prog ops).toList o.guard) (envT s.τ) with|some true=>_|some false=>_|Option.none=>_
    rw [hw]
    have:toAS fr.rd ⟨putT o.dst (.tuple []) s.τ,s.H,s.n,s.ds⟩={ toAS fr.rd s with τ:=aPut (envT s.τ) o.dst (.tuple []) }:=by simp only [toAS,jV]
    rw [this] at h3
    exact h3
 |one i st rest ih =>
  intro listed Tn T U s K hp hr hf hK
  simp only [jy,Bool.and_eq_true] at hp
  obtain ⟨⟨_,_⟩,hp⟩:=hp
  have he:Fails (.fail fr.f id i):=aO _ _ _
  cases hco:jE (dQ ops) i with
  |none =>
   refine absurd ?_ hf
   show Fails (Option.rec (motive:=fun _=>Out) _ _ (jE (dQ ops) i))
   rw [hco];exact he
  |some co =>
   obtain ⟨o,ho,rfl⟩:=pO hco
   let k:St→Out:=fun s=>Bool.rec (.fail fr.f id i) (drX call own fr id ops (dQ ops) rest T s) (Ia st T s.H)
   have hx:drX call own fr id ops (dQ ops) (.one i st rest) T s=stepG o.dst (gtOf (bf Tryz.prog ops).toList o.guard) (BO call own fr.rd o.dst o.op) (.fail fr.f id i) s k (panX ops):=by
    show (Option.rec (motive:=fun _=>Out) _ _ (jE (dQ ops) i))=_
    rw [hco]
    rfl
   have hg:=ry o.dst (gtOf (bf Tryz.prog ops).toList o.guard) (BO call own fr.rd o.dst o.op) (JO o.dst) (.fail fr.f id i) s k (panX ops) (stepG o.dst (gtOf (bf Tryz.prog ops).toList o.guard) (BO call own fr.rd o.dst o.op)) (by cases gtOf (bf Tryz.prog ops).toList o.guard <;> rfl)
   rw [← hx] at hg
   have hk:∀ t,Sub (k t) (drX call own fr id ops (dQ ops) (.one i st rest) T s)→z8 U st (hpT t.H)∧amDr Tryz.prog (bf Tryz.prog ops) K rest U (toAS fr.rd t):=by
    intro t ht
    have hkt:k t=if Ia st T t.H=true then drX call own fr id ops (dQ ops) rest T t else .fail fr.f id i:=brec _ _ _
    rw [hkt] at ht
    split at ht
    ·rename_i hs
     exact ⟨LC hr hs,ih _ _ T U t K hp hr (fun h3=>hf (h3.sub ht)) fun e s' hh=>hK e s' (hh.sub ht)⟩
    ·exact absurd (he.sub ht) hf
   simp only [amDr]
   unfold iY
   rw [ho]
   simp only
   rw [gU]
   show match eX (gtOf (bf Tryz.prog ops).toList o.guard) (envT s.τ) with|some true=>_|some false=>_|Option.none=>_
   rcases hg with h|⟨hw,h⟩|⟨hw,h⟩
   ·exact absurd (h ▸ he) hf
   ·rw [hw]
    rcases Ik hcall own fr.rd o _ s k (panX ops) he with h2|h2
    ·exact absurd (h ▸ h2) hf
    ·rw [← h] at h2
     refine uA (ops:=#[]) (s:=toAS fr.rd s) ⟨rfl,rfl,rfl,rfl⟩ (fun _ _=>rfl) (fun v h' n' ds' hk'=>?_) (fun v h' n' ds' hk=>pan hK hk) h2
     obtain ⟨t,ht,ho'⟩:=hk'
     obtain ⟨h3,h4⟩:=hk t ho'
     show z8 U st _∧amDr Tryz.prog _ _ rest U _
     rw [ht]
     exact ⟨h3,h4⟩
   ·rw [hw]
    rw [BP] at h
    obtain ⟨h3,h4⟩:=hk _ (Sub.of_eq h)
    have:toAS fr.rd ⟨putT o.dst (.tuple []) s.τ,s.H,s.n,s.ds⟩={ toAS fr.rd s with τ:=aPut (envT s.τ) o.dst (.tuple []) }:=by simp only [toAS,jV]
    rw [this] at h4
    exact ⟨h3,h4⟩
 |two i st p j st' q ihp ihq =>
  intro listed Tn T U s K hp hr hf hK
  obtain ⟨τ,H,n,ds⟩:=s
  have he:Fails (.fail fr.f id i):=aO _ _ _
  have hx:drX call own fr id ops (dQ ops) (.two i st p j st' q) T ⟨τ,H,n,ds⟩=twoX (.fail fr.f id i) (dQ ops) i st p j st' q ⟨τ,H,n,ds⟩:=rfl
  generalize drX call own fr id ops (dQ ops) (.two i st p j st' q) T ⟨τ,H,n,ds⟩=out at hx hf hK ⊢
  unfold twoX at hx
  rw [orec] at hx
  cases hc1:(jE (dQ ops) i).bind uS with
  |none=>rw [hc1] at hx;exact absurd (hx ▸ he) hf
  |some c1 =>
   rw [hc1] at hx
   simp only at hx
   rw [orec] at hx
   cases hc2:(jE (dQ ops) j).bind uS with
   |none=>rw [hc2] at hx;exact absurd (hx ▸ he) hf
   |some c2 =>
    rw [hc2] at hx
    simp only at hx
    rw [brec] at hx
    split at hx
    ·rename_i hchk
     simp only [Bool.and_eq_true] at hchk
     obtain ⟨⟨⟨g1,g2⟩,g3⟩,g4⟩:=hchk
     obtain rfl:=xY g1
     obtain rfl:=xY g2
     obtain rfl:=vI g3
     obtain rfl:=vI g4
     obtain ⟨T1,a1,x1⟩:=c1
     obtain ⟨T2,a2,x2⟩:=c2
     obtain ⟨co1,hn1,hs1⟩:=Option.bind_eq_some_iff.1 hc1
     obtain ⟨co2,hn2,hs2⟩:=Option.bind_eq_some_iff.1 hc2
     have hs1:=vV hs1
     have hs2:=vV hs2
     obtain ⟨o1,ho1,rfl⟩:=pO hn1
     obtain ⟨o2,ho2,rfl⟩:=pO hn2
     have hx2:out=Bool.rec (.fail fr.f id i) (wh T1 a1 x1 (.fail fr.f id i) τ H n fun _ H1 _=>wh T2 a2 x2 (.fail fr.f id i) τ H1 n fun _ H2 _=>.norm ⟨τ,H2,n,ds⟩) (Jp (ev a1 τ) (ev a2 τ)):=hx
     rw [brec] at hx2
     split at hx2
     ·rename_i hap
      rw [jM,jM] at hap
      obtain ⟨k1,p1,k2,p2,ha1,ha2,hne⟩:=G8 hap
      rcases Bv T1 a1 x1 (.fail fr.f id i) τ H n (fun _ H1 _=>wh T2 a2 x2 (.fail fr.f id i) τ H1 n fun _ H2 _=>.norm ⟨τ,H2,n,ds⟩) with h1|⟨v1,H1,h1,h2⟩
      ·rw [h1] at hx2;exact absurd (hx2 ▸ he) hf
      ·rw [h2] at hx2
       rcases Bv T2 a2 x2 (.fail fr.f id i) τ H1 n (fun _ H2 _=>.norm ⟨τ,H2,n,ds⟩) with h3|⟨v2,H2,h3,h4⟩
       ·rw [h3] at hx2;exact absurd (hx2 ▸ he) hf
       ·rw [h4] at hx2
        have st:∀ {T:TypeId} {a x:Operand} {h h':ai} {m:Nat} {v:AV},aop Tryz.prog (.store T a x) (aR (envT τ)) h m=some (v,h')→l9 Tryz.prog T (aR (envT τ) a) (aR (envT τ) x) h=some h':=by
         intro T a x h h' m v hh
         simp only [aop] at hh
         cases hq:l9 Tryz.prog T (aR (envT τ) a) (aR (envT τ) x) h with
         |none=>rw [hq] at hh;cases hh
         |some r=>rw [hq] at hh;simp only [Option.map_some,Option.some.injEq,Prod.mk.injEq] at hh;rw [hh.2]
        have e1:=st h1
        have e2:=st h3
        rw [ha1] at e1
        rw [ha2] at e2
        obtain ⟨hh2,e3,e4⟩:=FO hne e1 e2
        rw [← ha1] at e1 e4
        rw [← ha2] at e2 e3
        have fin:K .normal ⟨envT τ,hpT H2,n,ds,fr.rd⟩:=hK .normal _ ⟨⟨τ,H2,n,ds⟩,by rw [hx2];rfl,rfl⟩
        have em:∀ {h:ai},z8 U [] h:=fun {h} q hq hc=>by simp at hc
        simp only [amDr]
        refine ⟨su (g:=.go) ho1 hs1 (s:=toAS fr.rd ⟨τ,H,n,ds⟩) e1 ⟨em,su (g:=.go) ho2 hs2 (s:=⟨envT τ,hpT H1,n,ds,fr.rd⟩) e2 ⟨em,fin⟩⟩,
         su (g:=.go) ho2 hs2 (s:=toAS fr.rd ⟨τ,H,n,ds⟩) e3 ⟨em,su (g:=.go) ho1 hs1 (s:=⟨envT τ,hh2,n,ds,fr.rd⟩) e4 ⟨em,fin⟩⟩⟩
     ·exact absurd (hx2 ▸ he) hf
    ·exact absurd (hx ▸ he) hf
theorem QM {hn:vP} {call:pF} (hcall:uJ call) (fr:Fr) (id:Nat) (ops:Array Oper) (hc:chkC hn fr.f (.region id ops true)=true) (s:St):Fails (QN hn call fr id ops s)∨NSem Tryz.prog fr.nt (.region id ops true) (IsX fr.rd (QN hn call fr id ops s)) (toAS fr.rd s):=by
 have hx:QN hn call fr id ops s=Option.rec (motive:=fun _=>Out) (.fail fr.f id 8801) (fun q=>drX call (hn.own fr.f id) fr id ops (dQ ops) q.1 [] s) (hn.plan fr.f id):=rfl
 rw [orec] at hx
 simp only [chkC,cond_true] at hc
 cases hp:hn.plan fr.f id with
 |none=>rw [hp] at hx;exact .inl (hx ▸ aO _ _ _)
 |some q =>
  rw [hp] at hx hc
  simp only at hx hc
  simp only [RJ,Bool.and_eq_true,gP] at hc
  obtain ⟨⟨h1,h2⟩,h3⟩:=hc
  rw [hx]
  by_cases hf:Fails (drX call (hn.own fr.f id) fr id ops (dQ ops) q.1 [] s)
  ·exact .inl hf
  ·exact .inr (NSem.late nN ⟨q.1,q.2,h1,h2,h3,WS hcall (hn.own fr.f id) fr id ops q.1 _ [] [] [] s _ h1 rfl hf fun _ _ h=>h⟩)
theorem qW (o:Option XObj) (err:Out) (k:LoopState→Option Code→Nat→Tr AV→List Nat→Code→Code→Nat→Nat→Out):yl o err k=err∨∃ st pend nt env ps asg bd d f,o=some (.loop st pend nt env ps asg bd d f)∧yl o err k=k st pend nt env ps asg bd d f:=by
 cases o with
 |none=>exact .inl rfl
 |some x =>
  cases x with
  |o a=>exact .inl rfl
  |loop st pend nt env ps asg bd d f=>exact .inr ⟨st,pend,nt,env,ps,asg,bd,d,f,rfl,rfl⟩
theorem Cs {H:Tr XObj} {l:Nat} {st:LoopState} {pend:Option Code} {nt:Nat} {env:Tr AV} {ps:List Nat} {asg bd:Code} {d f:Nat} (h:getP (bits l) H=some (.loop st pend nt env ps asg bd d f)):hpT H l=some (.loop st pend nt (envT env) ps asg bd d):=by
 unfold hpT;rw [h];rfl
theorem GA (v:AV) (err:Out) (k:AV→Out):Qc v err k=err∨∃ g a b,v=.func (.func g) a b∧Qc v err k=k v:=by
 cases v with
 |func fn a b=>cases fn with
  |func g=>exact .inr ⟨g,a,b,rfl,rfl⟩
  |_=>exact .inl rfl
 |_=>exact .inl rfl
theorem IC {F:Out→Out} (hF:∀ a b,F (.alt a b)=.alt (F a) (F b)):∀ (o x:Out),Leaf x o→Sub (F x) (F o):=by
 intro o
 induction o with
 |alt a b iha ihb =>
  intro x h
  rw [hF]
  rcases h with h|h
  ·exact fun y hy=>.inl (iha x h y hy)
  ·exact fun y hy=>.inr (ihb x h y hy)
 |_=>intro x h;have h:x=_:=h;subst h;exact Sub.refl _
theorem jR {B:St→Out} {o x:Out} (h:Leaf x o):Sub (FM B x) (FM B o):=IC (F:=FM B) (fun _ _=>rfl) o x h
theorem tL {id:Nat} {o x:Out} (h:Leaf x o):Sub (EL id x) (EL id o):=IC (F:=EL id) (fun _ _=>rfl) o x h
theorem LeAV.any (a:AV):LeAV a .any:=fun _ _ _ _=>by simp [Rel]
theorem LeAV.trans {a b c:AV} (h1:LeAV a b) (h2:LeAV b c):LeAV a c:=fun G W v h=>h2 G W v (h1 G W v h)
def LeS (t u:St):Prop:=(∀ i,LeAV (envT t.τ i) (envT u.τ i))∧ax (hpT t.H) (hpT u.H)∧u.n=t.n∧u.ds=t.ds
theorem LeS.trans {a b c:St} (h1:LeS a b) (h2:LeS b c):LeS a c:=⟨fun i=>(h1.1 i).trans (h2.1 i),fun i o h=>h1.2.1 i o (h2.2.1 i o h),h2.2.2.1.trans h1.2.2.1,h2.2.2.2.trans h1.2.2.2⟩
theorem w9:∀ (p:List Bool) (t:Tr AV),getP p (anyT t)=(getP p t).map fun _=>.any
 |[],.nil=>rfl
 |[],.node l v r=>by cases v <;> rfl
 |b::p,.nil=>rfl
 |b::p,.node l v r=>by
  cases b
  ·exact w9 p l
  ·exact w9 p r
noncomputable def jv (x y:Option AV):Option AV:=Ki x y id
theorem Cm (x y:Option AV) {β:Type} (k:Option AV→β):Ki x y k=k (jv x y):=by
 cases x with
 |none=>cases y <;> rfl
 |some x=>cases y with
  |none=>rfl
  |some y =>
   show Bool.rec (k (some .any)) (k (some x)) (avEq 100 x y)=k (Bool.rec (some .any) (some x) (avEq 100 x y))
   cases avEq 100 x y <;> rfl
noncomputable def jT (a b:Tr AV):Tr AV:=zU a b id
theorem nJ:∀ (a b:Tr AV) {β:Type} (k:Tr AV→β),zU a b k=k (jT a b)
 |.nil,b,β,k=>rfl
 |.node l v r,.nil,β,k=>rfl
 |.node l v r,.node l' v' r',β,k=>by
  show zU l l' (fun l=>zU r r' fun r=>Ki v v' fun v=>k (.node l v r))=k (zU l l' fun l=>zU r r' fun r=>Ki v v' fun v=>id (Tr.node l v r))
  rw [nJ l l',nJ r r',Cm,nJ l l',nJ r r',Cm]
  rfl
theorem Nc (l r l' r':Tr AV) (v v':Option AV):jT (.node l v r) (.node l' v' r')=.node (jT l l') (jv v v') (jT r r'):=by
 show zU l l' (fun l=>zU r r' fun r=>Ki v v' fun v=>id (Tr.node l v r))=_
 rw [nJ l l',nJ r r',Cm]
 rfl
def LeO (x z:Option AV):Prop:=LeAV (x.getD (.tuple [])) (z.getD (.tuple []))
theorem LeO.refl (x:Option AV):LeO x x:=LeAV.refl _
theorem LeO.anyO (y:Option AV):LeO Option.none (y.map fun _=>.any)∧LeO y (y.map fun _=>.any):=by
 cases y with
 |none=>exact ⟨LeAV.refl _,LeAV.refl _⟩
 |some y=>exact ⟨LeAV.any _,LeAV.any _⟩
theorem jv_le (x y:Option AV):LeO x (jv x y)∧LeO y (jv x y):=by
 cases x with
 |none=>cases y with
  |none=>exact ⟨LeO.refl _,LeO.refl _⟩
  |some y=>exact ⟨LeAV.any _,LeAV.any _⟩
 |some x=>cases y with
  |none=>exact ⟨LeAV.any _,LeAV.any _⟩
  |some y =>
   have:jv (some x) (some y)=(match avEq 100 x y with|true=>some x|false=>some .any):=by
    show (Gr x y fun v=>id (some v))=_
    unfold Gr
    cases avEq 100 x y <;> rfl
   rw [this]
   cases h:avEq 100 x y with
   |false=>exact ⟨LeAV.any _,LeAV.any _⟩
   |true=>have:=kL 100 x y h;subst this;exact ⟨LeO.refl _,LeO.refl _⟩
theorem P8:∀ (p:List Bool) (a b:Tr AV),LeO (getP p a) (getP p (jT a b))∧LeO (getP p b) (getP p (jT a b))
 |p,.nil,b=>by
  show LeO (getP p .nil) (getP p (anyT b))∧LeO (getP p b) (getP p (anyT b))
  rw [w9,gB]
  exact LeO.anyO _
 |p,.node l v r,.nil=>by
  show LeO (getP p (.node l v r)) (getP p (anyT (.node l v r)))∧LeO (getP p .nil) (getP p (anyT (.node l v r)))
  rw [w9,gB]
  exact (LeO.anyO _).symm
 |[],.node l v r,.node l' v' r'=>by rw [Nc];exact jv_le v v'
 |b::p,.node l v r,.node l' v' r'=>by
  rw [Nc]
  cases b
  ·exact P8 p l l'
  ·exact P8 p r r'
theorem tT (τ:Tr AV) (i:Nat):envT τ i=(getP (bits i) τ).getD (.tuple []):=by
 show Option.rec (motive:=fun _=>AV) _ _ (getP (bits i) τ)=_
 cases getP (bits i) τ <;> rfl
noncomputable def jo (x y:Option XObj):Option XObj:=Kj x y id
theorem Cn (x y:Option XObj) {β:Type} (k:Option XObj→β):Kj x y k=k (jo x y):=by
 cases x with
 |none=>rfl
 |some x=>cases y with
  |none=>rfl
  |some y =>
   show Bool.rec (k Option.none) (k (some x)) (xoEq x y)=k (Bool.rec Option.none (some x) (xoEq x y))
   cases xoEq x y <;> rfl
noncomputable def jH (a b:Tr XObj):Tr XObj:=zW a b id
theorem nK:∀ (a b:Tr XObj) {β:Type} (k:Tr XObj→β),zW a b k=k (jH a b)
 |.nil,b,β,k=>rfl
 |.node l v r,.nil,β,k=>rfl
 |.node l v r,.node l' v' r',β,k=>by
  show zW l l' (fun l=>zW r r' fun r=>Kj v v' fun v=>k (.node l v r))=k (zW l l' fun l=>zW r r' fun r=>Kj v v' fun v=>id (Tr.node l v r))
  rw [nK l l',nK r r',Cn,nK l l',nK r r',Cn]
  rfl
theorem Nf (l r l' r':Tr XObj) (v v':Option XObj):jH (.node l v r) (.node l' v' r')=.node (jH l l') (jo v v') (jH r r'):=by
 show zW l l' (fun l=>zW r r' fun r=>Kj v v' fun v=>id (Tr.node l v r))=_
 rw [nK l l',nK r r',Cn]
 rfl
theorem AU:∀ (l m:List (AV × AV × Nat)),esEq l m=true→l=m
 |[],[],_=>rfl
 |[],b::m,h=>by cases h
 |a::l,[],h=>by cases h
 |a::l,b::m,h=>by
  simp only [esEq,Bool.and_eq_true,cK] at h
  obtain ⟨a1,a2,a3⟩:=a
  obtain ⟨b1,b2,b3⟩:=b
  obtain ⟨⟨⟨h1,h2⟩,h3⟩,h4⟩:=h
  have h1:a1=b1:=kL _ _ _ h1
  have h2:a2=b2:=kL _ _ _ h2
  have h3:a3=b3:=h3
  rw [h1,h2,h3,AU l m h4]
theorem Jz (a b:XObj) (h:xoEq a b=true):a=b:=by
 unfold xoEq at h
 split at h
 ·simp only [Bool.and_eq_true,cK] at h
  rw [h.1,j5 (kL 100) _ _ h.2]
 ·rw [cK.1 h]
 ·simp only [Bool.and_eq_true,cK] at h
  rw [h.1,AU _ _ h.2]
 ·rfl
 ·cases h
theorem Tx {x y:Option XObj} {z:XObj} (h:jo x y=some z):x=some z∧y=some z:=by
 cases x with
 |none=>cases h
 |some x=>cases y with
  |none=>cases h
  |some y =>
   have:jo (some x) (some y)=(match xoEq x y with|true=>some x|false=>Option.none):=by
    show Gt x y id=_
    unfold Gt
    cases xoEq x y <;> rfl
   rw [this] at h
   cases he:xoEq x y with
   |false=>rw [he] at h;cases h
   |true =>
    rw [he] at h
    have:=Jz x y he
    subst this
    exact ⟨h,h⟩
theorem Gu:∀ (p:List Bool) (a b:Tr XObj) (z:XObj),getP p (jH a b)=some z→getP p a=some z∧getP p b=some z
 |p,.nil,b,z,h=>by
  have:getP p (Tr.nil:Tr XObj)=some z:=h
  rw [gB] at this;cases this
 |p,.node l v r,.nil,z,h=>by
  have:getP p (Tr.nil:Tr XObj)=some z:=h
  rw [gB] at this;cases this
 |[],.node l v r,.node l' v' r',z,h=>by rw [Nf] at h;exact Tx h
 |b::p,.node l v r,.node l' v' r',z,h=>by
  rw [Nf] at h
  cases b
  ·exact Gu p l l' z h
  ·exact Gu p r r' z h
theorem Qa {H:Tr XObj} {i:Nat} {o:AObj} (h:hpT H i=some o):∃ x,getP (bits i) H=some x∧o=x.toO:=by
 unfold hpT at h
 cases hg:getP (bits i) H with
 |none=>rw [hg] at h;cases h
 |some x=>rw [hg] at h;simp only [Option.map_some,Option.some.injEq] at h;exact ⟨x,rfl,h.symm⟩
theorem P7 {err:Out} {s t:St}:Gs err s t=err∨∃ u,Gs err s t=.norm u∧LeS s u∧LeS t u:=by
 have hx:Gs err s t=Bool.rec err (zU s.τ t.τ fun τ=>zW s.H t.H fun H=>.norm ⟨τ,H,s.n,[]⟩) (Nat.beq s.n t.n&&EU s.ds&&EU t.ds):=rfl
 rw [brec,nJ,nK] at hx
 split at hx
 ·rename_i hc
  simp only [Bool.and_eq_true,cK] at hc
  have em:∀ {l:List ADef},EU l=true→l=[]:=by
   intro l h
   cases l with
   |nil=>rfl
   |cons=>cases h
  have hp:∀ {i:Nat} {o:AObj},hpT (jH s.H t.H) i=some o→hpT s.H i=some o∧hpT t.H i=some o:=by
   intro i o h
   obtain ⟨x,hx,rfl⟩:=Qa h
   obtain ⟨h1,h2⟩:=Gu _ _ _ _ hx
   exact ⟨by unfold hpT;rw [h1];rfl,by unfold hpT;rw [h2];rfl⟩
  refine .inr ⟨_,hx,⟨fun i=>?_,fun i o h=>(hp h).1,rfl,(em hc.1.2).symm⟩,⟨fun i=>?_,fun i o h=>(hp h).2,hc.1.1,(em hc.2).symm⟩⟩
  ·rw [tT,tT];exact (P8 (bits i) s.τ t.τ).1
  ·rw [tT,tT];exact (P8 (bits i) s.τ t.τ).2
 ·exact .inl hx
theorem yc (o err:Out) (he:Fails err) (k:St→Out):Fails (Ga o err k)∨∃ s,o=.norm s∧Ga o err k=k s:=by
 cases o with
 |norm s=>exact .inr ⟨s,rfl,rfl⟩
 |fail f r i=>exact .inl (aO _ _ _)
 |_=>exact .inl he
theorem PS {err:Out} (he:Fails err):∀ (o x:Out),¬ Fails (oZ err o)→Leaf x o→Leaf x (oZ err o)∨∃ t u,x=.norm t∧LeS t u∧Leaf (.norm u) (oZ err o):=by
 intro o
 induction o with
 |alt a b iha ihb =>
  intro x hf h
  have hx:oZ err (.alt a b)=Ga (oZ err a) err fun s=>Ga (oZ err b) err fun t=>Gs err s t:=rfl
  rcases yc (oZ err a) err he (fun s=>Ga (oZ err b) err fun t=>Gs err s t) with h1|⟨s,h1,h2⟩
  ·exact absurd (hx ▸ h1) hf
  rcases yc (oZ err b) err he (fun t=>Gs err s t) with h3|⟨t,h3,h4⟩
  ·exact absurd (by rw [hx,h2];exact h3) hf
  rw [h2,h4] at hx
  rcases P7 (err:=err) (s:=s) (t:=t) with h5|⟨u,h5,l1,l2⟩
  ·exact absurd (by rw [hx,h5];exact he) hf
  rw [h5] at hx
  have nf:∀ {v:St},¬ Fails (.norm v):=by
   intro v hv;obtain ⟨_,_,_,hl⟩:=hv;cases hl
  refine .inr ?_
  rw [hx]
  rcases h with h|h
  ·rcases iha x (by rw [h1];exact nf) h with h6|⟨t',u',rfl,l3,h6⟩
   ·rw [h1] at h6
    exact ⟨s,u,h6,l1,rfl⟩
   ·rw [h1] at h6
    have h6:Out.norm u'=.norm s:=h6
    injection h6 with h6
    subst h6
    exact ⟨t',u,rfl,l3.trans l1,rfl⟩
  ·rcases ihb x (by rw [h3];exact nf) h with h6|⟨t',u',rfl,l3,h6⟩
   ·rw [h3] at h6
    exact ⟨t,u,h6,l2,rfl⟩
   ·rw [h3] at h6
    have h6:Out.norm u'=.norm t:=h6
    injection h6 with h6
    subst h6
    exact ⟨t',u,rfl,l3.trans l2,rfl⟩
 |_=>intro x hf h;exact .inl h
def LeA (s u:AS):Prop:=(∀ i,LeAV (s.τ i) (u.τ i))∧ax s.h u.h∧u.n=s.n∧u.ds=s.ds∧u.rd=s.rd
theorem LeA.refl (s:AS):LeA s s:=⟨fun i=>LeAV.refl _,ax.refl _,rfl,rfl,rfl⟩
theorem LeS.toA {rd:Option Nat} {t u:St} (h:LeS t u):LeA (toAS rd t) (toAS rd u):=⟨h.1,h.2.1,h.2.2.1,h.2.2.2,rfl⟩
theorem Agree.le {P:Program} {nt:Nat} {F:Fence} {G0 G:Gh} {W0 W:World} {s u:AS} {a:Act} (ag:Agree P nt F G0 W0 G W s a) (h:LeA s u):Agree P nt F G0 W0 G W u a:=by
 obtain ⟨h1,h2,h3,h4,h5⟩:=h
 exact ⟨ag.sim.less h2,by rw [h3];exact ag.num,ag.evo,⟨ag.tmps.size,fun t=>h1 t G W _ (ag.tmps.get t)⟩,by rw [h4];exact ag.defers,by rw [h5];exact ag.rd⟩
theorem NSem.post {P:Program} {nt:Nat} {c:Code} {K K':KS} {s:AS} (hk:∀ e s,K e s→∃ u,LeA s u∧K' e u) (hc:NSem P nt c K s):NSem P nt c K' s:=by
 refine ⟨fun {F m G0 W0 G W a} hF hok ag=>wpIn_mono (hc.run hF hok ag) fun e a' w' hq=>?_⟩
 cases e with
 |normal=>obtain ⟨G',s',ag',hq⟩:=hq;obtain ⟨u,hu,hq⟩:=hk _ _ hq;exact ⟨G',u,ag'.le hu,hq⟩
 |exit i=>obtain ⟨G',s',ag',hq⟩:=hq;obtain ⟨u,hu,hq⟩:=hk _ _ hq;exact ⟨G',u,ag'.le hu,hq⟩
 |ret=>obtain ⟨G',s',ag',hq⟩:=hq;obtain ⟨u,hu,hq⟩:=hk _ _ hq;exact ⟨G',u,ag'.le hu,hq⟩
 |panic ch=>obtain ⟨G',s',v,v',ag',h2,h3,hq⟩:=hq;obtain ⟨u,hu,hq⟩:=hk _ _ hq;exact ⟨G',u,v,v',ag'.le hu,h2,h3,hq⟩
 |goto l=>exact hq
 |outgrown=>exact hq
section
variable {hn:vP} {call:pF} {fuel:Nat} {fr:Fr}
def mY (fr:Fr) (c:Code) (A:St→Out):Prop:=∀ s,Fails (A s)∨NSem Tryz.prog fr.nt c (IsX fr.rd (A s)) (toAS fr.rd s)
theorem seq_ok {a b:Code} {A B:St→Out} (ha:mY fr a A) (hb:mY fr b B):mY fr (.seq a b) (xSeq A B):=by
 intro s
 have hx:xSeq A B s=FM B (A s):=rfl
 rcases ha s with ⟨f,r,i,h⟩|h
 ·exact .inl (by rw [hx];exact (aO f r i).sub (jR (B:=B) h))
 ·by_cases hf:Fails (xSeq A B s)
  ·exact .inl hf
  refine .inr (NSem.seq (h.mono fun e s' hk=>?_))
  cases e with
  |normal =>
   obtain ⟨t,ht,rfl⟩:=hk
   have hx':Sub (B t) (xSeq A B s):=by rw [hx];exact jR (B:=B) ht
   rcases hb t with h2|h2
   ·exact absurd (h2.sub hx') hf
   ·exact h2.mono fun e s' hh=>hh.sub hx'
  |exit i=>obtain ⟨t,ht,rfl⟩:=hk;exact ⟨t,by rw [hx];exact jR (B:=B) ht _ rfl,rfl⟩
  |ret=>obtain ⟨t,ht,rfl⟩:=hk;exact ⟨t,by rw [hx];exact jR (B:=B) ht _ rfl,rfl⟩
  |panic v=>obtain ⟨t,ht,rfl⟩:=hk;exact ⟨t,by rw [hx];exact jR (B:=B) ht _ rfl,rfl⟩
theorem Uj {c:Operand} {a b:Code} {A B:St→Out} (ha:mY fr a A) (hb:mY fr b B):mY fr (.cond c a b) (OV fr c A B):=by
 intro s
 have hx:OV fr c A B s=Pz (aR (envT s.τ) c) fr A B s:=by unfold OV;rw [jM]
 have key:∀ v,aR (envT s.τ) c=v→Fails (Pz v fr A B s)∨NSem Tryz.prog fr.nt (.cond c a b) (IsX fr.rd (Pz v fr A B s)) (toAS fr.rd s):=by
  intro v hv
  cases v with
  |bool t =>
   cases t with
   |true =>
    rcases ha s with h|h
    ·exact .inl h
    ·exact .inr (NSem.cond (t:=true) hv (fun _=>h) (fun h=>by cases h))
   |false =>
    rcases hb s with h|h
    ·exact .inl h
    ·exact .inr (NSem.cond (t:=false) hv (fun h=>by cases h) (fun _=>h))
  |_=>exact .inl (aO _ _ _)
 rw [hx]
 exact key _ rfl
theorem QZ {id:Nat} {a:Code} {A:St→Out} (ha:mY fr a A):mY fr (.block id a) (xC fr id A):=by
 intro s
 have hx:xC fr id A s=oZ (.fail fr.f 8831 id) (EL id (A s)):=rfl
 have he:Fails (.fail fr.f 8831 id):=aO _ _ _
 by_cases hf:Fails (xC fr id A s)
 ·exact .inl hf
 have mg:∀ {x:Out},Leaf x (EL id (A s))→Leaf x (xC fr id A s)∨∃ t u,x=.norm t∧LeS t u∧Leaf (.norm u) (xC fr id A s):=by
  intro x h
  rw [hx] at hf ⊢
  exact PS he _ x hf h
 have mgn:∀ {t:St},Leaf (.norm t) (EL id (A s))→∃ u,LeA (toAS fr.rd t) u∧IsX fr.rd (xC fr id A s) .normal u:=by
  intro t h
  rcases mg h with h|⟨t',u,h1,h2,h3⟩
  ·exact ⟨_,LeA.refl _,t,h,rfl⟩
  ·injection h1 with h1
   subst h1
   exact ⟨_,h2.toA,u,h3,rfl⟩
 rcases ha s with ⟨f,r,i,h⟩|h
 ·refine .inl ?_
  rcases mg (tL (id:=id) h _ rfl) with h|⟨_,_,h1,_⟩
  ·exact ⟨f,r,i,h⟩
  ·cases h1
 ·refine .inr (NSem.block (NSem.post (fun e s' hk=>?_) h))
  cases e with
  |normal=>obtain ⟨t,ht,rfl⟩:=hk;exact mgn (tL (id:=id) ht _ rfl)
  |exit i =>
   obtain ⟨t,ht,rfl⟩:=hk
   have hs:=tL (id:=id) ht
   have hs':EL id (.exit i t)=Bool.rec (.exit i t) (.norm t) (Nat.beq i id):=rfl
   rw [hs'] at hs
   simp only [CQ]
   cases hb:Nat.beq i id with
   |true=>rw [hb] at hs;exact mgn (hs _ rfl)
   |false =>
    rw [hb] at hs
    rcases mg (hs _ rfl) with h|⟨_,_,h1,_⟩
    ·exact ⟨_,LeA.refl _,t,h,rfl⟩
    ·cases h1
  |ret =>
   obtain ⟨t,ht,rfl⟩:=hk
   rcases mg (tL (id:=id) ht _ rfl) with h|⟨_,_,h1,_⟩
   ·exact ⟨_,LeA.refl _,t,h,rfl⟩
   ·cases h1
  |panic v =>
   obtain ⟨t,ht,rfl⟩:=hk
   rcases mg (tL (id:=id) ht _ rfl) with h|⟨_,_,h1,_⟩
   ·exact ⟨_,LeA.refl _,t,h,rfl⟩
   ·cases h1
theorem Tk {a:Code} {A:St→Out} (ha:mY fr a A):mY fr (.loop a) (xB fuel fr A):=by
 intro s
 by_cases hf:Fails (xB fuel fr A s)
 ·exact .inl hf
 refine .inr ?_
 generalize ho:xB fuel fr A s=out at hf ⊢
 refine NSem.loop (fun k s'=>∃ t,s'=toAS fr.rd t∧Sub (xB k fr A t) out) fuel ⟨s,rfl,Sub.of_eq ho.symm⟩ fun k s' hI=>?_
 obtain ⟨t,rfl,ht⟩:=hI
 cases k with
 |zero=>exact absurd ((aO _ _ _).sub ht) hf
 |succ k =>
  have hx:Sub (FM (xB k fr A) (A t)) out:=ht
  rcases ha t with ⟨f,r,i,h⟩|h
  ·exact absurd (((aO f r i).sub (jR (B:=xB k fr A) h)).sub hx) hf
  ·refine h.mono fun e s2 hk=>?_
   cases e with
   |normal=>obtain ⟨t',ht',rfl⟩:=hk;exact ⟨k,Nat.lt_succ_self k,t',rfl,(jR (B:=xB k fr A) ht').trans hx⟩
   |exit i=>obtain ⟨t',ht',rfl⟩:=hk;exact ⟨t',hx _ (jR (B:=xB k fr A) ht' _ rfl),rfl⟩
   |ret=>obtain ⟨t',ht',rfl⟩:=hk;exact ⟨t',hx _ (jR (B:=xB k fr A) ht' _ rfl),rfl⟩
   |panic v=>obtain ⟨t',ht',rfl⟩:=hk;exact ⟨t',hx _ (jR (B:=xB k fr A) ht' _ rfl),rfl⟩
theorem Ps (hcall:uJ call) {g:Operand} {ps:Array Tmp} {asg bd:Code}:mY fr (.rangeFunc g ps asg bd) (Dm call fr g ps asg bd):=by
 intro s
 obtain ⟨τ,H,n,ds⟩:=s
 obtain ⟨f,nt,rd⟩:=fr
 by_cases hf:Fails (Dm call ⟨f,nt,rd⟩ g ps asg bd ⟨τ,H,n,ds⟩)
 ·exact .inl hf
 refine .inr ?_
 cases rd with
 |some l=>exact absurd (aO _ _ _) hf
 |none =>
  have hx:Dm call ⟨f,nt,Option.none⟩ g ps asg bd ⟨τ,H,n,ds⟩=Qc (ev g τ) (.fail f 8805 0) fun v=>setK (some (.o .defs)) (bits n) H fun H1=>fNat (Nat.succ n) fun n1 =>
   setK (some (.loop .ready Option.none nt τ ps.toList asg bd n f)) (bits n1) H1 fun H2=>fNat (Nat.succ n1) fun n2 =>
   SK (.fail f 8806 0) τ ds n (call v [.yield n1] H2 n2):=rfl
  generalize Dm call ⟨f,nt,Option.none⟩ g ps asg bd ⟨τ,H,n,ds⟩=out at hx hf ⊢
  simp only [cu,gL] at hx
  rw [jM] at hx
  rcases GA (aR (envT τ) g) (.fail f 8805 0) (fun v=>SK (.fail f 8806 0) τ ds n (call v [.yield (n+1)] (setP (some (.loop .ready Option.none nt τ ps.toList asg bd n f)) (bits (n+1)) (setP (some (.o .defs)) (bits n) H)) (n+1+1))) with h|⟨g',a,b,hv,h⟩
  ·exact absurd (by rw [hx,h];exact aO _ _ _) hf
  ·rw [h] at hx
   have hk:=hcall (aR (envT τ) g) [.yield (n+1)] (setP (some (.loop .ready Option.none nt τ ps.toList asg bd n f)) (bits (n+1)) (setP (some (.o .defs)) (bits n) H)) (n+1+1)
   generalize call (aR (envT τ) g) [.yield (n+1)] (setP (some (.loop .ready Option.none nt τ ps.toList asg bd n f)) (bits (n+1)) (setP (some (.o .defs)) (bits n) H)) (n+1+1)=co at hk hx
   rcases hk with hk|hk
   ·refine absurd ?_ hf
    rw [hx]
    cases co with
    |val v H n=>obtain ⟨_,_,_,h⟩:=hk;cases h
    |thr v H n=>obtain ⟨_,_,_,h⟩:=hk;cases h
    |_=>exact aO _ _ _
   ·rw [hv] at hk
    have hk:gT Tryz.prog g' (a++[.yield (n+1)]++b) (hpT (setP (some (.loop .ready Option.none nt τ ps.toList asg bd n f)) (bits (n+1)) (setP (some (.o .defs)) (bits n) H))) (n+1+1) (IsV co):=hk
    rw [gJ,gJ] at hk
    refine NSem.rangeFunc (s:=toAS Option.none ⟨τ,H,n,ds⟩) rfl hv (hk.mono fun ao h' n' hq=>?_)
    cases ao with
    |ret v =>
     obtain ⟨H',rfl,rfl⟩:=hq
     have hx:out=yl (getP (bits (Nat.succ n)) H') (.fail f 8806 0) fun st pend _ _ _ _ _ _ _=>Bool.rec (.fail f 8806 0) (setK Option.none (bits (Nat.succ n)) H' fun H=>Tw pend (.fail f 8806 0) ⟨τ,H,n',.coll n::ds⟩) (LD st):=hx
     rcases qW (getP (bits (Nat.succ n)) H') (.fail f 8806 0) (fun st pend _ _ _ _ _ _ _=>Bool.rec (.fail f 8806 0) (setK Option.none (bits (Nat.succ n)) H' fun H=>Tw pend (.fail f 8806 0) ⟨τ,H,n',.coll n::ds⟩) (LD st)) with h1|⟨st,pend,nt',env,ps',asg',bd',d,f',h1,h2⟩
     ·exact absurd (by rw [hx,h1];exact aO _ _ _) hf
     ·rw [h2,cu,brec] at hx
      split at hx
      ·rename_i hst
       refine ⟨st,pend,nt',envT env,ps',asg',bd',d,Cs h1,?_,?_⟩
       ·intro e;subst e;cases hst
       ·have e1:toAS Option.none ⟨τ,setP Option.none (bits (Nat.succ n)) H',n',.coll n::ds⟩={ toAS Option.none ⟨τ,H,n,ds⟩ with h:=upd (hpT H') (n+1) Option.none,n:=n',ds:=.coll n::ds }:=by simp only [toAS,wZ]
        cases pend with
        |none=>exact ⟨⟨τ,setP Option.none (bits (Nat.succ n)) H',n',.coll n::ds⟩,by rw [hx];rfl,e1.symm⟩
        |some c =>
         cases c with
         |ret=>exact ⟨rfl,NSem.ret ⟨⟨τ,setP Option.none (bits (Nat.succ n)) H',n',.coll n::ds⟩,by rw [hx];rfl,e1.symm⟩⟩
         |exit i=>exact ⟨rfl,NSem.exit ⟨⟨τ,setP Option.none (bits (Nat.succ n)) H',n',.coll n::ds⟩,by rw [hx];rfl,e1.symm⟩⟩
         |_=>exact absurd (by rw [hx];exact aO _ _ _) hf
      ·exact absurd (by rw [hx];exact aO _ _ _) hf
    |panic v =>
     obtain ⟨H',rfl,rfl⟩:=hq
     exact ⟨⟨τ,H',n',.coll n::ds⟩,by rw [hx];rfl,rfl⟩
theorem WM (hcall:uJ call):∀ c:Code,chkC hn fr.f c=true→mY fr c (exC hn fuel call fr c):=by
 intro c
 induction c with
 |skip=>intro _ s;exact .inr (NSem.skip ⟨s,rfl,rfl⟩)
 |region id ops draw =>
  cases draw with
  |false =>
   intro _ s
   by_cases hf:Fails (seqX call (hn.own fr.f id) fr id ops (aF ops.toList ops.toList) s)
   ·exact .inl hf
   ·exact .inr (NSem.region (Sz hcall (hn.own fr.f id) fr id ops ops.toList s _ hf fun _ _ h=>h))
  |true=>exact fun hc s=>QM hcall fr id ops hc s
 |seq a b iha ihb=>intro hc;simp only [chkC,Bool.and_eq_true] at hc;exact seq_ok (iha hc.1) (ihb hc.2)
 |cond c a b iha ihb=>intro hc;simp only [chkC,Bool.and_eq_true] at hc;exact Uj (iha hc.1) (ihb hc.2)
 |block id a ih=>intro hc;exact QZ (ih hc)
 |loop a ih=>intro hc;exact Tk (ih hc)
 |rangeFunc g ps asg bd _ _=>intro _;exact Ps hcall
 |exit id=>intro _ s;exact .inr (NSem.exit ⟨s,rfl,rfl⟩)
 |scope a _=>intro _ s;exact .inl (aO _ _ _)
 |label l=>intro _ s;exact .inr (NSem.label ⟨s,rfl,rfl⟩)
 |goto l=>intro _ s;exact .inl (aO _ _ _)
 |ret=>intro _ s;exact .inr (NSem.ret ⟨s,rfl,rfl⟩)
 |refuse w=>intro _ s;exact .inl (aO _ _ _)
end
def OM (hn:vP):Prop:=∀ g fn c,fnAt g=some (fn,c)→chkC hn g c=true
theorem dz {o x:Out} (h:Leaf x o) (hn:∀ a b,o≠.alt a b):o=x:=by
 cases o with
 |alt a b=>exact absurd rfl (hn a b)
 |_=>exact Eq.symm h
def ExOK (hn:vP) (ex:Fr→Code→St→Out):Prop:=∀ fr c,chkC hn fr.f c=true→mY fr c (ex fr c)
noncomputable def ol:List AV→Nat→Tr AV→Tr AV
 |[],_,τ=>τ
 |a::l,i,τ=>ol l (i+1) (setP (some a) (bits i) τ)
theorem yO:∀ (l:List AV) (i:Nat) (τ:Tr AV) (k:Tr AV→Out),AY l i τ k=k (ol l i τ)
 |[],i,τ,k=>rfl
 |a::l,i,τ,k=>by
  show (fV a fun a=>setK (some a) (bits i) τ fun τ=>AY l (Nat.succ i) τ k)=_
  rw [rG,cu,yO l]
  rfl
theorem AX:∀ (l:List AV) (i:Nat) (τ:Tr AV) (t:Nat),envT (ol l i τ) t=if t<i then envT τ t else (l[t - i]?).getD (envT τ t)
 |[],i,τ,t=>by simp [ol]
 |a::l,i,τ,t=>by
  rw [ol,AX l,xu]
  simp only [eupd]
  by_cases h1:t<i
  ·have h2:(t==i)=false:=by simpa using (by omega:t≠i)
   rw [if_pos (by omega),if_pos h1,h2];rfl
  ·rw [if_neg h1]
   by_cases h3:t=i
   ·subst h3
    rw [if_pos (by omega)]
    simp
   ·have h2:(t==i)=false:=by simpa using h3
    rw [if_neg (by omega),h2]
    rw [show t - i=(t - (i+1))+1 by omega,List.getElem?_cons_succ];rfl
theorem EQ (l:List AV):envT (ol l 0 .nil)=mW l:=by
 funext t
 rw [AX]
 have:envT (Tr.nil:Tr AV) t=.tuple []:=by
  show Option.rec (motive:=fun _=>AV) _ _ (getP (bits t) Tr.nil)=_
  rw [gB]
 rw [this,if_neg (by omega),Nat.sub_zero,mW,List.getD_eq_getElem?_getD]
noncomputable def zipT:List Nat→List AV→Tr AV→Tr AV
 |p::ps,a::l,τ=>zipT ps l (setP (some a) (bits p) τ)
 |_,_,τ=>τ
theorem KY:∀ (ps:List Nat) (l:List AV) (τ:Tr AV) (k:Tr AV→Out),zipK ps l τ k=k (zipT ps l τ)
 |[],l,τ,k=>by cases l <;> rfl
 |p::ps,[],τ,k=>rfl
 |p::ps,a::l,τ,k=>by
  show (fV a fun a=>setK (some a) (bits p) τ fun τ=>zipK ps l τ k)=_
  rw [rG,cu,KY ps l]
  rfl
theorem I7:∀ (ps:List Nat) (l:List AV) (τ:Tr AV),envT (zipT ps l τ)=qE (envT τ) ps l
 |[],l,τ=>by cases l <;> rfl
 |p::ps,[],τ=>rfl
 |p::ps,a::l,τ=>by rw [zipT,I7 ps l,xu];rfl
theorem SL (τ:Tr AV) (H:Tr XObj) (r:ResultVar) (err:Out) (k:AV→Out):res1 τ H r err k=match He Tryz.prog (envT τ) (hpT H) r with|some v=>k v|Option.none=>err:=by
 cases r with
 |tmp t=>exact rG _ _
 |cell a t =>
  show MX t (evT a τ) err H (fun v=>fV v k)=_
  rw [IA]
  simp only [rG]
  rfl
theorem F4 (err:Out) (τ:Tr AV) (H:Tr XObj):∀ (rs:List ResultVar) (k:List AV→Out),resX err τ H rs k=match jw Tryz.prog (envT τ) (hpT H) rs with|some vs=>k vs|Option.none=>err
 |[],k=>rfl
 |r::rs,k=>by
  show res1 τ H r err (fun v=>resX err τ H rs fun vs=>k (v::vs))=_
  rw [SL]
  simp only [jw]
  cases He Tryz.prog (envT τ) (hpT H) r with
  |none=>rfl
  |some v =>
   simp only
   rw [F4 err τ H rs]
   cases jw Tryz.prog (envT τ) (hpT H) rs <;> rfl
theorem PD (l:List AV) (k:AV→Out):SY l k=k (aJ l):=by
 cases l with
 |nil=>rfl
 |cons a l=>cases l <;> rfl
theorem yE {g:Nat} {fn:Func} {c:Code} (h:fnAt g=some (fn,c)):Tryz.prog.funcs[g]?=some fn∧fn.body=some c∧eH fn.ntmps c=true∧enters Tryz.prog g:=by
 unfold fnAt at h
 split at h
 ·rename_i fn' hf
  split at h
  ·rename_i c' hb
   cases hc : (eH fn'.ntmps c' && !(fn'.name == "runtime.NumGoroutine")) with
   |false=>rw [hc] at h;cases h
   |true =>
    rw [hc] at h
    simp only [cond_true,Option.some.injEq,Prod.mk.injEq] at h
    obtain ⟨rfl,rfl⟩:=h
    simp only [Bool.and_eq_true,Bool.not_eq_eq_eq_not,Bool.not_true] at hc
    have hf':Tryz.prog.funcs[g]?=some fn':=by simpa using hf
    exact ⟨hf',hb,hc.1,enters_of hf' hc.2 (by rw [hb];rfl)⟩
  ·cases h
 ·cases h
theorem EW {c:Code} {o:Oper} {rest:Code} (h:yV c=some (o,rest)):∃ id,c=.seq (.region id #[o] false) rest∧kX o=true:=by
 unfold yV at h
 split at h
 ·rename_i id ops rest'
  split at h
  ·rename_i o' ho
   cases hr:kX o' with
   |false=>rw [hr] at h;cases h
   |true =>
    rw [hr] at h
    simp only [cond_true,Option.some.injEq,Prod.mk.injEq] at h
    obtain ⟨rfl,rfl⟩:=h
    have:ops=#[o']:=by rw [← Array.toList_inj];simpa using ho
    subst this
    exact ⟨id,rfl,hr⟩
  ·cases h
 ·cases h
section
variable {hn:vP} {ex:Fr→Code→St→Out} (hall:OM hn) (hex:ExOK hn ex)
include hall hex
theorem LZ {err:Out} (he:Fails err) (g:Nat) (args:List AV) (H:Tr XObj) (n:Nat) (pv:Option AV) (k:Tr XObj→Nat→Out) :
  Fails (sI ex err g args H n pv k)∨(enters Tryz.prog g∧NDef Tryz.prog g args (hpT H) n pv fun h' n'=>∃ H',h'=hpT H'∧sI ex err g args H n pv k=k H' n'):=by
 have hx:sI ex err g args H n pv k=Option.rec (motive:=fun _=>Out) err (fun q=>Option.rec (motive:=fun _=>Out) err (fun oc=>Bool.rec err
  (AY args 0 .nil fun τ=>rPut oc.1.dst (pv.getD .nilI) τ fun τ=>RL err q.1.results.toList k (ex ⟨g,q.1.ntmps,Option.none⟩ oc.2 ⟨τ,H,n,[]⟩))
  (Nat.ble (lenN args) q.1.ntmps)) (yV q.2)) (fnAt g):=rfl
 generalize sI ex err g args H n pv k=out at hx ⊢
 rw [orec] at hx
 cases hfn:fnAt g with
 |none=>rw [hfn] at hx;exact .inl (hx ▸ he)
 |some q =>
  obtain ⟨fn,c⟩:=q
  obtain ⟨hf,hb,hok,hent⟩:=yE hfn
  have hchk:=hall _ _ _ hfn
  rw [hfn] at hx
  simp only at hx
  rw [orec] at hx
  cases hdc:yV c with
  |none=>rw [hdc] at hx;exact .inl (hx ▸ he)
  |some oc =>
   obtain ⟨o,rest⟩:=oc
   obtain ⟨id,rfl,hro⟩:=EW hdc
   rw [hdc] at hx
   simp only at hx
   rw [brec] at hx
   split at hx
   ·rename_i hlen
    rw [gP,nH] at hlen
    rw [yO,u7] at hx
    by_cases hf2:Fails out
    ·exact .inl hf2
    refine .inr ⟨hent,NDef.of_sem hf hb hro hok hlen ?_⟩
    have hna:∀ a b,ex ⟨g,fn.ntmps,Option.none⟩ rest ⟨putT o.dst (pv.getD .nilI) (ol args 0 .nil),H,n,[]⟩≠.alt a b:=fun a b h=>hf2 (by rw [hx,h];exact he)
    rcases hex ⟨g,fn.ntmps,Option.none⟩ rest (by simp only [chkC,Bool.and_eq_true] at hchk;exact hchk.2) ⟨putT o.dst (pv.getD .nilI) (ol args 0 .nil),H,n,[]⟩ with h|h
    ·obtain ⟨x,y,z,h⟩:=h
     have h:=dz h hna
     exact absurd (by rw [hx,h];exact aO _ _ _) hf2
    ·have e1:toAS Option.none ⟨putT o.dst (pv.getD .nilI) (ol args 0 .nil),H,n,[]⟩=⟨aPut (mW args) o.dst (pv.getD .nilI),hpT H,n,[],Option.none⟩:=by simp only [toAS,jV,EQ]
     have h:=h
     rw [e1] at h
     refine h.mono fun e s' hk=>?_
     have fin:∀ t:St,out=List.rec (motive:=fun _=>Out) (resX err t.τ t.H fn.results.toList fun _=>k t.H t.n) (fun _ _ _=>err) t.ds →
       t.ds=[]∧(∃ vs,jw Tryz.prog (envT t.τ) (hpT t.H) fn.results.toList=some vs)∧∃ H',hpT t.H=hpT H'∧out=k H' t.n:=by
      intro t ht
      obtain ⟨τ',H',n',ds'⟩:=t
      cases ds' with
      |cons d ds'=>exact absurd (by rw [ht];exact he) hf2
      |nil =>
       have ht:out=resX err τ' H' fn.results.toList fun _=>k H' n':=ht
       rw [F4] at ht
       cases hr:jw Tryz.prog (envT τ') (hpT H') fn.results.toList with
       |none=>rw [hr] at ht;exact absurd (by rw [ht];exact he) hf2
       |some vs=>rw [hr] at ht;exact ⟨rfl,⟨vs,rfl⟩,H',rfl,ht⟩
     cases e with
     |normal=>obtain ⟨t,ht,rfl⟩:=hk;have ht:=dz ht hna;exact fin t (by rw [hx,ht];rfl)
     |ret=>obtain ⟨t,ht,rfl⟩:=hk;have ht:=dz ht hna;exact fin t (by rw [hx,ht];rfl)
     |exit i=>obtain ⟨t,ht,rfl⟩:=hk;have ht:=dz ht hna;exact absurd (by rw [hx,ht];exact he) hf2
     |panic v=>obtain ⟨t,ht,rfl⟩:=hk;have ht:=dz ht hna;exact absurd (by rw [hx,ht];exact he) hf2
   ·exact .inl (hx ▸ he)
theorem M8 {err:Out} (he:Fails err) (fn:Func) (τ:Tr AV):∀ (ds:List ADef) (pv:Option AV) (H:Tr XObj) (n:Nat) (ds0:List ADef),
  Fails (kW ex err fn.results.toList τ ds pv H n)∨o6 Tryz.prog fn (IsV (kW ex err fn.results.toList τ ds pv H n)) ds pv ⟨envT τ,hpT H,n,ds0,Option.none⟩:=by
 intro ds
 induction ds with
 |nil =>
  intro pv H n ds0
  cases pv with
  |none =>
   have hx:kW ex err fn.results.toList τ [] Option.none H n=resX err τ H fn.results.toList fun vs=>SY vs fun v=>.val v H n:=rfl
   rw [hx,F4]
   cases hr:jw Tryz.prog (envT τ) (hpT H) fn.results.toList with
   |none=>exact .inl he
   |some vs =>
    refine .inr ⟨vs,hr,EndV.of ?_⟩
    simp only [PD]
    exact ⟨H,rfl,rfl⟩
  |some v=>exact .inr (EndV.of ⟨H,rfl,rfl⟩)
 |cons d ds ih =>
  intro pv H n ds0
  cases d with
  |coll k =>
   have hx:kW ex err fn.results.toList τ (.coll k::ds) pv H n=Bool.rec err (setK Option.none (bits k) H fun H=>kW ex err fn.results.toList τ ds pv H n) (Nk (getP (bits k) H)):=rfl
   rw [hx,brec,cu]
   split
   ·rename_i hd
    rcases ih pv (setP Option.none (bits k) H) n ds0 with h|h
    ·exact .inl h
    ·refine .inr ⟨?_,?_⟩
     ·unfold Nk at hd
      split at hd
      ·rename_i hg;show hpT H k=_;unfold hpT;rw [hg];rfl
      ·cases hd
     ·rw [wZ] at h;exact h
   ·exact .inl he
  |fn f args =>
   have hx:kW ex err fn.results.toList τ (.fn f args::ds) pv H n=defF f err fun g a b=>sI ex err g (a++args++b) H n pv fun H n=>kW ex err fn.results.toList τ ds Option.none H n:=rfl
   rw [hx]
   cases f with
   |func fv a b =>
    cases fv with
    |func g =>
     show Fails (sI ex err g (a++args++b) H n pv fun H n=>kW ex err fn.results.toList τ ds Option.none H n)∨o6 Tryz.prog fn (IsV (sI ex err g (a++args++b) H n pv fun H n=>kW ex err fn.results.toList τ ds Option.none H n)) _ pv _
     rcases LZ hall hex he g (a++args++b) H n pv (fun H n=>kW ex err fn.results.toList τ ds Option.none H n) with h|⟨h1,h2⟩
     ·exact .inl h
     ·by_cases hf:Fails (sI ex err g (a++args++b) H n pv fun H n=>kW ex err fn.results.toList τ ds Option.none H n)
      ·exact .inl hf
      refine .inr ⟨g,a,b,rfl,h1,?_⟩
      intro F m G W vargs u hF hr sim hn rl rm
      refine (h2 F m G W vargs u hF hr sim hn rl rm).mono fun e u' W' hq=>?_
      obtain ⟨rv,h',G',e1,⟨H',rfl,hk⟩,rest⟩:=hq
      refine ⟨rv,_,G',e1,?_,rest⟩
      rcases ih Option.none H' G'.n ds0 with h3|h3
      ·exact absurd (hk ▸ h3) hf
      ·rw [hk];exact h3
    |_=>exact .inl he
   |_=>exact .inl he
theorem QR (g:Nat) (args:List AV) (H:Tr XObj) (n:Nat):Fails (N8 ex g args H n)∨gT Tryz.prog g args (hpT H) n (IsV (N8 ex g args H n)):=by
 have hx:N8 ex g args H n=Option.rec (motive:=fun _=>Out) (.fail g 8811 0) (fun q=>Bool.rec (.fail g 8812 0)
  (AY args 0 .nil fun τ=>Oo ex (.fail g 8813 0) q.1.results.toList (ex ⟨g,q.1.ntmps,Option.none⟩ q.2 ⟨τ,H,n,[]⟩))
  (Nat.ble (lenN args) q.1.ntmps)) (fnAt g):=rfl
 generalize N8 ex g args H n=out at hx ⊢
 rw [orec] at hx
 cases hfn:fnAt g with
 |none=>rw [hfn] at hx;exact .inl (hx ▸ aO _ _ _)
 |some q =>
  obtain ⟨fn,c⟩:=q
  obtain ⟨hf,hb,hok,hent⟩:=yE hfn
  have hchk:=hall _ _ _ hfn
  rw [hfn] at hx
  simp only at hx
  rw [brec] at hx
  split at hx
  ·rename_i hlen
   rw [gP,nH] at hlen
   rw [yO] at hx
   by_cases hf2:Fails out
   ·exact .inl hf2
   have he:Fails (.fail g 8813 0):=aO _ _ _
   refine .inr (gT.of_semM hf hb hok hlen hent ?_)
   have hna:∀ a b,ex ⟨g,fn.ntmps,Option.none⟩ c ⟨ol args 0 .nil,H,n,[]⟩≠.alt a b:=fun a b h=>hf2 (by rw [hx,h];exact he)
   rcases hex ⟨g,fn.ntmps,Option.none⟩ c hchk ⟨ol args 0 .nil,H,n,[]⟩ with h|h
   ·obtain ⟨x,y,z,h⟩:=h
    have h:=dz h hna
    exact absurd (by rw [hx,h];exact aO _ _ _) hf2
   ·have e1:toAS Option.none ⟨ol args 0 .nil,H,n,[]⟩=⟨mW args,hpT H,n,[],Option.none⟩:=by simp only [toAS,EQ]
    have h:=h
    rw [e1] at h
    refine h.mono fun e s' hk=>?_
    have fin:∀ (t:St) (pv:Option AV),out=kW ex (.fail g 8813 0) fn.results.toList t.τ t.ds pv t.H t.n→o6 Tryz.prog fn (IsV out) t.ds pv (toAS Option.none t):=by
     intro t pv ht
     rcases M8 hall hex he fn t.τ t.ds pv t.H t.n t.ds with h3|h3
     ·exact absurd (ht ▸ h3) hf2
     ·rw [ht];exact h3
    cases e with
    |normal=>obtain ⟨t,ht,rfl⟩:=hk;have ht:=dz ht hna;exact fin t Option.none (by rw [hx,ht];rfl)
    |ret=>obtain ⟨t,ht,rfl⟩:=hk;have ht:=dz ht hna;exact fin t Option.none (by rw [hx,ht];rfl)
    |exit i=>obtain ⟨t,ht,rfl⟩:=hk;have ht:=dz ht hna;exact absurd (by rw [hx,ht];exact he) hf2
    |panic v=>obtain ⟨t,ht,rfl⟩:=hk;have ht:=dz ht hna;exact fin t (some v) (by rw [hx,ht];rfl)
  ·exact .inl (hx ▸ aO _ _ _)
omit hall hex in
theorem Af (l:Nat) (st st':LoopState) (hst:st=.ready∨st=.busy) (pend':Option Code) (err:Out) (H:Tr XObj) (k:Tr XObj→Out) :
  kP l st st' pend' err H k=err∨∃ nt env ps asg bd d H',hpT H l=some (.loop st Option.none nt env ps asg bd d)∧hpT H'=upd (hpT H) l (some (.loop st' pend' nt env ps asg bd d))∧kP l st st' pend' err H k=k H':=by
 unfold kP
 rcases qW (getP (bits l) H) err (fun st0 pend nt env ps asg bd d f=>Option.rec (motive:=fun _=>Out)
  (Bool.rec err (setK (some (.loop st' pend' nt env ps asg bd d f)) (bits l) H k) (Rp st st0)) (fun _=>err) pend) with h|⟨st0,pend,nt,env,ps,asg,bd,d,f,h1,h2⟩
 ·exact .inl h
 ·rw [h2]
  cases pend with
  |some c=>exact .inl rfl
  |none =>
   simp only [cu]
   by_cases e:st0=st
   ·subst e
    refine .inr ⟨nt,envT env,ps,asg,bd,d,_,Cs h1,gJ H l (.loop st' pend' nt env ps asg bd d f),?_⟩
    rcases hst with rfl|rfl <;> rfl
   ·refine .inl ?_
    rcases hst with rfl|rfl <;> cases st0 <;> first|rfl|exact absurd rfl e
omit hall in
theorem L6 (l:Nat) (args:List AV) (H:Tr XObj) (n:Nat):Fails (Ai hn ex l args H n)∨oo Tryz.prog l args (hpT H) n (IsV (Ai hn ex l args H n)):=by
 by_cases hf:Fails (Ai hn ex l args H n)
 ·exact .inl hf
 refine .inr ?_
 have hx:Ai hn ex l args H n=yl (getP (bits l) H) (.fail l 8814 0) fun st pend nt env ps asg bd d f=>Option.rec (motive:=fun _=>Out)
  (match st with
  |.ready=>Bool.rec (.fail f 8815 0) (zipK ps args env fun τ=>Out.rec (motive:=fun _=>Out) .fail
    (fun s=>kP l .ready .busy Option.none (.fail f 8816 0) s.H fun H=>roundEnd l (.fail f 8817 0) (ex ⟨f,nt,some l⟩ bd ⟨s.τ,H,s.n,s.ds⟩))
    (fun _ _=>.fail f 8818 0) (fun _=>.fail f 8818 1) (fun _ _=>.fail f 8818 2) (fun _ _ _=>.fail f 8818 3) (fun _ _ _=>.fail f 8818 4) (fun _ _ _ _=>.fail f 8818 5)
    (ex ⟨f,nt,some l⟩ asg ⟨τ,H,n,[]⟩)) (Nat.beq (lenN args) (lenN ps)&&(chkC hn f asg&&chkC hn f bd))
  |_=>.fail f 8819 0) (fun _=>.fail f 8820 0) pend:=rfl
 generalize Ai hn ex l args H n=out at hx hf ⊢
 rcases qW (getP (bits l) H) (.fail l 8814 0) (fun st pend nt env ps asg bd d f=>Option.rec (motive:=fun _=>Out)
  (match st with
  |.ready=>Bool.rec (.fail f 8815 0) (zipK ps args env fun τ=>Out.rec (motive:=fun _=>Out) .fail
    (fun s=>kP l .ready .busy Option.none (.fail f 8816 0) s.H fun H=>roundEnd l (.fail f 8817 0) (ex ⟨f,nt,some l⟩ bd ⟨s.τ,H,s.n,s.ds⟩))
    (fun _ _=>.fail f 8818 0) (fun _=>.fail f 8818 1) (fun _ _=>.fail f 8818 2) (fun _ _ _=>.fail f 8818 3) (fun _ _ _=>.fail f 8818 4) (fun _ _ _ _=>.fail f 8818 5)
    (ex ⟨f,nt,some l⟩ asg ⟨τ,H,n,[]⟩)) (Nat.beq (lenN args) (lenN ps)&&(chkC hn f asg&&chkC hn f bd))
  |_=>.fail f 8819 0) (fun _=>.fail f 8820 0) pend) with h|⟨st,pend,nt,env,ps,asg,bd,d,f,h1,h2⟩
 ·exact absurd (by rw [hx,h];exact aO _ _ _) hf
 rw [h2] at hx
 cases pend with
 |some c=>exact absurd (by rw [hx];exact aO _ _ _) hf
 |none =>
  cases st with
  |ready =>
   simp only at hx
   rw [brec] at hx
   split at hx
   ·rename_i hlen
    simp only [Bool.and_eq_true,cK,nH] at hlen
    obtain ⟨hlen,hca,hcb⟩:=hlen
    rw [KY] at hx
    refine oo.of_sem (Cs h1) hlen ?_
    have hna:∀ a b,ex ⟨f,nt,some l⟩ asg ⟨zipT ps args env,H,n,[]⟩≠.alt a b:=fun a b h=>hf (by rw [hx,h];exact aO _ _ _)
    rcases hex ⟨f,nt,some l⟩ asg hca ⟨zipT ps args env,H,n,[]⟩ with h|h
    ·obtain ⟨x,y,z,h⟩:=h
     have h:=dz h hna
     exact absurd (by rw [hx,h];exact aO _ _ _) hf
    ·have e1:toAS (some l) ⟨zipT ps args env,H,n,[]⟩=⟨qE (envT env) ps args,hpT H,n,[],some l⟩:=by simp only [toAS,I7]
     have h:=h
     rw [e1] at h
     refine h.mono fun e s' hk=>?_
     cases e with
     |normal =>
      obtain ⟨t,ht,rfl⟩:=hk
      have ht:=dz ht hna
      have hx:out=kP l .ready .busy Option.none (.fail f 8816 0) t.H fun H=>roundEnd l (.fail f 8817 0) (ex ⟨f,nt,some l⟩ bd ⟨t.τ,H,t.n,t.ds⟩):=by rw [hx,ht]
      rcases Af l .ready .busy (.inl rfl) Option.none (.fail f 8816 0) t.H (fun H=>roundEnd l (.fail f 8817 0) (ex ⟨f,nt,some l⟩ bd ⟨t.τ,H,t.n,t.ds⟩)) with h3|⟨nt',env',ps',asg',bd',d',H',h3,h4,h5⟩
      ·exact absurd (by rw [hx,h3];exact aO _ _ _) hf
      ·rw [h5] at hx
       refine ⟨nt',env',ps',asg',bd',d',h3,?_⟩
       have e2:toAS (some l) ⟨t.τ,H',t.n,t.ds⟩={ toAS (some l) t with h:=upd (toAS (some l) t).h l (some (.loop .busy Option.none nt' env' ps' asg' bd' d')) }:=by simp only [toAS,h4]
       have hna2:∀ a b,ex ⟨f,nt,some l⟩ bd ⟨t.τ,H',t.n,t.ds⟩≠.alt a b:=fun a b h=>hf (by rw [hx,h];exact aO _ _ _)
       rcases hex ⟨f,nt,some l⟩ bd hcb ⟨t.τ,H',t.n,t.ds⟩ with h6|h6
       ·obtain ⟨x,y,z,h6⟩:=h6
        have h6:=dz h6 hna2
        exact absurd (by rw [hx,h6];exact aO _ _ _) hf
       ·have h6:=h6
        rw [e2] at h6
        refine h6.mono fun e s2 hk=>?_
        have fin:∀ (t2:St) (st':LoopState) (pend':Option Code) (b:Bool),out=(kP l .busy st' pend' (.fail f 8817 0) t2.H fun H=>.val (.bool b) H t2.n) →
          ∃ nt env ps asg bd d,hpT t2.H l=some (.loop .busy Option.none nt env ps asg bd d)∧IsV out (.ret (.bool b)) (upd (hpT t2.H) l (some (.loop st' pend' nt env ps asg bd d))) t2.n:=by
         intro t2 st' pend' b ht2
         rcases Af l .busy st' (.inr rfl) pend' (.fail f 8817 0) t2.H (fun H=>.val (.bool b) H t2.n) with h7|⟨nt',env',ps',asg',bd',d',H',h7,h8,h9⟩
         ·exact absurd (by rw [ht2,h7];exact aO _ _ _) hf
         ·exact ⟨nt',env',ps',asg',bd',d',h7,H',by rw [ht2,h9],h8.symm⟩
        cases e with
        |normal=>obtain ⟨t2,ht2,rfl⟩:=hk;have ht2:=dz ht2 hna2;exact fin t2 .ready Option.none true (by rw [hx,ht2];rfl)
        |ret=>obtain ⟨t2,ht2,rfl⟩:=hk;have ht2:=dz ht2 hna2;exact fin t2 .done (some .ret) false (by rw [hx,ht2];rfl)
        |exit i=>obtain ⟨t2,ht2,rfl⟩:=hk;have ht2:=dz ht2 hna2;exact fin t2 .done (some (.exit i)) false (by rw [hx,ht2];rfl)
        |panic v=>obtain ⟨t2,ht2,rfl⟩:=hk;have ht2:=dz ht2 hna2;exact absurd (by rw [hx,ht2];exact aO _ _ _) hf
     |exit i=>obtain ⟨t,ht,rfl⟩:=hk;have ht:=dz ht hna;exact absurd (by rw [hx,ht];exact aO _ _ _) hf
     |ret=>obtain ⟨t,ht,rfl⟩:=hk;have ht:=dz ht hna;exact absurd (by rw [hx,ht];exact aO _ _ _) hf
     |panic v=>obtain ⟨t,ht,rfl⟩:=hk;have ht:=dz ht hna;exact absurd (by rw [hx,ht];exact aO _ _ _) hf
   ·exact absurd (by rw [hx];exact aO _ _ _) hf
  |_=>exact absurd (by rw [hx];exact aO _ _ _) hf
theorem QQ:uJ (Uq hn ex):=by
 intro f args H n
 cases f with
 |func fn a b =>
  cases fn with
  |func g=>exact QR hall hex g (a++args++b) H n
  |_=>exact .inl (aO _ _ _)
 |yield l=>exact L6 hex l args H n
 |_=>exact .inl (aO _ _ _)
end
theorem Jg {hn:vP} (hall:OM hn) (fuel:Nat):∀ depth,uJ (N9 hn fuel depth)
 |0=>fun _ _ _ _=>.inl (aO _ _ _)
 |d+1=>by
  have:N9 hn fuel (d+1)=fun f=>Uq hn (exC hn fuel (N9 hn fuel d)) f:=rfl
  rw [this]
  exact QQ hall fun fr c hc=>WM (Jg hall fuel d) c hc
end Go.Proofs.YthkjmiejaoomcaaGreat.Am
