/-
  The abstract machine: values in which a slice that nobody writes is a plain list, resolved code, and an interpreter of it. Definitions alone; conditions: none.
-/
import Derived.Calls
import Derived.Orders
set_option linter.unusedVariables false
namespace Go.Abs
inductive AVal where
 | junk
 | bool (b:Bool)
 | int (k:IntKind) (n:Int)
 | str (s:ByteArray)
 | list (xs:List AVal) (own:Option (Option Nat))
 | ref (id off len:Nat)
 | vec (id n:Nat)
 | ptr (a:Option (Nat × Nat))
 | vptr (cells:List AVal) (off:Nat)
 | map (r:Option Nat)
 | func (f:Nat) (first captured:List AVal)
 | nilFunc
 | iface (t:Nat) (v:AVal)
 | nilIface
 | agg (cells:List AVal)
 | tuple (vs:List AVal)
 deriving Inhabited
inductive AObj where
 | gone
 | box (cells:List AVal)
 | map (es:List (AVal × AVal))
 | tail (n sz:Nat)
 | vec (cells:List AVal) (sz:Nat)
 deriving Inhabited
abbrev Heap:=List AObj
abbrev Tmps:=Nat→AVal
inductive ARes where
 | val (v:AVal)
 | panic (v:AVal)
inductive AExit where
 | normal
 | exit (id:Nat)
 | ret
 | panic (v:AVal)
structure St where
 tm:Tmps
 h:Heap
abbrev CallT:=Nat→List AVal→Heap→Option (ARes × Heap)
inductive Opd where
 | tmp (t:Nat)
 | val (v:AVal)
 deriving Inhabited
inductive EqK where
 | bool | pointer | map | func | none
 deriving DecidableEq,Inhabited
inductive LenK where
 | str | slice | map
 deriving DecidableEq,Inhabited
inductive KeyK where
 | int | string | bool
 deriving DecidableEq,Inhabited
inductive AOp where
 | move (x:Opd)
 | pick (c a b:Opd)
 | alloc (cells:List AVal)
 | box (x:Opd)
 | build (zero:List AVal) (parts:List (Nat × Nat × Opd))
 | buildSlice (sz:Nat) (parts:List Opd)
 | load1 (a:Opd)
 | loadN (n:Nat) (a:Opd)
 | store (n:Nat) (a x:Opd)
 | field (off:Nat) (a:Opd)
 | part1 (off:Nat) (x:Opd)
 | partN (off n:Nat) (x:Opd)
 | indexList (sz:Nat) (x i:Opd)
 | indexArr (len sz:Nat) (x i:Opd)
 | indexStr (x i:Opd)
 | slice (sz:Nat) (x:Opd) (lo hi mx:Option Opd)
 | sliceStr (x:Opd) (lo hi:Option Opd)
 | bin (op:BinOp) (k:EqK) (x y:Opd)
 | un (op:UnOp) (x:Opd)
 | makeFunc (f:Nat) (first cap:List Opd)
 | makeMap
 | makeSlice (z:AVal) (l c:Opd)
 | lookup (k:KeyK) (zero:AVal) (ok:Bool) (m x:Opd)
 | mapUpdate (k:KeyK) (m x v:Opd)
 | extract (i:Nat) (x:Opd)
 | len (k:LenK) (x:Opd)
 | append (sz bytes:Nat) (x y:Opd)
 | minMax (max:Bool) (xs:List Opd)
 | call (f:Opd) (args:List Opd)
 | pcall (f:Nat) (args:List Opd)
 | pcallV (f:Opd) (args:List Opd)
 | hcall (f:Opd) (args:List Opd)
 | vcall (f:Nat) (args:List Opd)
 | appendV (sz bytes:Nat) (x y:Opd)
 | nilCheck (x:Opd)
 | conv (k:IntKind) (x:Opd)
 | convS (x:Opd)
 | makeIface (t:Nat) (x:Opd)
 | stuck
 deriving Inhabited
structure Step where
 dst:Option Nat
 guard:Option (Option Nat × Bool)
 op:AOp
 deriving Inhabited
structure RangeK where
 pre:List Step
 m:Opd
 it:Nat
 dn:Nat
 r1:List Step
 c:Opd
 id:Nat
 id2:Nat
 de:Option Nat
 r2:List Step
 str:Bool
 kr:List Nat
 keep:List Nat
 deriving Inhabited
inductive ACode where
 | skip
 | ops (l:List Step)
 | draw (l:List Step) (checks:List (Nat × Nat × Nat))
 | kops (l:List Step)
 | view (c:ACode)
 | mdraw (keep:List Nat) (l:List Step) (needs:List (List Nat))
 | seq (a b:ACode)
 | cond (c:Opd) (thn els:ACode)
 | block (id:Nat) (body:ACode)
 | loop (body:ACode)
 | gloop (keep:List Nat) (body:ACode)
 | frame (keep:List Nat) (body:ACode)
 | freeze (t:Nat) (body:ACode)
 | range (k:RangeK) (b after:ACode)
 | exit (id:Nat)
 | ret
 | stuck
 deriving Inhabited
inductive ARVar where
 | tmp (t:Nat)
 | cell1 (a:Nat)
 | cellN (n a:Nat)
 | bad
 deriving Inhabited
structure AFn where
 results:List ARVar
 body:ACode
 deriving Inhabited
def acells:AVal→List AVal
 | .agg cs=>cs
 | v=>[v]
def leaf:AVal→Bool
 | .agg _ | .tuple _ | .junk=>false
 | _=>true
def qcX:AVal→Bool
 | .junk=>false
 | _=>true
def wipeCell:AVal→AVal
 | .list xs _=>.list xs none
 | v=>v
def wipe:AVal→AVal
 | .agg cs=>.agg (cs.map wipeCell)
 | v=>wipeCell v
def wipeR:AVal→AVal
 | .tuple cs=>.tuple (cs.map wipe)
 | v=>wipe v
mutual
def qbd:AVal→Bool
 | .list xs own=>qaZ xs && (match own with | some (some _)=>false | _=>true)
 | .ref .. => false
 | .vec .. => false
 | .ptr a=>a.isNone
 | .vptr cs _=>qaZ cs
 | .map r=>r.isNone
 | .func _ a b=>qaZ a && qaZ b
 | .iface _ v=>qbd v
 | .agg cs=>qaZ cs
 | .tuple vs=>qaZ vs
 | _=>true
def qaZ:List AVal→Bool
 | []=>true
 | v::vs=>qbd v && qaZ vs
end
def upd (tm:Tmps) (d:Option Nat) (v:AVal):Tmps :=
 match d with
 | none=>tm
 | some d=>fun i=>if i=d then v else tm i
def opd (tm:Tmps):Opd→AVal
 | .tmp t=>tm t
 | .val v=>v
def qaR (cs:List AVal) (off:Nat) (vs:List AVal):List AVal:=cs.take off++vs++cs.drop (off+vs.length)
def qbE (h:Heap) (a:AVal) (n:Nat):Option (List AVal) :=
 match a with
 | .ptr (some (id,off)) =>
   match h[id]? with
   | some (.box cs)=>if off+n≤cs.length then some ((cs.drop off).take n) else none
   | some (.vec cs _)=>if off+n≤cs.length then some ((cs.drop off).take n) else none
   | _=>none
 | .vptr cs off=>if off+n≤cs.length then some ((cs.drop off).take n) else none
 | _=>none
def qay (h:Heap) (a:AVal):Option AVal :=
 match a with
 | .ptr (some (id,off))=>(match h[id]? with | some (.box cs)=>cs[off]? | some (.vec cs _)=>cs[off]? | _=>none)
 | .vptr cs off=>cs[off]?
 | _=>none
def qbr (h:Heap) (n:Nat) (a v:AVal):Option Heap :=
 match a with
 | .ptr (some (id,off)) =>
   match h[id]? with
   | some (.box cs) =>
     if (acells v).length=n∧off+n≤cs.length∧(acells v).all leaf=true then some (h.set id (.box (qaR cs off (acells v)))) else none
   | some (.vec cs sz) =>
     if (acells v).length=n∧off+n≤cs.length∧(acells v).all leaf=true then some (h.set id (.vec (qaR cs off (acells v)) sz)) else none
   | _=>none
 | _=>none
def qcK (cells:List AVal):List (Nat × Nat × AVal)→Option (List AVal)
 | []=>some cells
 | (off,size,v) :: rest =>
   if qcX v=true∧(acells v).length=size∧off+size≤cells.length then qcK (qaR cells off (acells v)) rest else none
def qaE (off:Nat) (x:AVal):Option AVal :=
 match x with
 | .ptr (some (id,o))=>some (.ptr (some (id,o+off)))
 | .vptr cs o=>some (.vptr cs (o+off))
 | _=>none
def qpv (off:Nat) (x:AVal):Option AVal :=
 match x with
 | .agg cs=>cs[off]?
 | _=>none
def qrc (off n:Nat) (x:AVal):Option AVal :=
 match x with
 | .agg cs=>if off+n≤cs.length then some (.agg ((cs.drop off).take n)) else none
 | _=>none
def qan (sz:Nat) (x ix:AVal):Option AVal :=
 match x,ix with
 | .list xs _,.int _ i =>
   if 0≤i then
    match xs[i.toNat]? with
    | some v=>if (acells v).length=sz then some (.vptr (acells v) 0) else none
    | none=>none
   else none
 | .ref id off len,.int _ i=>if 0≤i∧i<len∧sz=1 then some (.ptr (some (id,off+i.toNat))) else none
 | .vec id n,.int _ i=>if 0≤i∧i<n then some (.ptr (some (id,i.toNat*sz))) else none
 | _,_=>none
def qhP (len sz:Nat) (x ix:AVal):Option AVal :=
 match x,ix with
 | .vptr cs off,.int _ i=>if 0≤i∧i<len then some (.vptr cs (off+i.toNat*sz)) else none
 | .ptr (some (id,off)),.int _ i=>if 0≤i∧i<len then some (.ptr (some (id,off+i.toNat*sz))) else none
 | _,_=>none
def qj3 (x ix:AVal):Option AVal :=
 match x,ix with
 | .str s,.int _ i=>if 0≤i then (s[i.toNat]?).map fun b=>.int .u8 b.toNat else none
 | _,_=>none
def qeI (d:Nat):Option AVal→Option Int
 | none=>some d
 | some (.int _ n)=>some n
 | _=>none
def qj4 (x:AVal) (lo hi:Option AVal):Option AVal :=
 match x with
 | .str s =>
   match qeI 0 lo,qeI s.size hi with
   | some l,some h=>if 0≤l∧l≤h∧h≤s.size then some (.str (s.extract l.toNat h.toNat)) else none
   | _,_=>none
 | _=>none
def qeA (sz:Nat) (x:AVal) (lo hi mx:Option AVal):Option AVal :=
 match x with
 | .list xs own =>
   match qeI 0 lo,qeI xs.length hi with
   | some l,some h =>
     if 0≤l∧l≤h∧h≤xs.length∧(xs.all fun v=>(acells v).length=sz)=true then
      match mx with
      | none=>some (.list ((xs.take h.toNat).drop l.toNat) none)
      | some (.int _ m)=>if hi.isSome=true∧h≤m∧m≤xs.length then some (.list ((xs.take h.toNat).drop l.toNat) (if m=h then some none else none)) else none
      | _=>none
     else none
   | _,_=>none
 | .ref id off len =>
   match qeI 0 lo,qeI len hi,mx with
   | some l,some h,none=>if 0≤l∧l≤h∧h≤len∧sz=1 then (if l=h then some (.list [] none) else some (.ref id (off+l.toNat) (h-l).toNat)) else none
   | _,_,_=>none
 | _=>none
def qdC:AVal→AVal→Option Bool
 | .int k a,.int k' b=>if k=k' then some (a==b) else none
 | .str a,.str b=>some (decide (a=b))
 | .bool a,.bool b=>some (a==b)
 | _,_=>none
def qbX (k:AVal):List (AVal × AVal)→Nat→Option (Option (Nat × AVal))
 | [],_=>some none
 | e :: es,i =>
   match qdC k e.1 with
   | some true=>some (some (i,e.2))
   | some false=>qbX k es (i+1)
   | none=>none
def qxf:AVal→AVal→Bool
 | .int _ a,.int _ b=>decide (a<b)
 | .str a,.str b=>Op.bytesLess a.toList b.toList
 | .bool a,.bool b => !a && b
 | _,_=>false
def qwU (k v:AVal):List (AVal × AVal)→List (AVal × AVal)
 | []=>[(k,v)]
 | e::es=>if qxf k e.1=true then (k,v)::e::es else e::qwU k v es
def qwK (k v:AVal) (es:List (AVal × AVal)):List (AVal × AVal):=es.map fun e=>if qdC k e.1=some true then (k,v) else e
def qdD:KeyK→AVal→Bool
 | .int,.int _ _ | .string,.str _ | .bool,.bool _=>true
 | _,_=>false
def qnX (h:Heap):AVal→Option (List (AVal × AVal))
 | .map none=>some []
 | .map (some r)=>(match h[r]? with | some (.map es)=>some es | _=>none)
 | _=>none
def qiF (h:Heap) (kk:KeyK) (zero:AVal) (ok:Bool) (m k:AVal):Option AVal :=
 if qdD kk k=true then
  match qnX h m with
  | some es =>
    match qbX k es 0 with
    | some (some (_,v))=>some (if ok then .tuple [v,.bool true] else v)
    | some none=>some (if ok then .tuple [zero,.bool false] else zero)
    | none=>none
  | none=>none
 else none
def qeN (h:Heap) (kk:KeyK) (m k v:AVal):Option Heap :=
 match m with
 | .map (some r) =>
   match h[r]? with
   | some (.map es) =>
     if qdD kk k=true then
      match qbX k es 0 with
      | some (some (_,_))=>some (h.set r (.map (qwK k (wipe v) es)))
      | some none=>some (h.set r (.map (qwU k (wipe v) es)))
      | none=>none
     else none
   | _=>none
 | _=>none
def qgB:Nat:=2 ^ 30
def qcg (h:Heap) (sz bytes:Nat) (x y:AVal):Option (AVal × Heap) :=
 match x,y with
 | .list xs own,.list ys _ =>
   if ys=[] then some (x,h)
   else if (xs.all fun v=>(acells v).length=sz)=true∧(ys.all fun v=>(acells v).length=sz)=true∧xs.length+ys.length≤qgB then
    match own with
    | some none=>some (.list (xs++ys) (some (some h.length)),h++[.tail (xs.length+ys.length) sz])
    | some (some id) =>
      (match h[id]? with
      | some (.tail n sz')=>if n=xs.length∧sz'=sz then some (.list (xs++ys) (some (some id)),h.set id (.tail (xs.length+ys.length) sz)) else none
      | _=>none)
    | none=>none
   else none
 | .vec id n,.list ys _ =>
   if ys=[] then some (.vec id n,h)
   else match h[id]? with
    | some (.vec cs sz') =>
      if sz'=sz∧cs.length=n*sz∧(ys.all fun v=>(acells v).length=sz)=true∧n+ys.length≤qgB then
       some (.vec h.length (n+ys.length),h.set id .gone++[.vec (cs++ys.flatMap acells) sz])
      else none
    | _=>none
 | _,_=>none
def qfF (h:Heap) (sz:Nat) (x y:AVal):Option (AVal × Heap) :=
 match x,y with
 | .list [] (some none),.list ys _ =>
   if ys=[] then some (.list [] (some none),h)
   else if (ys.all fun v=>(acells v).length=sz)=true∧ys.length≤qgB then some (.vec h.length ys.length,h++[.vec (ys.flatMap acells) sz])
   else none
 | x,y=>qcg h sz 0 x y
def qcb (h:Heap) (k:LenK) (x:AVal):Option AVal :=
 match k,x with
 | .str,.str s=>some (.int .i64 s.size)
 | .slice,.list xs _=>some (.int .i64 xs.length)
 | .slice,.ref _ _ n=>some (.int .i64 n)
 | .slice,.vec _ n=>some (.int .i64 n)
 | .map,.map none=>some (.int .i64 0)
 | .map,.map (some r)=>(match h[r]? with | some (.map es)=>some (.int .i64 es.length) | _=>none)
 | _,_=>none
def qa8 (op:BinOp) (k:IntKind) (x y:Int):Option AVal :=
 match op with
 | .add=>some (.int k (k.wrap (x+y)))
 | .sub=>some (.int k (k.wrap (x-y)))
 | .mul=>some (.int k (k.wrap (x*y)))
 | .quo=>if y=0 then none else some (.int k (k.wrap (x.tdiv y)))
 | .rem=>if y=0 then none else some (.int k (x.tmod y))
 | .and=>some (.int k (k.wrap ((BitVec.ofInt k.bits x &&& BitVec.ofInt k.bits y).toNat)))
 | .or=>some (.int k (k.wrap ((BitVec.ofInt k.bits x ||| BitVec.ofInt k.bits y).toNat)))
 | .xor=>some (.int k (k.wrap ((BitVec.ofInt k.bits x ^^^ BitVec.ofInt k.bits y).toNat)))
 | .andNot=>some (.int k (k.wrap ((BitVec.ofInt k.bits x &&& ~~~BitVec.ofInt k.bits y).toNat)))
 | .eql=>some (.bool (x==y))
 | .neq=>some (.bool (x != y))
 | .lss=>some (.bool (x<y))
 | .leq=>some (.bool (x≤y))
 | .gtr=>some (.bool (x > y))
 | .geq=>some (.bool (x≥y))
 | _=>none
def qxS (op:BinOp) (x y:ByteArray):Option AVal :=
 match op with
 | .add=>if x.size+y.size≤2 ^ 60 then some (.str (x++y)) else none
 | .eql=>some (.bool (decide (x=y)))
 | .neq=>some (.bool !(decide (x=y)))
 | .lss=>some (.bool (Op.bytesLess x.toList y.toList))
 | .leq=>some (.bool (Op.bytesLess x.toList y.toList || decide (x=y)))
 | .gtr=>some (.bool !(Op.bytesLess x.toList y.toList || decide (x=y)))
 | .geq=>some (.bool !(Op.bytesLess x.toList y.toList))
 | _=>none
def aEq (k:EqK) (x y:AVal):Option Bool :=
 match k,x,y with
 | .bool,.bool a,.bool b=>some (a==b)
 | .pointer,.ptr none,.ptr b=>some b.isNone
 | .pointer,.ptr (some _),.ptr none=>some false
 | .pointer,.ptr none,.vptr _ _=>some false
 | .pointer,.vptr _ _,.ptr none=>some false
 | .map,.map none,.map b=>some b.isNone
 | .map,.map (some _),.map none=>some false
 | .func,.nilFunc,.nilFunc=>some true
 | .func,.nilFunc,.func _ _ _=>some false
 | .func,.func _ _ _,.nilFunc=>some false
 | _,_,_=>none
def qrd (op:BinOp) (k:IntKind) (a b:Int):Option AVal :=
 if b<0 then none else
 match op with
 | .shl=>some (.int k (k.wrap (a*2 ^ (min b.toNat k.bits))))
 | .shr=>some (.int k (a.fdiv (2 ^ (min b.toNat k.bits))))
 | _=>none
def qaj:BinOp→Bool
 | .shl | .shr=>true
 | _=>false
def qba (op:BinOp) (kk:EqK) (x y:AVal):Option AVal :=
 match x,y with
 | .int k a,.int k' b=>if qaj op=true then qrd op k a b else if k=k' then qa8 op k a b else none
 | .str a,.str b=>qxS op a b
 | x,y =>
   match op with
   | .eql=>(aEq kk x y).map .bool
   | .neq=>(aEq kk x y).map fun b=>.bool !b
   | _=>none
def aUn (op:UnOp) (x:AVal):Option AVal :=
 match op,x with
 | .neg,.int k n=>some (.int k (k.wrap (0-n)))
 | .not,.bool b=>some (.bool !b)
 | _,_=>none
def qgh (max:Bool) (xs:List AVal):Option AVal :=
 match xs with
 | [.int k x,.int k' y]=>if k=k' then some (.int k (if max then (if y > x then y else x) else (if y<x then y else x))) else none
 | _=>none
def renC (ρ:Nat→Option Nat) (v:AVal):AVal :=
 if qbd v=true then v else
 match v with
 | .list xs (some (some id))=>if qaZ xs=true then (match ρ id with | some j=>.list xs (some (some j)) | none=>.list xs none) else .junk
 | .ptr (some (id,off))=>(match ρ id with | some j=>.ptr (some (j,off)) | none=>.junk)
 | .ref id off len=>(match ρ id with | some j=>.ref j off len | none=>.junk)
 | .vec id n=>(match ρ id with | some j=>.vec j n | none=>.junk)
 | .map (some id)=>(match ρ id with | some j=>.map (some j) | none=>.junk)
 | _=>.junk
def ren (ρ:Nat→Option Nat) (v:AVal):AVal :=
 if qbd v=true then v else
 match v with
 | .agg cs=>.agg (cs.map (renC ρ))
 | .tuple cs=>.tuple (cs.map (renC ρ))
 | .func f a b=>.func f (a.map (renC ρ)) (b.map (renC ρ))
 | v=>renC ρ v
def qgg (ρ:Nat→Option Nat):AObj→AObj
 | .gone=>.gone
 | .box cs=>.box (cs.map (ren ρ))
 | .map es=>.map (es.map fun e=>(ren ρ e.1,ren ρ e.2))
 | .tail n sz=>.tail n sz
 | .vec cs sz=>.vec (cs.map (ren ρ)) sz
def qb2 (v:AVal):List Nat :=
 if qbd v=true then [] else
 match v with
 | .list _ (some (some id))=>[id]
 | .ptr (some (id,_))=>[id]
 | .ref id _ _=>[id]
 | .vec id _=>[id]
 | .map (some id)=>[id]
 | _=>[]
def qbT (v:AVal):List Nat :=
 if qbd v=true then [] else
 match v with
 | .agg cs=>cs.flatMap qb2
 | .tuple cs=>cs.flatMap qb2
 | .func _ a b=>a.flatMap qb2++b.flatMap qb2
 | v=>qb2 v
def qoH:AObj→List Nat
 | .gone=>[]
 | .box cs=>cs.flatMap qbT
 | .map es=>es.flatMap fun e=>qbT e.1++qbT e.2
 | .tail _ _=>[]
 | .vec cs _=>cs.flatMap qbT
def qeq (n:Nat):List Nat→List Nat→List Nat
 | [],acc=>acc
 | i::is,acc=>qeq n is (if n≤i∧i∉acc then acc++[i] else acc)
def qa5 (i:Nat):List Nat→Nat→Option Nat
 | [],_=>none
 | x::xs,k=>if x=i then some k else qa5 i xs (k+1)
def qje (sz:Nat):Nat→List AVal→List AVal
 | 0,_=>[]
 | m+1,cs=>.agg (cs.take sz)::qje sz m (cs.drop sz)
def qc0 (h:Heap) (f:AVal→AVal) (v:AVal):AVal :=
 match v with
 | .ptr (some (id,off)) =>
   (match h[id]? with
   | some (.box cs)=>if cs.all leaf=true then .vptr (cs.map f) off else .junk
   | _=>.junk)
 | .vec id m =>
   (match h[id]? with
   | some (.vec cs sz) =>
     if cs.all leaf=true then
      (if sz=1∧m=cs.length then .list (cs.map f) none
      else if 1<sz∧m*sz=cs.length then .list (qje sz m (cs.map f)) none else .junk)
     else .junk
   | _=>.junk)
 | .list xs _ =>
   if qaZ xs=true then .list xs none
   else if (xs.map fun x=>(acells (f x)).length)=xs.map fun x=>(acells x).length then .list (xs.map f) none else .junk
 | .agg cs=>.agg (cs.map f)
 | .tuple cs=>.tuple (cs.map f)
 | .func g a b=>.func g (a.map f) (b.map f)
 | _=>.junk
def qbO (h:Heap):Nat→AVal→AVal
 | 0,v=>if qbd v=true then wipe v else .junk
 | n+1,v=>if qbd v=true then wipe v else qc0 h (qbO h n) v
def viewV (h:Heap) (v:AVal):AVal:=qbO h 2000 v
def lookV (h:Heap) (v:AVal):AVal:=wipe (viewV h v)
def qfL (h:Heap) (v:AVal):AVal:=if qbd (wipeR v)=true then wipeR v else wipeR (viewV h v)
def qq5 (s:St):St:=⟨fun i=>viewV s.h (s.tm i),s.h.map fun _=>.gone⟩
def grow (h:Heap) (l:List Nat):List Nat:=qeq 0 (l.flatMap fun i=>qoH ((h[i]?).getD .gone)) l
def qcy (args:List AVal) (h:Heap):List Nat:=grow h (grow h (grow h (qeq 0 (args.flatMap qbT) [])))
def qdF (l:List Nat) (h:Heap):Heap:=l.map fun i=>qgg (fun i=>qa5 i l 0) ((h[i]?).getD .gone)
def qn0 (k:Nat) (r:ARes) (h2:Heap):List Nat:=qeq k ((match r with | .val v=>qbT v | .panic v=>qbT v)++(h2.take k).flatMap qoH) []
def qdA (l nl:List Nat) (n j:Nat):Option Nat:=if j<l.length then l[j]? else (qa5 j nl 0).map (n+·)
def qfY (l nl:List Nat) (h h2:Heap):Heap :=
 ((List.range h.length).map fun i=>match qa5 i l 0 with | some j=>qgg (qdA l nl h.length) ((h2[j]?).getD .gone) | none=>(h[i]?).getD .gone)++nl.map fun j=>qgg (qdA l nl h.length) ((h2[j]?).getD .gone)
def qoS (l nl:List Nat) (n:Nat):ARes→ARes
 | .val v=>.val (ren (qdA l nl n) v)
 | .panic v=>.panic (ren (qdA l nl n) v)
def qlj (call:CallT) (f:Nat) (args:List AVal) (h:Heap):Option (ARes × Heap) :=
 if (qcy args h).all (fun i=>decide (i<h.length))=true then
  match call f (args.map (ren fun i=>qa5 i (qcy args h) 0)) (qdF (qcy args h) h) with
  | some (r,h2)=>some (qoS (qcy args h) (qn0 (qcy args h).length r h2) h.length r,qfY (qcy args h) (qn0 (qcy args h).length r h2) h h2)
  | none=>none
 else none
def qdJ (pure:Nat→Bool) (call:CallT) (f:Nat) (args:List AVal) (h:Heap):Option (ARes × Heap) :=
 if pure f=true∧qaZ (args.map wipe)=true then
  match call f (args.map wipe) [] with
  | some (.val v,h2)=>if qbd (qfL h2 v)=true then some (.val (qfL h2 v),h) else none
  | some (.panic v,h2)=>if qbd (qfL h2 v)=true then some (.panic (qfL h2 v),h) else none
  | none=>none
 else qlj call f args h
def qag (x:Option AVal) (h:Heap):Option (ARes × Heap) :=
 match x with
 | some v=>some (.val v,h)
 | none=>none
def qaV (x:Option Heap):Option (ARes × Heap) :=
 match x with
 | some h=>some (.val (.tuple []),h)
 | none=>none
def qa3 (x:Option (ARes × Heap)):Option (ARes × Heap) :=
 match x with
 | some (.val v,h)=>some (.val v,h)
 | _=>none
def qkS (pure:Nat→Bool) (call:CallT) (g:Nat) (xs:List AVal) (h:Heap):Option (ARes × Heap) :=
 if pure g=true∧qaZ (xs.map wipe)=true then qa3 (qdJ pure call g xs h) else none
def qgx:AVal→Bool
 | .int _ _ | .bool _ | .str _=>true
 | _=>false
def qi7 (call:CallT) (f:Nat) (args:List AVal) (h:Heap):Option (ARes × Heap) :=
 if qaZ (args.map (lookV h))=true then
  match call f (args.map (lookV h)) [] with
  | some (.val v,_)=>if qgx v=true then some (.val v,h) else none
  | _=>none
 else none
def aOp (pure:Nat→Bool) (call:CallT) (o:AOp) (tm:Tmps) (h:Heap):Option (ARes × Heap) :=
 match o with
 | .move x=>some (.val (opd tm x),h)
 | .pick c a b=>(match opd tm c with | .bool t=>some (.val (if t then opd tm a else opd tm b),h) | _=>none)
 | .alloc cs=>some (.val (.ptr (some (h.length,0))),h++[.box cs])
 | .box x=>(match opd tm x with | .junk=>none | v=>some (.val (.ptr (some (h.length,0))),h++[.box (acells v)]))
 | .build z ps=>qag ((qcK z (ps.map fun p=>(p.1,p.2.1,opd tm p.2.2))).map .agg) h
 | .buildSlice sz ps=>if ((ps.map (opd tm)).all fun v=>(acells v).length=sz && (acells v).all leaf)=true then some (.val (.list (ps.map fun p=>wipe (opd tm p)) (some none)),h) else none
 | .load1 a=>qag (qay h (opd tm a)) h
 | .loadN n a=>qag ((qbE h (opd tm a) n).map .agg) h
 | .store n a x=>qaV (qbr h n (opd tm a) (opd tm x))
 | .field off a=>qag (qaE off (opd tm a)) h
 | .part1 off x=>qag (qpv off (opd tm x)) h
 | .partN off n x=>qag (qrc off n (opd tm x)) h
 | .indexList sz x i=>qag (qan sz (opd tm x) (opd tm i)) h
 | .indexArr len sz x i=>qag (qhP len sz (opd tm x) (opd tm i)) h
 | .indexStr x i=>qag (qj3 (opd tm x) (opd tm i)) h
 | .slice sz x lo hi mx=>qag (qeA sz (opd tm x) (lo.map (opd tm)) (hi.map (opd tm)) (mx.map (opd tm))) h
 | .sliceStr x lo hi=>qag (qj4 (opd tm x) (lo.map (opd tm)) (hi.map (opd tm))) h
 | .bin op k x y=>qag (qba op k (opd tm x) (opd tm y)) h
 | .un op x=>qag (aUn op (opd tm x)) h
 | .makeFunc f a b=>some (.val (.func f (a.map (opd tm)) (b.map (opd tm))),h)
 | .makeMap=>some (.val (.map (some h.length)),h++[.map []])
 | .makeSlice z l c =>
   (match opd tm l,opd tm c with
   | .int _ a,.int _ b=>if 0≤a∧a≤b∧b≤1073741824 then some (.val (.vec h.length a.toNat),h++[.vec (List.replicate a.toNat z) 1]) else none
   | _,_=>none)
 | .lookup k z ok m x=>qag (qiF h k z ok (opd tm m) (opd tm x)) h
 | .mapUpdate k m x v=>qaV (qeN h k (opd tm m) (opd tm x) (opd tm v))
 | .extract i x=>(match opd tm x with | .tuple vs=>qag vs[i]? h | _=>none)
 | .len k x=>qag (qcb h k (opd tm x)) h
 | .append sz bytes x y=>(match qcg h sz bytes (opd tm x) (opd tm y) with | some (v,h')=>some (.val v,h') | none=>none)
 | .minMax mx xs=>qag (qgh mx (xs.map (opd tm))) h
 | .call f args =>
   (match opd tm f with
   | .func g a b=>qdJ pure call g (a++args.map (opd tm)++b) h
   | _=>none)
 | .pcall k args=>if pure k=true∧qaZ ((args.map (opd tm)).map wipe)=true then qa3 (qdJ pure call k (args.map (opd tm)) h) else none
 | .pcallV f args =>
   (match opd tm f with
   | .func g a b=>qkS pure call g (a++args.map (opd tm)++b) h
   | _=>none)
 | .hcall f args =>
   (match opd tm f with
   | .func g a b=>call g (a++args.map (opd tm)++b) h
   | _=>none)
 | .vcall k args=>qi7 call k (args.map (opd tm)) h
 | .appendV sz bytes x y=>(match qfF h sz (opd tm x) (opd tm y) with | some (v,h')=>some (.val v,h') | none=>none)
 | .nilCheck x =>
   (match opd tm x with
   | .ptr (some p)=>some (.val (.ptr (some p)),h)
   | .vptr cs n=>some (.val (.vptr cs n),h)
   | .func f a b=>some (.val (.func f a b),h)
   | _=>none)
 | .conv k x=>(match opd tm x with | .int _ n=>some (.val (.int k (k.wrap n)),h) | _=>none)
 | .convS x=>(match opd tm x with | .str s=>some (.val (.str s),h) | _=>none)
 | .makeIface t x=>some (.val (.iface t (opd tm x)),h)
 | .stuck=>none
def qax (g:Option (Option Nat × Bool)) (tm:Tmps):Option Bool :=
 match g with
 | none=>some true
 | some (none,_)=>some false
 | some (some d,want) =>
   match tm d with
   | .bool b=>some (b==want)
   | .tuple _=>some false
   | _=>none
def qdm (pure:Nat→Bool) (call:CallT):List Step→St→Option (AExit × St)
 | [],s=>some (.normal,s)
 | o :: rest,s =>
   match qax o.guard s.tm with
   | some true =>
     (match aOp pure call o.op s.tm s.h with
     | some (.val v,h)=>qdm pure call rest ⟨upd s.tm o.dst v,h⟩
     | some (.panic v,h)=>some (.panic v,⟨s.tm,h⟩)
     | none=>none)
   | some false=>qdm pure call rest ⟨upd s.tm o.dst (.tuple []),s.h⟩
   | none=>none
def qiQ (l:List Nat) (n:Nat) (j:Nat):Option Nat:=(qa5 j l 0).map (n+·)
def qqE (l:List Nat) (h h2:Heap):Heap:=h++l.map fun j=>qgg (qiQ l h.length) ((h2[j]?).getD .gone)
def qnI (call:CallT) (f:Nat) (args:List AVal) (h:Heap):Option (ARes × Heap) :=
 if qaZ (args.map wipe)=true then
  match call f (args.map wipe) [] with
  | some (.val v,h2)=>some (.val (ren (qiQ (qeq 0 (qbT v) []) h.length) v),qqE (qeq 0 (qbT v) []) h h2)
  | _=>none
 else none
def qgw:AVal→Bool
 | .list [] (some none)=>true
 | _=>false
def qlq (pure:Nat→Bool) (call:CallT) (o:AOp) (tm:Tmps) (h:Heap):Option (ARes × Heap) :=
 match o with
 | .pcall k args=>qnI call k (args.map (opd tm)) h
 | .append sz bytes x y =>
   if qgw (opd tm x)=true then (match qfF h sz (opd tm x) (opd tm y) with | some (v,h')=>some (.val v,h') | none=>none)
   else aOp pure call (.append sz bytes x y) tm h
 | o=>aOp pure call o tm h
def qfk (pure:Nat→Bool) (call:CallT):List Step→St→Option (AExit × St)
 | [],s=>some (.normal,s)
 | o :: rest,s =>
   match qax o.guard s.tm with
   | some true =>
     (match qlq pure call o.op s.tm s.h with
     | some (.val v,h)=>qfk pure call rest ⟨upd s.tm o.dst v,h⟩
     | some (.panic v,h)=>some (.panic v,⟨s.tm,h⟩)
     | none=>none)
   | some false=>qfk pure call rest ⟨upd s.tm o.dst (.tuple []),s.h⟩
   | none=>none
def qbc:AOp→Bool
 | .alloc _ | .box _ | .store .. | .makeMap | .makeSlice .. | .mapUpdate .. | .append .. | .call .. | .hcall .. | .vcall .. | .appendV .. => true
 | _=>false
def qeC (pure:Nat→Bool) (call:CallT):List Step→Tmps→List Heap→Heap→Option (Tmps × List Heap × Heap)
 | [],tm,hs,h=>some (tm,hs++[h],h)
 | o :: rest,tm,hs,h =>
   match qax o.guard tm with
   | some true =>
     (match aOp pure call o.op tm h with
     | some (.val v,h')=>qeC pure call rest (upd tm o.dst v) (if qbc o.op=true then hs++[h] else hs) h'
     | _=>none)
   | some false=>qeC pure call rest (upd tm o.dst (.tuple [])) (if qbc o.op=true then hs++[h] else hs) h
   | none=>none
def qjo:CallT:=fun _ _ _=>none
def qmq (l:List Step) (tm:Tmps) (hs:List Heap) (c:Nat × Nat × Nat):Prop :=
 ∀ s d,l[c.1]? = some s→s.dst=some d→qax s.guard tm=some true →
  ∀ k h,c.2.1≤k→k≤c.2.2→hs[k]? = some h→aOp (fun _=>false) qjo s.op tm h=some (.val (tm d),h)
open Classical in
noncomputable def qiE (pure:Nat→Bool) (call:CallT) (l:List Step) (checks:List (Nat × Nat × Nat)) (s:St):Option (AExit × St) :=
 match qeC pure call l s.tm [] s.h with
 | some (tm,hs,h)=>if ∀ c∈checks,qmq l tm hs c then some (.normal,⟨tm,h⟩) else none
 | none=>none
def qih (n:Nat) (l:List Nat) (i:Nat):Option Nat:=if i<n then some i else qa5 i l n
def qkx (n:Nat) (keep:List Nat) (s:St):List Nat:=qeq n (keep.flatMap (fun t=>qbT (s.tm t))++(s.h.take n).flatMap qoH) []
def gc1 (n:Nat) (keep:List Nat) (s:St):St :=
 ⟨fun t => if t ∈ keep then ren (qih n (qkx n keep s)) (s.tm t) else .junk,
  (s.h.take n).map (qgg (qih n (qkx n keep s)))++(qkx n keep s).map fun id=>qgg (qih n (qkx n keep s)) ((s.h[id]?).getD .gone)⟩
def qpT:List Nat→Bool
 | []=>false
 | k::_=>decide (k=1000000)
def qx6 (keep:List Nat) (s:St):St:=⟨fun t=>if t∈keep.drop 1 then s.tm t else .junk,s.h⟩
def gc (n:Nat) (keep:List Nat) (s:St):St:=if qpT keep=true then qx6 keep s else if n≤s.h.length then gc1 n keep s else s
def gcE (n:Nat) (keep:List Nat) (r:AExit × St):AExit × St :=
 match r.1 with
 | .panic _=>r
 | e=>(e,gc n keep r.2)
def frzC (id sz:Nat) (cs:List AVal):AVal→AVal
 | .ptr (some (i,o))=>if i=id then .vptr cs o else .ptr (some (i,o))
 | .vec i m=>if i=id then (if sz=1∧m=cs.length then .list cs none else if 1<sz∧m*sz=cs.length then .list (qje sz m cs) none else .junk) else .vec i m
 | v=>v
def frz (id sz:Nat) (cs:List AVal):AVal→AVal
 | .agg vs=>.agg (vs.map (frzC id sz cs))
 | .tuple vs=>.tuple (vs.map (frzC id sz cs))
 | .func f a b=>.func f (a.map (frzC id sz cs)) (b.map (frzC id sz cs))
 | v=>frzC id sz cs v
def qla (id sz:Nat) (cs:List AVal):AObj→AObj
 | .box vs=>.box (vs.map (frz id sz cs))
 | .vec vs z=>.vec (vs.map (frz id sz cs)) z
 | o=>o
def qny (id sz:Nat) (cs:List AVal) (s:St):St :=
 if qaZ cs=true∧cs.all leaf=true then ⟨fun i=>frz id sz cs (s.tm i),(s.h.set id .gone).map (qla id sz cs)⟩ else s
def qhG (t:Nat) (s:St):St :=
 match s.tm t with
 | .ptr (some (id,0))=>(match s.h[id]? with | some (.box cs)=>qny id 0 (cs.map wipeCell) s | _=>s)
 | .vec id _=>(match s.h[id]? with | some (.vec cs sz)=>qny id sz (cs.map wipeCell) s | _=>s)
 | _=>s
def qod (needs:List (List Nat)) (S:List Bool):List Nat:=(List.range needs.length).filter fun i => !(S.getD i false) && (needs.getD i []).all fun j=>S.getD j false
def qiW (needs:List (List Nat)):Nat→List Bool→List (List Nat)
 | 0,_=>[[]]
 | f+1,S=>if (qod needs S).isEmpty=true then [[]] else (qod needs S).flatMap fun i=>(qiW needs f (S.set i true)).map (i::·)
def qqX (l:List Step) (needs:List (List Nat)):List (List Step):=(qiW needs needs.length (List.replicate needs.length false)).map fun is=>is.filterMap (l[·]?)
open Classical in
noncomputable def quJ (keep:List Nat) (l:List Step) (needs:List (List Nat)) (s:St):Option (AExit × St) :=
 if h:∃ r,∀ σ∈qqX l needs,(qdm (fun _=>false) qjo σ s).map (gcE s.h.length keep)=some r then some (Classical.choose h) else none
def qeY (body:St→Option (AExit × St)):Nat→St→Option (AExit × St)
 | 0,_=>none
 | n + 1,s =>
   match body s with
   | some (.normal,s')=>qeY body n s'
   | r=>r
def qgK (s:ByteArray):Nat→Nat→List (AVal × AVal)
 | 0,_=>[]
 | n+1,p=>if p<s.size then (.int .i64 p,.int .i32 (Utf8.decode s p).1)::qgK s n (p+(Utf8.decode s p).2) else []
def qff (id:Nat) (r:Option (AExit × St)):Option (AExit × St) :=
 match r with
 | some (.exit id',s')=>if id'=id then some (.normal,s') else some (.exit id',s')
 | r=>r
def qln (run:St→Option (AExit × St)) (r:Option (AExit × St)):Option (AExit × St) :=
 match r with
 | some (.normal,s2)=>run s2
 | r=>r
def qrX (n:Nat) (k:RangeK) (s:St):Bool :=
 match s.tm k.it with
 | .ptr (some (i,o))=>i==n && o==0
 | _=>false
def qcm (ops:List Step→St→Option (AExit × St)) (n:Nat) (k:RangeK) (runB:St→Option (AExit × St)) (e:AVal × AVal) (s:St):Option (AExit × St) :=
 if qrX n k s=true then
  match ops k.r1 ⟨upd s.tm (some k.dn) (.tuple [.bool true,e.1,e.2]),s.h⟩ with
  | some (.normal,s1) =>
    if qrX n k s1=true then
     (match opd s1.tm k.c with
     | .bool true=>qff k.id2 (qln runB (ops k.r2 ⟨upd s1.tm k.de (.tuple [e.1,e.2]),s1.h⟩))
     | _=>none)
    else none
  | _=>none
 else none
def qcN (ops:List Step→St→Option (AExit × St)) (n:Nat) (k:RangeK) (s:St):Option (AExit × St) :=
 if qrX n k s=true then
  match ops k.r1 ⟨upd s.tm (some k.dn) (.tuple [.bool false]),s.h⟩ with
  | some (.normal,s1)=>(match opd s1.tm k.c with | .bool false=>some (.normal,s1) | _=>none)
  | _=>none
 else none
def qcp (ops:List Step→St→Option (AExit × St)) (n:Nat) (k:RangeK) (runB:St→Option (AExit × St)):List (AVal × AVal)→St→Option (AExit × St)
 | [],s=>qcN ops n k (gc (n+1) k.kr s)
 | e :: es,s =>
   match qcm ops n k runB e (gc (n+1) k.kr s) with
   | some (.normal,s')=>qcp ops n k runB es s'
   | r=>qff k.id r
def qoG (m:AVal) (h:Heap):Heap:=(match m with | .map (some r)=>h.set r .gone | _=>h)++[.gone]
def qew (m:AVal) (h0 h:Heap):Heap:=match m with | .map (some r)=>h.set r ((h0[r]?).getD .gone) | _=>h
def qep (str:Bool) (m:AVal) (h:Heap):Option (List (AVal × AVal)) :=
 match str,m with
 | true,.str s=>some (qgK s s.size 0)
 | false,m=>qnX h m
 | _,_=>none
def qdt (str:Bool) (es es':List (AVal × AVal)):Prop:=if str=true then es'=es else es'.Perm es
open Classical in
noncomputable def qnb (O:List (AVal × AVal)→Prop) (f:List (AVal × AVal)→Option (AExit × St)):Option (AExit × St) :=
 if h:∃ r,∀ es,O es→f es=some r then some (Classical.choose h) else none
noncomputable def ql5 (ops:List Step→St→Option (AExit × St)) (k:RangeK) (runB runC:St→Option (AExit × St)) (s:St):Option (AExit × St) :=
 match ops k.pre s with
 | some (.normal,s1) =>
   (match qep k.str (opd s1.tm k.m) s1.h with
   | some es=>qnb (qdt k.str es) fun es' =>
    (match qcp ops s1.h.length k runB es' ⟨upd s1.tm (some k.it) (.ptr (some (s1.h.length,0))),qoG (opd s1.tm k.m) s1.h⟩ with
    | some (.normal,s2)=>runC ⟨s2.tm,qew (opd s1.tm k.m) s1.h s2.h⟩
    | some (e,s2)=>some (e,⟨s2.tm,qew (opd s1.tm k.m) s1.h s2.h⟩)
    | none=>none).map (gcE s.h.length k.keep)
   | none=>none)
 | _=>none
noncomputable def qbD (pure:Nat→Bool) (call:CallT) (n:Nat):ACode→St→Option (AExit × St)
 | .skip,s=>some (.normal,s)
 | .ops l,s=>qdm pure call l s
 | .draw l cs,s=>qiE pure call l cs s
 | .kops l,s=>qfk pure call l s
 | .view c,s=>qbD pure call n c (qq5 s)
 | .mdraw k l ns,s=>quJ k l ns s
 | .seq a b,s =>
   (match qbD pure call n a s with
   | some (.normal,s')=>qbD pure call n b s'
   | r=>r)
 | .cond c a b,s=>(match opd s.tm c with | .bool t=>if t then qbD pure call n a s else qbD pure call n b s | _=>none)
 | .block id c,s =>
   (match qbD pure call n c s with
   | some (.exit id',s')=>if id'=id then some (.normal,s') else some (.exit id',s')
   | r=>r)
 | .loop c,s=>qeY (qbD pure call n c) n s
 | .gloop k c,s=>qeY (fun s1=>qbD pure call n c (gc s.h.length k s1)) n s
 | .frame k c,s=>(qbD pure call n c s).map (gcE s.h.length k)
 | .freeze t c,s=>qbD pure call n c (qhG t s)
 | .range k b c,s=>ql5 (qdm pure call) k (qbD pure call n b) (qbD pure call n c) s
 | .exit id,s=>some (.exit id,s)
 | .ret,s=>some (.ret,s)
 | .stuck,_=>none
def qaw (tm:Tmps) (h:Heap):ARVar→Option AVal
 | .tmp t=>some (tm t)
 | .cell1 a=>qay h (tm a)
 | .cellN n a=>(qbE h (tm a) n).map .agg
 | .bad=>none
def qao (tm:Tmps) (h:Heap):List ARVar→Option (List AVal)
 | []=>some []
 | r :: rs =>
   match qaw tm h r,qao tm h rs with
   | some v,some vs=>some (v::vs)
   | _,_=>none
def qaI:List AVal→AVal
 | [v]=>v
 | vs=>.tuple vs
def qeV (args:List AVal):Tmps:=fun i=>(args[i]?).getD (.tuple [])
def qaS (rs:List ARVar) (r:Option (AExit × St)):Option (ARes × Heap) :=
 match r with
 | some (.normal,s) | some (.ret,s)=>(match qao s.tm s.h rs with | some vs=>some (.val (qaI vs),s.h) | none=>none)
 | some (.panic v,s)=>some (.panic v,s.h)
 | _=>none
structure Lib where
 pure:Nat→Bool
 summ:Nat→Option (List AVal→Heap→Option (ARes × Heap))
 fns:Nat→Option AFn
noncomputable def qcJ (L:Lib):Nat→CallT
 | 0,_,_,_=>none
 | n + 1,f,args,h =>
   match L.summ f with
   | some s=>s args h
   | none =>
     match L.fns f with
     | some fn=>qaS fn.results (qbD L.pure (qcJ L n) n fn.body ⟨qeV args,h⟩)
     | none=>none
inductive All2 {α β:Type} (R:α→β→Prop):List α→List β→Prop
 | nil:All2 R [] []
 | cons {x:α} {y:β} {xs:List α} {ys:List β} (h:R x y) (hs:All2 R xs ys):All2 R (x::xs) (y::ys)
theorem All2.length {α β:Type} {R:α→β→Prop} {xs:List α} {ys:List β} (h:All2 R xs ys):xs.length=ys.length:=by
 induction h with
 | nil=>rfl
 | cons _ _ ih=>simp[ih]
theorem All2.imp {α β:Type} {R S:α→β→Prop} {xs:List α} {ys:List β} (h:All2 R xs ys) (f:∀ x∈xs,∀ y∈ys,R x y→S x y):All2 S xs ys:=by
 induction h with
 | nil=>exact .nil
 | cons h _ ih=>exact .cons (f _ (by simp) _ (by simp) h) (ih fun x hx y hy=>f x (by simp[hx]) y (by simp[hy]))
theorem All2.trans {α β γ:Type} {R:α→β→Prop} {S:β→γ→Prop} {T:α→γ→Prop}:∀ {xs:List α} {ys:List β} {zs:List γ},All2 R xs ys→All2 S ys zs→(∀ x∈xs,∀ y∈ys,∀ z∈zs,R x y→S y z→T x z)→All2 T xs zs
 | _,_,_,.nil,.nil,_=>.nil
 | _,_,_,.cons h hs,.cons k ks,f=>.cons (f _ (by simp) _ (by simp) _ (by simp) h k) (hs.trans ks fun x hx y hy z hz=>f x (by simp[hx]) y (by simp[hy]) z (by simp[hz]))
theorem All2.refl {α:Type} {R:α→α→Prop}:∀ {xs:List α},(∀ x∈xs,R x x)→All2 R xs xs
 | [],_=>.nil
 | x::xs,h=>.cons (h x (by simp)) (All2.refl fun y hy=>h y (by simp[hy]))
end Go.Abs
