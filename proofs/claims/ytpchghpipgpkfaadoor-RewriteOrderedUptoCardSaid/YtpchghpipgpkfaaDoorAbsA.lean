/-
  The abstract machine: values in which a slice that nobody writes is a plain list, resolved code, and an interpreter of it. Definitions alone; conditions: none.
-/
import Derived.Calls
import Derived.Orders
set_option linter.unusedVariables false
namespace Go.Abs
inductive AVal where
 | junk
 | bool (b:Bool)
 | int (k:IntKind) (n:Int)
 | str (s:ByteArray)
 | list (xs:List AVal) (own:Option (Option Nat))
 | ref (id off len:Nat)
 | vec (id n:Nat)
 | ptr (a:Option (Nat × Nat))
 | vptr (cells:List AVal) (off:Nat)
 | map (r:Option Nat)
 | func (f:Nat) (first captured:List AVal)
 | nilFunc
 | iface (t:Nat) (v:AVal)
 | nilIface
 | agg (cells:List AVal)
 | tuple (vs:List AVal)
 deriving Inhabited
inductive AObj where
 | gone
 | box (cells:List AVal)
 | map (es:List (AVal × AVal))
 | tail (n sz:Nat)
 | vec (cells:List AVal) (sz:Nat)
 deriving Inhabited
abbrev Heap:=List AObj
abbrev Tmps:=Nat→AVal
inductive ARes where
 | val (v:AVal)
 | panic (v:AVal)
inductive AExit where
 | normal
 | exit (id:Nat)
 | ret
 | panic (v:AVal)
structure St where
 tm:Tmps
 h:Heap
abbrev CallT:=Nat→List AVal→Heap→Option (ARes × Heap)
inductive Opd where
 | tmp (t:Nat)
 | val (v:AVal)
 deriving Inhabited
inductive EqK where
 | bool | pointer | map | func | none
 | arr (n:Nat)
 deriving DecidableEq,Inhabited
inductive LenK where
 | str | slice | map
 deriving DecidableEq,Inhabited
inductive KeyK where
 | int | string | bool
 deriving DecidableEq,Inhabited
inductive AOp where
 | move (x:Opd)
 | pick (c a b:Opd)
 | alloc (cells:List AVal)
 | box (x:Opd)
 | build (zero:List AVal) (parts:List (Nat × Nat × Opd))
 | buildSlice (sz:Nat) (parts:List Opd)
 | load1 (a:Opd)
 | loadN (n:Nat) (a:Opd)
 | store (n:Nat) (a x:Opd)
 | field (off:Nat) (a:Opd)
 | part1 (off:Nat) (x:Opd)
 | partN (off n:Nat) (x:Opd)
 | indexList (sz:Nat) (x i:Opd)
 | indexArr (len sz:Nat) (x i:Opd)
 | indexStr (x i:Opd)
 | indexAgg (len:Nat) (x i:Opd)
 | slice (sz:Nat) (x:Opd) (lo hi mx:Option Opd)
 | sliceStr (x:Opd) (lo hi:Option Opd)
 | bin (op:BinOp) (k:EqK) (x y:Opd)
 | un (op:UnOp) (x:Opd)
 | makeFunc (f:Nat) (first cap:List Opd)
 | makeMap
 | makeSlice (z:AVal) (l c:Opd)
 | lookup (k:KeyK) (zero:AVal) (ok:Bool) (m x:Opd)
 | mapUpdate (k:KeyK) (m x v:Opd)
 | extract (i:Nat) (x:Opd)
 | len (k:LenK) (x:Opd)
 | append (sz bytes:Nat) (x y:Opd)
 | minMax (max:Bool) (xs:List Opd)
 | call (f:Opd) (args:List Opd)
 | pcall (f:Nat) (args:List Opd)
 | pcallV (f:Opd) (args:List Opd)
 | hcall (f:Opd) (args:List Opd)
 | vcall (f:Nat) (args:List Opd)
 | appendV (sz bytes:Nat) (x y:Opd)
 | nilCheck (x:Opd)
 | conv (k:IntKind) (x:Opd)
 | convS (x:Opd)
 | makeIface (t:Nat) (x:Opd)
 | stuck
 deriving Inhabited
structure Step where
 dst:Option Nat
 guard:Option (Option Nat × Bool)
 op:AOp
 deriving Inhabited
structure RangeK where
 pre:List Step
 m:Opd
 it:Nat
 dn:Nat
 r1:List Step
 c:Opd
 id:Nat
 id2:Nat
 de:Option Nat
 r2:List Step
 str:Bool
 kr:List Nat
 keep:List Nat
 deriving Inhabited
inductive ACode where
 | skip
 | ops (l:List Step)
 | draw (l:List Step) (checks:List (Nat × Nat × Nat))
 | kops (l:List Step)
 | view (c:ACode)
 | mdraw (keep:List Nat) (l:List Step) (needs:List (List Nat))
 | seq (a b:ACode)
 | cond (c:Opd) (thn els:ACode)
 | block (id:Nat) (body:ACode)
 | loop (body:ACode)
 | gloop (keep:List Nat) (body:ACode)
 | frame (keep:List Nat) (body:ACode)
 | freeze (t:Nat) (body:ACode)
 | range (k:RangeK) (b after:ACode)
 | exit (id:Nat)
 | ret
 | stuck
 deriving Inhabited
inductive ARVar where
 | tmp (t:Nat)
 | cell1 (a:Nat)
 | cellN (n a:Nat)
 | bad
 deriving Inhabited
structure AFn where
 results:List ARVar
 body:ACode
 deriving Inhabited
def acells:AVal→List AVal
 | .agg cs=>cs
 | v=>[v]
def leaf:AVal→Bool
 | .agg _ | .tuple _ | .junk=>false
 | _=>true
def qcK:AVal→Bool
 | .junk=>false
 | _=>true
def wipeCell:AVal→AVal
 | .list xs _=>.list xs none
 | v=>v
def wipe:AVal→AVal
 | .agg cs=>.agg (cs.map wipeCell)
 | v=>wipeCell v
def wipeR:AVal→AVal
 | .tuple cs=>.tuple (cs.map wipe)
 | v=>wipe v
mutual
def qaH:AVal→Bool
 | .list xs own=>qax xs && (match own with | some (some _)=>false | _=>true)
 | .ref .. => false
 | .vec .. => false
 | .ptr a=>a.isNone
 | .vptr cs _=>qax cs
 | .map r=>r.isNone
 | .func _ a b=>qax a && qax b
 | .iface _ v=>qaH v
 | .agg cs=>qax cs
 | .tuple vs=>qax vs
 | _=>true
def qax:List AVal→Bool
 | []=>true
 | v::vs=>qaH v && qax vs
end
def upd (tm:Tmps) (d:Option Nat) (v:AVal):Tmps :=
 match d with
 | none=>tm
 | some d=>fun i=>if i=d then v else tm i
def opd (tm:Tmps):Opd→AVal
 | .tmp t=>tm t
 | .val v=>v
def qat (cs:List AVal) (off:Nat) (vs:List AVal):List AVal:=cs.take off++vs++cs.drop (off+vs.length)
def qaS (h:Heap) (a:AVal) (n:Nat):Option (List AVal) :=
 match a with
 | .ptr (some (id,off)) =>
   match h[id]? with
   | some (.box cs)=>if off+n≤cs.length then some ((cs.drop off).take n) else none
   | some (.vec cs _)=>if off+n≤cs.length then some ((cs.drop off).take n) else none
   | _=>none
 | .vptr cs off=>if off+n≤cs.length then some ((cs.drop off).take n) else none
 | _=>none
def qag (h:Heap) (a:AVal):Option AVal :=
 match a with
 | .ptr (some (id,off))=>(match h[id]? with | some (.box cs)=>cs[off]? | some (.vec cs _)=>cs[off]? | _=>none)
 | .vptr cs off=>cs[off]?
 | _=>none
def qaT (h:Heap) (n:Nat) (a v:AVal):Option Heap :=
 match a with
 | .ptr (some (id,off)) =>
   match h[id]? with
   | some (.box cs) =>
     if (acells v).length=n∧off+n≤cs.length∧(acells v).all leaf=true then some (h.set id (.box (qat cs off (acells v)))) else none
   | some (.vec cs sz) =>
     if (acells v).length=n∧off+n≤cs.length∧(acells v).all leaf=true then some (h.set id (.vec (qat cs off (acells v)) sz)) else none
   | _=>none
 | _=>none
def qcj (cells:List AVal):List (Nat × Nat × AVal)→Option (List AVal)
 | []=>some cells
 | (off,size,v) :: rest =>
   if qcK v=true∧(acells v).length=size∧off+size≤cells.length then qcj (qat cells off (acells v)) rest else none
def qai (off:Nat) (x:AVal):Option AVal :=
 match x with
 | .ptr (some (id,o))=>some (.ptr (some (id,o+off)))
 | .vptr cs o=>some (.vptr cs (o+off))
 | _=>none
def qrg (off:Nat) (x:AVal):Option AVal :=
 match x with
 | .agg cs=>cs[off]?
 | _=>none
def qtJ (off n:Nat) (x:AVal):Option AVal :=
 match x with
 | .agg cs=>if off+n≤cs.length then some (.agg ((cs.drop off).take n)) else none
 | _=>none
def qad (sz:Nat) (x ix:AVal):Option AVal :=
 match x,ix with
 | .list xs _,.int _ i =>
   if 0≤i then
    match xs[i.toNat]? with
    | some v=>if (acells v).length=sz then some (.vptr (acells v) 0) else none
    | none=>none
   else none
 | .ref id off len,.int _ i=>if 0≤i∧i<len∧sz=1 then some (.ptr (some (id,off+i.toNat))) else none
 | .vec id n,.int _ i=>if 0≤i∧i<n then some (.ptr (some (id,i.toNat*sz))) else none
 | _,_=>none
def qhT (len sz:Nat) (x ix:AVal):Option AVal :=
 match x,ix with
 | .vptr cs off,.int _ i=>if 0≤i∧i<len then some (.vptr cs (off+i.toNat*sz)) else none
 | .ptr (some (id,off)),.int _ i=>if 0≤i∧i<len then some (.ptr (some (id,off+i.toNat*sz))) else none
 | _,_=>none
def qkm (len:Nat) (x ix:AVal):Option AVal :=
 match x,ix with
 | .agg cs,.int _ i=>if 0≤i∧i<len then cs[i.toNat]? else none
 | _,_=>none
def qkn (x ix:AVal):Option AVal :=
 match x,ix with
 | .str s,.int _ i=>if 0≤i then (s[i.toNat]?).map fun b=>.int .u8 b.toNat else none
 | _,_=>none
def qdQ (d:Nat):Option AVal→Option Int
 | none=>some d
 | some (.int _ n)=>some n
 | _=>none
def qko (x:AVal) (lo hi:Option AVal):Option AVal :=
 match x with
 | .str s =>
   match qdQ 0 lo,qdQ s.size hi with
   | some l,some h=>if 0≤l∧l≤h∧h≤s.size then some (.str (s.extract l.toNat h.toNat)) else none
   | _,_=>none
 | _=>none
def qdo (sz:Nat) (x:AVal) (lo hi mx:Option AVal):Option AVal :=
 match x with
 | .list xs own =>
   match qdQ 0 lo,qdQ xs.length hi with
   | some l,some h =>
     if 0≤l∧l≤h∧h≤xs.length∧(xs.all fun v=>(acells v).length=sz)=true then
      match mx with
      | none=>some (.list ((xs.take h.toNat).drop l.toNat) none)
      | some (.int _ m)=>if hi.isSome=true∧h≤m∧m≤xs.length then some (.list ((xs.take h.toNat).drop l.toNat) (if m=h then some none else none)) else none
      | _=>none
     else none
   | _,_=>none
 | .ref id off len =>
   match qdQ 0 lo,qdQ len hi,mx with
   | some l,some h,none=>if 0≤l∧l≤h∧h≤len∧sz=1 then (if l=h then some (.list [] none) else some (.ref id (off+l.toNat) (h-l).toNat)) else none
   | _,_,_=>none
 | _=>none
def qc2:AVal→AVal→Option Bool
 | .int k a,.int k' b=>if k=k' then some (a==b) else none
 | .str a,.str b=>some (decide (a=b))
 | .bool a,.bool b=>some (a==b)
 | _,_=>none
def qbb (k:AVal):List (AVal × AVal)→Nat→Option (Option (Nat × AVal))
 | [],_=>some none
 | e :: es,i =>
   match qc2 k e.1 with
   | some true=>some (some (i,e.2))
   | some false=>qbb k es (i+1)
   | none=>none
def qBD:AVal→AVal→Bool
 | .int _ a,.int _ b=>decide (a<b)
 | .str a,.str b=>Op.bytesLess a.toList b.toList
 | .bool a,.bool b => !a && b
 | _,_=>false
def qBf (k v:AVal):List (AVal × AVal)→List (AVal × AVal)
 | []=>[(k,v)]
 | e::es=>if qBD k e.1=true then (k,v)::e::es else e::qBf k v es
def qA0 (k v:AVal) (es:List (AVal × AVal)):List (AVal × AVal):=es.map fun e=>if qc2 k e.1=some true then (k,v) else e
def qc3:KeyK→AVal→Bool
 | .int,.int _ _ | .string,.str _ | .bool,.bool _=>true
 | _,_=>false
def qpe (h:Heap):AVal→Option (List (AVal × AVal))
 | .map none=>some []
 | .map (some r)=>(match h[r]? with | some (.map es)=>some es | _=>none)
 | _=>none
def qiP (h:Heap) (kk:KeyK) (zero:AVal) (ok:Bool) (m k:AVal):Option AVal :=
 if qc3 kk k=true then
  match qpe h m with
  | some es =>
    match qbb k es 0 with
    | some (some (_,v))=>some (if ok then .tuple [v,.bool true] else v)
    | some none=>some (if ok then .tuple [zero,.bool false] else zero)
    | none=>none
  | none=>none
 else none
def qeh (h:Heap) (kk:KeyK) (m k v:AVal):Option Heap :=
 match m with
 | .map (some r) =>
   match h[r]? with
   | some (.map es) =>
     if qc3 kk k=true then
      match qbb k es 0 with
      | some (some (_,_))=>some (h.set r (.map (qA0 k (wipe v) es)))
      | some none=>some (h.set r (.map (qBf k (wipe v) es)))
      | none=>none
     else none
   | _=>none
 | _=>none
def qfN:Nat:=2 ^ 30
def qbO (h:Heap) (sz bytes:Nat) (x y:AVal):Option (AVal × Heap) :=
 match x,y with
 | .list xs own,.list ys _ =>
   if ys=[] then some (x,h)
   else if (xs.all fun v=>(acells v).length=sz)=true∧(ys.all fun v=>(acells v).length=sz)=true∧xs.length+ys.length≤qfN then
    match own with
    | some none=>some (.list (xs++ys) (some (some h.length)),h++[.tail (xs.length+ys.length) sz])
    | some (some id) =>
      (match h[id]? with
      | some (.tail n sz')=>if n=xs.length∧sz'=sz then some (.list (xs++ys) (some (some id)),h.set id (.tail (xs.length+ys.length) sz)) else none
      | _=>none)
    | none=>none
   else none
 | .vec id n,.list ys _ =>
   if ys=[] then some (.vec id n,h)
   else match h[id]? with
    | some (.vec cs sz') =>
      if sz'=sz∧cs.length=n*sz∧(ys.all fun v=>(acells v).length=sz)=true∧n+ys.length≤qfN then
       some (.vec h.length (n+ys.length),h.set id .gone++[.vec (cs++ys.flatMap acells) sz])
      else none
    | _=>none
 | _,_=>none
def qd2 (h:Heap) (sz:Nat) (x y:AVal):Option (AVal × Heap) :=
 match x,y with
 | .list [] (some none),.list ys _ =>
   if ys=[] then some (.list [] (some none),h)
   else if (ys.all fun v=>(acells v).length=sz)=true∧ys.length≤qfN then some (.vec h.length ys.length,h++[.vec (ys.flatMap acells) sz])
   else none
 | x,y=>qbO h sz 0 x y
def qbd (h:Heap) (k:LenK) (x:AVal):Option AVal :=
 match k,x with
 | .str,.str s=>some (.int .i64 s.size)
 | .slice,.list xs _=>some (.int .i64 xs.length)
 | .slice,.ref _ _ n=>some (.int .i64 n)
 | .slice,.vec _ n=>some (.int .i64 n)
 | .map,.map none=>some (.int .i64 0)
 | .map,.map (some r)=>(match h[r]? with | some (.map es)=>some (.int .i64 es.length) | _=>none)
 | _,_=>none
def qaA (op:BinOp) (k:IntKind) (x y:Int):Option AVal :=
 match op with
 | .add=>some (.int k (k.wrap (x+y)))
 | .sub=>some (.int k (k.wrap (x-y)))
 | .mul=>some (.int k (k.wrap (x*y)))
 | .quo=>if y=0 then none else some (.int k (k.wrap (x.tdiv y)))
 | .rem=>if y=0 then none else some (.int k (x.tmod y))
 | .and=>some (.int k (k.wrap ((BitVec.ofInt k.bits x &&& BitVec.ofInt k.bits y).toNat)))
 | .or=>some (.int k (k.wrap ((BitVec.ofInt k.bits x ||| BitVec.ofInt k.bits y).toNat)))
 | .xor=>some (.int k (k.wrap ((BitVec.ofInt k.bits x ^^^ BitVec.ofInt k.bits y).toNat)))
 | .andNot=>some (.int k (k.wrap ((BitVec.ofInt k.bits x &&& ~~~BitVec.ofInt k.bits y).toNat)))
 | .eql=>some (.bool (x==y))
 | .neq=>some (.bool (x != y))
 | .lss=>some (.bool (x<y))
 | .leq=>some (.bool (x≤y))
 | .gtr=>some (.bool (x > y))
 | .geq=>some (.bool (x≥y))
 | _=>none
def qCg (op:BinOp) (x y:ByteArray):Option AVal :=
 match op with
 | .add=>if x.size+y.size≤2 ^ 60 then some (.str (x++y)) else none
 | .eql=>some (.bool (decide (x=y)))
 | .neq=>some (.bool !(decide (x=y)))
 | .lss=>some (.bool (Op.bytesLess x.toList y.toList))
 | .leq=>some (.bool (Op.bytesLess x.toList y.toList || decide (x=y)))
 | .gtr=>some (.bool !(Op.bytesLess x.toList y.toList || decide (x=y)))
 | .geq=>some (.bool !(Op.bytesLess x.toList y.toList))
 | _=>none
def qdv:List AVal→List AVal→Option Bool
 | [],[]=>some true
 | .int k a::xs,.int k' b::ys=>if k=k' then (qdv xs ys).map fun r=>(a==b) && r else none
 | _,_=>none
def aEq (k:EqK) (x y:AVal):Option Bool :=
 match k,x,y with
 | .bool,.bool a,.bool b=>some (a==b)
 | .pointer,.ptr none,.ptr b=>some b.isNone
 | .pointer,.ptr (some _),.ptr none=>some false
 | .pointer,.ptr none,.vptr _ _=>some false
 | .pointer,.vptr _ _,.ptr none=>some false
 | .map,.map none,.map b=>some b.isNone
 | .map,.map (some _),.map none=>some false
 | .func,.nilFunc,.nilFunc=>some true
 | .func,.nilFunc,.func _ _ _=>some false
 | .func,.func _ _ _,.nilFunc=>some false
 | .arr n,.agg as,.agg bs=>if as.length=n then qdv as bs else none
 | _,_,_=>none
def qtK (op:BinOp) (k:IntKind) (a b:Int):Option AVal :=
 if b<0 then none else
 match op with
 | .shl=>some (.int k (k.wrap (a*2 ^ (min b.toNat k.bits))))
 | .shr=>some (.int k (a.fdiv (2 ^ (min b.toNat k.bits))))
 | _=>none
def qab:BinOp→Bool
 | .shl | .shr=>true
 | _=>false
def qaB (op:BinOp) (kk:EqK) (x y:AVal):Option AVal :=
 match x,y with
 | .int k a,.int k' b=>if qab op=true then qtK op k a b else if k=k' then qaA op k a b else none
 | .str a,.str b=>qCg op a b
 | x,y =>
   match op with
   | .eql=>(aEq kk x y).map .bool
   | .neq=>(aEq kk x y).map fun b=>.bool !b
   | _=>none
def aUn (op:UnOp) (x:AVal):Option AVal :=
 match op,x with
 | .neg,.int k n=>some (.int k (k.wrap (0-n)))
 | .not,.bool b=>some (.bool !b)
 | _,_=>none
def qeq (max:Bool) (xs:List AVal):Option AVal :=
 match xs with
 | [.int k x,.int k' y]=>if k=k' then some (.int k (if max then (if y > x then y else x) else (if y<x then y else x))) else none
 | _=>none
def renC (ρ:Nat→Option Nat) (v:AVal):AVal :=
 if qaH v=true then v else
 match v with
 | .list xs (some (some id))=>if qax xs=true then (match ρ id with | some j=>.list xs (some (some j)) | none=>.list xs none) else .junk
 | .ptr (some (id,off))=>(match ρ id with | some j=>.ptr (some (j,off)) | none=>.junk)
 | .ref id off len=>(match ρ id with | some j=>.ref j off len | none=>.junk)
 | .vec id n=>(match ρ id with | some j=>.vec j n | none=>.junk)
 | .map (some id)=>(match ρ id with | some j=>.map (some j) | none=>.junk)
 | _=>.junk
def ren (ρ:Nat→Option Nat) (v:AVal):AVal :=
 if qaH v=true then v else
 match v with
 | .agg cs=>.agg (cs.map (renC ρ))
 | .tuple cs=>.tuple (cs.map (renC ρ))
 | .func f a b=>.func f (a.map (renC ρ)) (b.map (renC ρ))
 | v=>renC ρ v
def qfp (ρ:Nat→Option Nat):AObj→AObj
 | .gone=>.gone
 | .box cs=>.box (cs.map (ren ρ))
 | .map es=>.map (es.map fun e=>(ren ρ e.1,ren ρ e.2))
 | .tail n sz=>.tail n sz
 | .vec cs sz=>.vec (cs.map (ren ρ)) sz
def qbq (v:AVal):List Nat :=
 if qaH v=true then [] else
 match v with
 | .list _ (some (some id))=>[id]
 | .ptr (some (id,_))=>[id]
 | .ref id _ _=>[id]
 | .vec id _=>[id]
 | .map (some id)=>[id]
 | _=>[]
def qa9 (v:AVal):List Nat :=
 if qaH v=true then [] else
 match v with
 | .agg cs=>cs.flatMap qbq
 | .tuple cs=>cs.flatMap qbq
 | .func _ a b=>a.flatMap qbq++b.flatMap qbq
 | v=>qbq v
def qp9:AObj→List Nat
 | .gone=>[]
 | .box cs=>cs.flatMap qa9
 | .map es=>es.flatMap fun e=>qa9 e.1++qa9 e.2
 | .tail _ _=>[]
 | .vec cs _=>cs.flatMap qa9
def qdR (n:Nat):List Nat→List Nat→List Nat
 | [],acc=>acc
 | i::is,acc=>qdR n is (if n≤i∧i∉acc then acc++[i] else acc)
def qaC (i:Nat):List Nat→Nat→Option Nat
 | [],_=>none
 | x::xs,k=>if x=i then some k else qaC i xs (k+1)
def qju (sz:Nat):Nat→List AVal→List AVal
 | 0,_=>[]
 | m+1,cs=>.agg (cs.take sz)::qju sz m (cs.drop sz)
def qcx (h:Heap) (f:AVal→AVal) (v:AVal):AVal :=
 match v with
 | .ptr (some (id,off)) =>
   (match h[id]? with
   | some (.box cs)=>if cs.all leaf=true then .vptr (cs.map f) off else .junk
   | _=>.junk)
 | .vec id m =>
   (match h[id]? with
   | some (.vec cs sz) =>
     if cs.all leaf=true then
      (if sz=1∧m=cs.length then .list (cs.map f) none
      else if 1<sz∧m*sz=cs.length then .list (qju sz m (cs.map f)) none else .junk)
     else .junk
   | _=>.junk)
 | .list xs _ =>
   if qax xs=true then .list xs none
   else if (xs.map fun x=>(acells (f x)).length)=xs.map fun x=>(acells x).length then .list (xs.map f) none else .junk
 | .agg cs=>.agg (cs.map f)
 | .tuple cs=>.tuple (cs.map f)
 | .func g a b=>.func g (a.map f) (b.map f)
 | _=>.junk
def qaV (h:Heap):Nat→AVal→AVal
 | 0,v=>if qaH v=true then wipe v else .junk
 | n+1,v=>if qaH v=true then wipe v else qcx h (qaV h n) v
def viewV (h:Heap) (v:AVal):AVal:=qaV h 2000 v
def lookV (h:Heap) (v:AVal):AVal:=wipe (viewV h v)
def qf5 (h:Heap) (v:AVal):AVal:=if qaH (wipeR v)=true then wipeR v else wipeR (viewV h v)
def qp1 (s:St):St:=⟨fun i=>viewV s.h (s.tm i),s.h.map fun _=>.gone⟩
def grow (h:Heap) (l:List Nat):List Nat:=qdR 0 (l.flatMap fun i=>qp9 ((h[i]?).getD .gone)) l
def qbP (args:List AVal) (h:Heap):List Nat:=grow h (grow h (grow h (qdR 0 (args.flatMap qa9) [])))
def qc5 (l:List Nat) (h:Heap):Heap:=l.map fun i=>qfp (fun i=>qaC i l 0) ((h[i]?).getD .gone)
def qpi (k:Nat) (r:ARes) (h2:Heap):List Nat:=qdR k ((match r with | .val v=>qa9 v | .panic v=>qa9 v)++(h2.take k).flatMap qp9) []
def qc1 (l nl:List Nat) (n j:Nat):Option Nat:=if j<l.length then l[j]? else (qaC j nl 0).map (n+·)
def qfQ (l nl:List Nat) (h h2:Heap):Heap :=
 ((List.range h.length).map fun i=>match qaC i l 0 with | some j=>qfp (qc1 l nl h.length) ((h2[j]?).getD .gone) | none=>(h[i]?).getD .gone)++nl.map fun j=>qfp (qc1 l nl h.length) ((h2[j]?).getD .gone)
def qqm (l nl:List Nat) (n:Nat):ARes→ARes
 | .val v=>.val (ren (qc1 l nl n) v)
 | .panic v=>.panic (ren (qc1 l nl n) v)
def qmd (call:CallT) (f:Nat) (args:List AVal) (h:Heap):Option (ARes × Heap) :=
 if (qbP args h).all (fun i=>decide (i<h.length))=true then
  match call f (args.map (ren fun i=>qaC i (qbP args h) 0)) (qc5 (qbP args h) h) with
  | some (r,h2)=>some (qqm (qbP args h) (qpi (qbP args h).length r h2) h.length r,qfQ (qbP args h) (qpi (qbP args h).length r h2) h h2)
  | none=>none
 else none
def qc8 (pure:Nat→Bool) (call:CallT) (f:Nat) (args:List AVal) (h:Heap):Option (ARes × Heap) :=
 if pure f=true∧qax (args.map wipe)=true then
  match call f (args.map wipe) [] with
  | some (.val v,h2)=>if qaH (qf5 h2 v)=true then some (.val (qf5 h2 v),h) else none
  | some (.panic v,h2)=>if qaH (qf5 h2 v)=true then some (.panic (qf5 h2 v),h) else none
  | none=>none
 else qmd call f args h
def qaa (x:Option AVal) (h:Heap):Option (ARes × Heap) :=
 match x with
 | some v=>some (.val v,h)
 | none=>none
def qay (x:Option Heap):Option (ARes × Heap) :=
 match x with
 | some h=>some (.val (.tuple []),h)
 | none=>none
def qaw (x:Option (ARes × Heap)):Option (ARes × Heap) :=
 match x with
 | some (.val v,h)=>some (.val v,h)
 | _=>none
def qlw (pure:Nat→Bool) (call:CallT) (g:Nat) (xs:List AVal) (h:Heap):Option (ARes × Heap) :=
 if pure g=true∧qax (xs.map wipe)=true then qaw (qc8 pure call g xs h) else none
def qgt:AVal→Bool
 | .int _ _ | .bool _ | .str _=>true
 | _=>false
def qgI (call:CallT) (f:Nat) (args:List AVal) (h:Heap):Option (ARes × Heap) :=
 if qax (args.map (lookV h))=true then
  match call f (args.map (lookV h)) [] with
  | some (.val v,_)=>if qgt v=true then some (.val v,h) else none
  | _=>none
 else none
def aOp (pure:Nat→Bool) (call:CallT) (o:AOp) (tm:Tmps) (h:Heap):Option (ARes × Heap) :=
 match o with
 | .move x=>some (.val (opd tm x),h)
 | .pick c a b=>(match opd tm c with | .bool t=>some (.val (if t then opd tm a else opd tm b),h) | _=>none)
 | .alloc cs=>some (.val (.ptr (some (h.length,0))),h++[.box cs])
 | .box x=>(match opd tm x with | .junk=>none | v=>some (.val (.ptr (some (h.length,0))),h++[.box (acells v)]))
 | .build z ps=>qaa ((qcj z (ps.map fun p=>(p.1,p.2.1,opd tm p.2.2))).map .agg) h
 | .buildSlice sz ps=>if ((ps.map (opd tm)).all fun v=>(acells v).length=sz && (acells v).all leaf)=true then some (.val (.list (ps.map fun p=>wipe (opd tm p)) (some none)),h) else none
 | .load1 a=>qaa (qag h (opd tm a)) h
 | .loadN n a=>qaa ((qaS h (opd tm a) n).map .agg) h
 | .store n a x=>qay (qaT h n (opd tm a) (opd tm x))
 | .field off a=>qaa (qai off (opd tm a)) h
 | .part1 off x=>qaa (qrg off (opd tm x)) h
 | .partN off n x=>qaa (qtJ off n (opd tm x)) h
 | .indexList sz x i=>qaa (qad sz (opd tm x) (opd tm i)) h
 | .indexArr len sz x i=>qaa (qhT len sz (opd tm x) (opd tm i)) h
 | .indexStr x i=>qaa (qkn (opd tm x) (opd tm i)) h
 | .indexAgg len x i=>qaa (qkm len (opd tm x) (opd tm i)) h
 | .slice sz x lo hi mx=>qaa (qdo sz (opd tm x) (lo.map (opd tm)) (hi.map (opd tm)) (mx.map (opd tm))) h
 | .sliceStr x lo hi=>qaa (qko (opd tm x) (lo.map (opd tm)) (hi.map (opd tm))) h
 | .bin op k x y=>qaa (qaB op k (opd tm x) (opd tm y)) h
 | .un op x=>qaa (aUn op (opd tm x)) h
 | .makeFunc f a b=>some (.val (.func f (a.map (opd tm)) (b.map (opd tm))),h)
 | .makeMap=>some (.val (.map (some h.length)),h++[.map []])
 | .makeSlice z l c =>
   (match opd tm l,opd tm c with
   | .int _ a,.int _ b=>if 0≤a∧a≤b∧b≤1073741824 then some (.val (.vec h.length a.toNat),h++[.vec (List.replicate a.toNat z) 1]) else none
   | _,_=>none)
 | .lookup k z ok m x=>qaa (qiP h k z ok (opd tm m) (opd tm x)) h
 | .mapUpdate k m x v=>qay (qeh h k (opd tm m) (opd tm x) (opd tm v))
 | .extract i x=>(match opd tm x with | .tuple vs=>qaa vs[i]? h | _=>none)
 | .len k x=>qaa (qbd h k (opd tm x)) h
 | .append sz bytes x y=>(match qbO h sz bytes (opd tm x) (opd tm y) with | some (v,h')=>some (.val v,h') | none=>none)
 | .minMax mx xs=>qaa (qeq mx (xs.map (opd tm))) h
 | .call f args =>
   (match opd tm f with
   | .func g a b=>qc8 pure call g (a++args.map (opd tm)++b) h
   | _=>none)
 | .pcall k args=>if pure k=true∧qax ((args.map (opd tm)).map wipe)=true then qaw (qc8 pure call k (args.map (opd tm)) h) else none
 | .pcallV f args =>
   (match opd tm f with
   | .func g a b=>qlw pure call g (a++args.map (opd tm)++b) h
   | _=>none)
 | .hcall f args =>
   (match opd tm f with
   | .func g a b=>call g (a++args.map (opd tm)++b) h
   | _=>none)
 | .vcall k args=>qgI call k (args.map (opd tm)) h
 | .appendV sz bytes x y=>(match qd2 h sz (opd tm x) (opd tm y) with | some (v,h')=>some (.val v,h') | none=>none)
 | .nilCheck x =>
   (match opd tm x with
   | .ptr (some p)=>some (.val (.ptr (some p)),h)
   | .vptr cs n=>some (.val (.vptr cs n),h)
   | .func f a b=>some (.val (.func f a b),h)
   | _=>none)
 | .conv k x=>(match opd tm x with | .int _ n=>some (.val (.int k (k.wrap n)),h) | _=>none)
 | .convS x=>(match opd tm x with | .str s=>some (.val (.str s),h) | _=>none)
 | .makeIface t x=>some (.val (.iface t (opd tm x)),h)
 | .stuck=>none
def qaf (g:Option (Option Nat × Bool)) (tm:Tmps):Option Bool :=
 match g with
 | none=>some true
 | some (none,_)=>some false
 | some (some d,want) =>
   match tm d with
   | .bool b=>some (b==want)
   | .tuple _=>some false
   | _=>none
def qcq (pure:Nat→Bool) (call:CallT):List Step→St→Option (AExit × St)
 | [],s=>some (.normal,s)
 | o :: rest,s =>
   match qaf o.guard s.tm with
   | some true =>
     (match aOp pure call o.op s.tm s.h with
     | some (.val v,h)=>qcq pure call rest ⟨upd s.tm o.dst v,h⟩
     | some (.panic v,h)=>some (.panic v,⟨s.tm,h⟩)
     | none=>none)
   | some false=>qcq pure call rest ⟨upd s.tm o.dst (.tuple []),s.h⟩
   | none=>none
def qi4 (l:List Nat) (n:Nat) (j:Nat):Option Nat:=(qaC j l 0).map (n+·)
def qsY (l:List Nat) (h h2:Heap):Heap:=h++l.map fun j=>qfp (qi4 l h.length) ((h2[j]?).getD .gone)
def qoY (call:CallT) (f:Nat) (args:List AVal) (h:Heap):Option (ARes × Heap) :=
 if qax (args.map wipe)=true then
  match call f (args.map wipe) [] with
  | some (.val v,h2)=>some (.val (ren (qi4 (qdR 0 (qa9 v) []) h.length) v),qsY (qdR 0 (qa9 v) []) h h2)
  | _=>none
 else none
def qgs:AVal→Bool
 | .list [] (some none)=>true
 | _=>false
def qjV (pure:Nat→Bool) (call:CallT) (o:AOp) (tm:Tmps) (h:Heap):Option (ARes × Heap) :=
 match o with
 | .pcall k args=>qoY call k (args.map (opd tm)) h
 | .append sz bytes x y =>
   if qgs (opd tm x)=true then (match qd2 h sz (opd tm x) (opd tm y) with | some (v,h')=>some (.val v,h') | none=>none)
   else aOp pure call (.append sz bytes x y) tm h
 | o=>aOp pure call o tm h
def qeE (pure:Nat→Bool) (call:CallT):List Step→St→Option (AExit × St)
 | [],s=>some (.normal,s)
 | o :: rest,s =>
   match qaf o.guard s.tm with
   | some true =>
     (match qjV pure call o.op s.tm s.h with
     | some (.val v,h)=>qeE pure call rest ⟨upd s.tm o.dst v,h⟩
     | some (.panic v,h)=>some (.panic v,⟨s.tm,h⟩)
     | none=>none)
   | some false=>qeE pure call rest ⟨upd s.tm o.dst (.tuple []),s.h⟩
   | none=>none
def qaz:AOp→Bool
 | .alloc _ | .box _ | .store .. | .makeMap | .makeSlice .. | .mapUpdate .. | .append .. | .call .. | .hcall .. | .vcall .. | .appendV .. => true
 | _=>false
def qds (pure:Nat→Bool) (call:CallT):List Step→Tmps→List Heap→Heap→Option (Tmps × List Heap × Heap)
 | [],tm,hs,h=>some (tm,hs++[h],h)
 | o :: rest,tm,hs,h =>
   match qaf o.guard tm with
   | some true =>
     (match aOp pure call o.op tm h with
     | some (.val v,h')=>qds pure call rest (upd tm o.dst v) (if qaz o.op=true then hs++[h] else hs) h'
     | _=>none)
   | some false=>qds pure call rest (upd tm o.dst (.tuple [])) (if qaz o.op=true then hs++[h] else hs) h
   | none=>none
def qfd:CallT:=fun _ _ _=>none
def qkI (l:List Step) (tm:Tmps) (hs:List Heap) (c:Nat × Nat × Nat):Prop :=
 ∀ s d,l[c.1]? = some s→s.dst=some d→qaf s.guard tm=some true →
  ∀ k h,c.2.1≤k→k≤c.2.2→hs[k]? = some h→aOp (fun _=>false) qfd s.op tm h=some (.val (tm d),h)
open Classical in
noncomputable def qhw (pure:Nat→Bool) (call:CallT) (l:List Step) (checks:List (Nat × Nat × Nat)) (s:St):Option (AExit × St) :=
 match qds pure call l s.tm [] s.h with
 | some (tm,hs,h)=>if ∀ c∈checks,qkI l tm hs c then some (.normal,⟨tm,h⟩) else none
 | none=>none
def qe6 (n:Nat) (l:List Nat) (i:Nat):Option Nat:=if i<n then some i else qaC i l n
def qhf (n:Nat) (keep:List Nat) (s:St):List Nat:=qdR n (keep.flatMap (fun t=>qa9 (s.tm t))++(s.h.take n).flatMap qp9) []
def gc1 (n:Nat) (keep:List Nat) (s:St):St :=
 ⟨fun t => if t ∈ keep then ren (qe6 n (qhf n keep s)) (s.tm t) else .junk,
  (s.h.take n).map (qfp (qe6 n (qhf n keep s)))++(qhf n keep s).map fun id=>qfp (qe6 n (qhf n keep s)) ((s.h[id]?).getD .gone)⟩
def qmH:List Nat→Bool
 | []=>false
 | k::_=>decide (k=1000000)
def qCE (keep:List Nat) (s:St):St:=⟨fun t=>if t∈keep.drop 1 then s.tm t else .junk,s.h⟩
def gc (n:Nat) (keep:List Nat) (s:St):St:=if qmH keep=true then qCE keep s else if n≤s.h.length then gc1 n keep s else s
def gcE (n:Nat) (keep:List Nat) (r:AExit × St):AExit × St :=
 match r.1 with
 | .panic _=>r
 | e=>(e,gc n keep r.2)
def frzC (id sz:Nat) (cs:List AVal):AVal→AVal
 | .ptr (some (i,o))=>if i=id then .vptr cs o else .ptr (some (i,o))
 | .vec i m=>if i=id then (if sz=1∧m=cs.length then .list cs none else if 1<sz∧m*sz=cs.length then .list (qju sz m cs) none else .junk) else .vec i m
 | v=>v
def frz (id sz:Nat) (cs:List AVal):AVal→AVal
 | .agg vs=>.agg (vs.map (frzC id sz cs))
 | .tuple vs=>.tuple (vs.map (frzC id sz cs))
 | .func f a b=>.func f (a.map (frzC id sz cs)) (b.map (frzC id sz cs))
 | v=>frzC id sz cs v
def qlY (id sz:Nat) (cs:List AVal):AObj→AObj
 | .box vs=>.box (vs.map (frz id sz cs))
 | .vec vs z=>.vec (vs.map (frz id sz cs)) z
 | o=>o
def qjR (id sz:Nat) (cs:List AVal) (s:St):St :=
 if qax cs=true∧cs.all leaf=true then ⟨fun i=>frz id sz cs (s.tm i),(s.h.set id .gone).map (qlY id sz cs)⟩ else s
def qfI (t:Nat) (s:St):St :=
 match s.tm t with
 | .ptr (some (id,0))=>(match s.h[id]? with | some (.box cs)=>qjR id 0 (cs.map wipeCell) s | _=>s)
 | .vec id _=>(match s.h[id]? with | some (.vec cs sz)=>qjR id sz (cs.map wipeCell) s | _=>s)
 | _=>s
def qpz (needs:List (List Nat)) (S:List Bool):List Nat:=(List.range needs.length).filter fun i => !(S.getD i false) && (needs.getD i []).all fun j=>S.getD j false
def qja (needs:List (List Nat)):Nat→List Bool→List (List Nat)
 | 0,_=>[[]]
 | f+1,S=>if (qpz needs S).isEmpty=true then [[]] else (qpz needs S).flatMap fun i=>(qja needs f (S.set i true)).map (i::·)
def qn4 (l:List Step) (needs:List (List Nat)):List (List Step):=(qja needs needs.length (List.replicate needs.length false)).map fun is=>is.filterMap (l[·]?)
open Classical in
noncomputable def qwH (keep:List Nat) (l:List Step) (needs:List (List Nat)) (s:St):Option (AExit × St) :=
 if h:∃ r,∀ σ∈qn4 l needs,(qcq (fun _=>false) qfd σ s).map (gcE s.h.length keep)=some r then some (Classical.choose h) else none
def qdZ (body:St→Option (AExit × St)):Nat→St→Option (AExit × St)
 | 0,_=>none
 | n + 1,s =>
   match body s with
   | some (.normal,s')=>qdZ body n s'
   | r=>r
def qgC (s:ByteArray):Nat→Nat→List (AVal × AVal)
 | 0,_=>[]
 | n+1,p=>if p<s.size then (.int .i64 p,.int .i32 (Utf8.decode s p).1)::qgC s n (p+(Utf8.decode s p).2) else []
def qdU (id:Nat) (r:Option (AExit × St)):Option (AExit × St) :=
 match r with
 | some (.exit id',s')=>if id'=id then some (.normal,s') else some (.exit id',s')
 | r=>r
def qlN (run:St→Option (AExit × St)) (r:Option (AExit × St)):Option (AExit × St) :=
 match r with
 | some (.normal,s2)=>run s2
 | r=>r
def qrN (n:Nat) (k:RangeK) (s:St):Bool :=
 match s.tm k.it with
 | .ptr (some (i,o))=>i==n && o==0
 | _=>false
def qbr (ops:List Step→St→Option (AExit × St)) (n:Nat) (k:RangeK) (runB:St→Option (AExit × St)) (e:AVal × AVal) (s:St):Option (AExit × St) :=
 if qrN n k s=true then
  match ops k.r1 ⟨upd s.tm (some k.dn) (.tuple [.bool true,e.1,e.2]),s.h⟩ with
  | some (.normal,s1) =>
    if qrN n k s1=true then
     (match opd s1.tm k.c with
     | .bool true=>qdU k.id2 (qlN runB (ops k.r2 ⟨upd s1.tm k.de (.tuple [e.1,e.2]),s1.h⟩))
     | _=>none)
    else none
  | _=>none
 else none
def qb2 (ops:List Step→St→Option (AExit × St)) (n:Nat) (k:RangeK) (s:St):Option (AExit × St) :=
 if qrN n k s=true then
  match ops k.r1 ⟨upd s.tm (some k.dn) (.tuple [.bool false]),s.h⟩ with
  | some (.normal,s1)=>(match opd s1.tm k.c with | .bool false=>some (.normal,s1) | _=>none)
  | _=>none
 else none
def qbs (ops:List Step→St→Option (AExit × St)) (n:Nat) (k:RangeK) (runB:St→Option (AExit × St)):List (AVal × AVal)→St→Option (AExit × St)
 | [],s=>qb2 ops n k (gc (n+1) k.kr s)
 | e :: es,s =>
   match qbr ops n k runB e (gc (n+1) k.kr s) with
   | some (.normal,s')=>qbs ops n k runB es s'
   | r=>qdU k.id r
def ql9 (m:AVal) (h:Heap):Heap:=(match m with | .map (some r)=>h.set r .gone | _=>h)++[.gone]
def qcG (m:AVal) (h0 h:Heap):Heap:=match m with | .map (some r)=>h.set r ((h0[r]?).getD .gone) | _=>h
def qcR (str:Bool) (m:AVal) (h:Heap):Option (List (AVal × AVal)) :=
 match str,m with
 | true,.str s=>some (qgC s s.size 0)
 | false,m=>qpe h m
 | _,_=>none
def qcC (str:Bool) (es es':List (AVal × AVal)):Prop:=if str=true then es'=es else es'.Perm es
open Classical in
noncomputable def qop (O:List (AVal × AVal)→Prop) (f:List (AVal × AVal)→Option (AExit × St)):Option (AExit × St) :=
 if h:∃ r,∀ es,O es→f es=some r then some (Classical.choose h) else none
noncomputable def qlx (ops:List Step→St→Option (AExit × St)) (k:RangeK) (runB runC:St→Option (AExit × St)) (s:St):Option (AExit × St) :=
 match ops k.pre s with
 | some (.normal,s1) =>
   (match qcR k.str (opd s1.tm k.m) s1.h with
   | some es=>qop (qcC k.str es) fun es' =>
    (match qbs ops s1.h.length k runB es' ⟨upd s1.tm (some k.it) (.ptr (some (s1.h.length,0))),ql9 (opd s1.tm k.m) s1.h⟩ with
    | some (.normal,s2)=>runC ⟨s2.tm,qcG (opd s1.tm k.m) s1.h s2.h⟩
    | some (e,s2)=>some (e,⟨s2.tm,qcG (opd s1.tm k.m) s1.h s2.h⟩)
    | none=>none).map (gcE s.h.length k.keep)
   | none=>none)
 | _=>none
noncomputable def qaM (pure:Nat→Bool) (call:CallT) (n:Nat):ACode→St→Option (AExit × St)
 | .skip,s=>some (.normal,s)
 | .ops l,s=>qcq pure call l s
 | .draw l cs,s=>qhw pure call l cs s
 | .kops l,s=>qeE pure call l s
 | .view c,s=>qaM pure call n c (qp1 s)
 | .mdraw k l ns,s=>qwH k l ns s
 | .seq a b,s =>
   (match qaM pure call n a s with
   | some (.normal,s')=>qaM pure call n b s'
   | r=>r)
 | .cond c a b,s=>(match opd s.tm c with | .bool t=>if t then qaM pure call n a s else qaM pure call n b s | _=>none)
 | .block id c,s =>
   (match qaM pure call n c s with
   | some (.exit id',s')=>if id'=id then some (.normal,s') else some (.exit id',s')
   | r=>r)
 | .loop c,s=>qdZ (qaM pure call n c) n s
 | .gloop k c,s=>qdZ (fun s1=>qaM pure call n c (gc s.h.length k s1)) n s
 | .frame k c,s=>(qaM pure call n c s).map (gcE s.h.length k)
 | .freeze t c,s=>qaM pure call n c (qfI t s)
 | .range k b c,s=>qlx (qcq pure call) k (qaM pure call n b) (qaM pure call n c) s
 | .exit id,s=>some (.exit id,s)
 | .ret,s=>some (.ret,s)
 | .stuck,_=>none
def qae (tm:Tmps) (h:Heap):ARVar→Option AVal
 | .tmp t=>some (tm t)
 | .cell1 a=>qag h (tm a)
 | .cellN n a=>(qaS h (tm a) n).map .agg
 | .bad=>none
def qac (tm:Tmps) (h:Heap):List ARVar→Option (List AVal)
 | []=>some []
 | r :: rs =>
   match qae tm h r,qac tm h rs with
   | some v,some vs=>some (v::vs)
   | _,_=>none
def qaj:List AVal→AVal
 | [v]=>v
 | vs=>.tuple vs
def qew (args:List AVal):Tmps:=fun i=>(args[i]?).getD (.tuple [])
def qan (rs:List ARVar) (r:Option (AExit × St)):Option (ARes × Heap) :=
 match r with
 | some (.normal,s) | some (.ret,s)=>(match qac s.tm s.h rs with | some vs=>some (.val (qaj vs),s.h) | none=>none)
 | some (.panic v,s)=>some (.panic v,s.h)
 | _=>none
structure Lib where
 pure:Nat→Bool
 summ:Nat→Option (List AVal→Heap→Option (ARes × Heap))
 fns:Nat→Option AFn
noncomputable def qca (L:Lib):Nat→CallT
 | 0,_,_,_=>none
 | n + 1,f,args,h =>
   match L.summ f with
   | some s=>s args h
   | none =>
     match L.fns f with
     | some fn=>qan fn.results (qaM L.pure (qca L n) n fn.body ⟨qew args,h⟩)
     | none=>none
inductive All2 {α β:Type} (R:α→β→Prop):List α→List β→Prop
 | nil:All2 R [] []
 | cons {x:α} {y:β} {xs:List α} {ys:List β} (h:R x y) (hs:All2 R xs ys):All2 R (x::xs) (y::ys)
theorem All2.length {α β:Type} {R:α→β→Prop} {xs:List α} {ys:List β} (h:All2 R xs ys):xs.length=ys.length:=by
 induction h with
 | nil=>rfl
 | cons _ _ ih=>simp[ih]
theorem All2.imp {α β:Type} {R S:α→β→Prop} {xs:List α} {ys:List β} (h:All2 R xs ys) (f:∀ x∈xs,∀ y∈ys,R x y→S x y):All2 S xs ys:=by
 induction h with
 | nil=>exact .nil
 | cons h _ ih=>exact .cons (f _ (by simp) _ (by simp) h) (ih fun x hx y hy=>f x (by simp[hx]) y (by simp[hy]))
theorem All2.trans {α β γ:Type} {R:α→β→Prop} {S:β→γ→Prop} {T:α→γ→Prop}:∀ {xs:List α} {ys:List β} {zs:List γ},All2 R xs ys→All2 S ys zs→(∀ x∈xs,∀ y∈ys,∀ z∈zs,R x y→S y z→T x z)→All2 T xs zs
 | _,_,_,.nil,.nil,_=>.nil
 | _,_,_,.cons h hs,.cons k ks,f=>.cons (f _ (by simp) _ (by simp) _ (by simp) h k) (hs.trans ks fun x hx y hy z hz=>f x (by simp[hx]) y (by simp[hy]) z (by simp[hz]))
theorem All2.refl {α:Type} {R:α→α→Prop}:∀ {xs:List α},(∀ x∈xs,R x x)→All2 R xs xs
 | [],_=>.nil
 | x::xs,h=>.cons (h x (by simp)) (All2.refl fun y hy=>h y (by simp[hy]))
abbrev T0:=Opd.tmp 0
abbrev T1:=Opd.tmp 1
abbrev T2:=Opd.tmp 2
abbrev T3:=Opd.tmp 3
abbrev T4:=Opd.tmp 4
abbrev T5:=Opd.tmp 5
abbrev T6:=Opd.tmp 6
abbrev T7:=Opd.tmp 7
abbrev T8:=Opd.tmp 8
abbrev T9:=Opd.tmp 9
abbrev T10:=Opd.tmp 10
abbrev T11:=Opd.tmp 11
abbrev T12:=Opd.tmp 12
abbrev T13:=Opd.tmp 13
abbrev T14:=Opd.tmp 14
abbrev T15:=Opd.tmp 15
abbrev T16:=Opd.tmp 16
abbrev T17:=Opd.tmp 17
abbrev T18:=Opd.tmp 18
abbrev T19:=Opd.tmp 19
abbrev T20:=Opd.tmp 20
abbrev T21:=Opd.tmp 21
abbrev T22:=Opd.tmp 22
abbrev T23:=Opd.tmp 23
abbrev T24:=Opd.tmp 24
abbrev T25:=Opd.tmp 25
abbrev T26:=Opd.tmp 26
abbrev T27:=Opd.tmp 27
abbrev T28:=Opd.tmp 28
abbrev T29:=Opd.tmp 29
abbrev T30:=Opd.tmp 30
abbrev T31:=Opd.tmp 31
abbrev T32:=Opd.tmp 32
abbrev T33:=Opd.tmp 33
abbrev T34:=Opd.tmp 34
abbrev T35:=Opd.tmp 35
abbrev T36:=Opd.tmp 36
abbrev T37:=Opd.tmp 37
abbrev T38:=Opd.tmp 38
abbrev T39:=Opd.tmp 39
abbrev T40:=Opd.tmp 40
abbrev T41:=Opd.tmp 41
abbrev T42:=Opd.tmp 42
abbrev T43:=Opd.tmp 43
abbrev T44:=Opd.tmp 44
abbrev T45:=Opd.tmp 45
abbrev T46:=Opd.tmp 46
abbrev T47:=Opd.tmp 47
abbrev T48:=Opd.tmp 48
abbrev T49:=Opd.tmp 49
abbrev T50:=Opd.tmp 50
abbrev T51:=Opd.tmp 51
abbrev T52:=Opd.tmp 52
abbrev T53:=Opd.tmp 53
abbrev T54:=Opd.tmp 54
abbrev T55:=Opd.tmp 55
abbrev T56:=Opd.tmp 56
abbrev T57:=Opd.tmp 57
abbrev T58:=Opd.tmp 58
abbrev T59:=Opd.tmp 59
abbrev T60:=Opd.tmp 60
abbrev T61:=Opd.tmp 61
abbrev T62:=Opd.tmp 62
abbrev T63:=Opd.tmp 63
abbrev T64:=Opd.tmp 64
abbrev T65:=Opd.tmp 65
abbrev T66:=Opd.tmp 66
abbrev T67:=Opd.tmp 67
abbrev T68:=Opd.tmp 68
abbrev T69:=Opd.tmp 69
abbrev T70:=Opd.tmp 70
abbrev T71:=Opd.tmp 71
abbrev T72:=Opd.tmp 72
abbrev T73:=Opd.tmp 73
abbrev T74:=Opd.tmp 74
abbrev T75:=Opd.tmp 75
abbrev T76:=Opd.tmp 76
abbrev T77:=Opd.tmp 77
abbrev T78:=Opd.tmp 78
abbrev T79:=Opd.tmp 79
abbrev T80:=Opd.tmp 80
abbrev T81:=Opd.tmp 81
abbrev T82:=Opd.tmp 82
abbrev T83:=Opd.tmp 83
abbrev T84:=Opd.tmp 84
abbrev T85:=Opd.tmp 85
abbrev T86:=Opd.tmp 86
abbrev T87:=Opd.tmp 87
abbrev T88:=Opd.tmp 88
abbrev T89:=Opd.tmp 89
abbrev T90:=Opd.tmp 90
abbrev T91:=Opd.tmp 91
abbrev T92:=Opd.tmp 92
abbrev T93:=Opd.tmp 93
abbrev T94:=Opd.tmp 94
abbrev T95:=Opd.tmp 95
abbrev T96:=Opd.tmp 96
abbrev T97:=Opd.tmp 97
abbrev T98:=Opd.tmp 98
abbrev T99:=Opd.tmp 99
abbrev T100:=Opd.tmp 100
abbrev T101:=Opd.tmp 101
abbrev T102:=Opd.tmp 102
abbrev T103:=Opd.tmp 103
abbrev T104:=Opd.tmp 104
abbrev T105:=Opd.tmp 105
abbrev T106:=Opd.tmp 106
abbrev T107:=Opd.tmp 107
abbrev T108:=Opd.tmp 108
abbrev T109:=Opd.tmp 109
abbrev T110:=Opd.tmp 110
abbrev T111:=Opd.tmp 111
abbrev T112:=Opd.tmp 112
abbrev T113:=Opd.tmp 113
abbrev T114:=Opd.tmp 114
abbrev T115:=Opd.tmp 115
abbrev T116:=Opd.tmp 116
abbrev T117:=Opd.tmp 117
abbrev T118:=Opd.tmp 118
abbrev T119:=Opd.tmp 119
abbrev T120:=Opd.tmp 120
abbrev T121:=Opd.tmp 121
abbrev T122:=Opd.tmp 122
abbrev T123:=Opd.tmp 123
abbrev T124:=Opd.tmp 124
abbrev T125:=Opd.tmp 125
abbrev T126:=Opd.tmp 126
abbrev T127:=Opd.tmp 127
abbrev T128:=Opd.tmp 128
abbrev T129:=Opd.tmp 129
abbrev T130:=Opd.tmp 130
abbrev T131:=Opd.tmp 131
abbrev T132:=Opd.tmp 132
abbrev T133:=Opd.tmp 133
abbrev T134:=Opd.tmp 134
abbrev T135:=Opd.tmp 135
abbrev T136:=Opd.tmp 136
abbrev T137:=Opd.tmp 137
abbrev T138:=Opd.tmp 138
abbrev T139:=Opd.tmp 139
abbrev T140:=Opd.tmp 140
abbrev T141:=Opd.tmp 141
abbrev T142:=Opd.tmp 142
abbrev T143:=Opd.tmp 143
abbrev T144:=Opd.tmp 144
abbrev T145:=Opd.tmp 145
abbrev T146:=Opd.tmp 146
abbrev T147:=Opd.tmp 147
abbrev T148:=Opd.tmp 148
abbrev T149:=Opd.tmp 149
abbrev T150:=Opd.tmp 150
abbrev T151:=Opd.tmp 151
abbrev T152:=Opd.tmp 152
abbrev T153:=Opd.tmp 153
abbrev T154:=Opd.tmp 154
abbrev T155:=Opd.tmp 155
abbrev T156:=Opd.tmp 156
abbrev T157:=Opd.tmp 157
abbrev T158:=Opd.tmp 158
abbrev T159:=Opd.tmp 159
abbrev T160:=Opd.tmp 160
abbrev T161:=Opd.tmp 161
abbrev T162:=Opd.tmp 162
abbrev T163:=Opd.tmp 163
abbrev T164:=Opd.tmp 164
abbrev T165:=Opd.tmp 165
abbrev T166:=Opd.tmp 166
abbrev T167:=Opd.tmp 167
abbrev T168:=Opd.tmp 168
abbrev T169:=Opd.tmp 169
abbrev T170:=Opd.tmp 170
abbrev T171:=Opd.tmp 171
abbrev T172:=Opd.tmp 172
abbrev T173:=Opd.tmp 173
abbrev T174:=Opd.tmp 174
abbrev T175:=Opd.tmp 175
abbrev T176:=Opd.tmp 176
abbrev T177:=Opd.tmp 177
abbrev T178:=Opd.tmp 178
abbrev T179:=Opd.tmp 179
abbrev T180:=Opd.tmp 180
abbrev T181:=Opd.tmp 181
abbrev T182:=Opd.tmp 182
abbrev T183:=Opd.tmp 183
abbrev T184:=Opd.tmp 184
abbrev T185:=Opd.tmp 185
abbrev T186:=Opd.tmp 186
abbrev T187:=Opd.tmp 187
abbrev T188:=Opd.tmp 188
abbrev T189:=Opd.tmp 189
abbrev T190:=Opd.tmp 190
abbrev T191:=Opd.tmp 191
abbrev T192:=Opd.tmp 192
abbrev T193:=Opd.tmp 193
abbrev T194:=Opd.tmp 194
abbrev T195:=Opd.tmp 195
abbrev T196:=Opd.tmp 196
abbrev T197:=Opd.tmp 197
abbrev T198:=Opd.tmp 198
abbrev T199:=Opd.tmp 199
abbrev T200:=Opd.tmp 200
abbrev T201:=Opd.tmp 201
abbrev T202:=Opd.tmp 202
abbrev T203:=Opd.tmp 203
abbrev T204:=Opd.tmp 204
abbrev T205:=Opd.tmp 205
abbrev T206:=Opd.tmp 206
abbrev T207:=Opd.tmp 207
abbrev T208:=Opd.tmp 208
abbrev T209:=Opd.tmp 209
abbrev T210:=Opd.tmp 210
abbrev T211:=Opd.tmp 211
abbrev T212:=Opd.tmp 212
abbrev T213:=Opd.tmp 213
abbrev T214:=Opd.tmp 214
abbrev T215:=Opd.tmp 215
abbrev T216:=Opd.tmp 216
abbrev T217:=Opd.tmp 217
abbrev T218:=Opd.tmp 218
abbrev T219:=Opd.tmp 219
abbrev T220:=Opd.tmp 220
abbrev T221:=Opd.tmp 221
abbrev I_ (n:Int):=Opd.val (.int .i64 n)
abbrev B1_:=Opd.val (.bool true)
abbrev B0_:=Opd.val (.bool false)
abbrev S_ (d:Nat) (o:AOp):Step:=⟨some d,none,o⟩
abbrev M_ (d:Nat) (x:Opd):Step:=⟨some d,none,.move x⟩
abbrev N_ (o:AOp):Step:=⟨none,none,o⟩
abbrev G_ (d g:Nat) (b:Bool) (o:AOp):Step:=⟨some d,some (some g,b),o⟩
abbrev H_ (d g:Nat) (b:Bool) (x:Opd):Step:=⟨some d,some (some g,b),.move x⟩
end Go.Abs
