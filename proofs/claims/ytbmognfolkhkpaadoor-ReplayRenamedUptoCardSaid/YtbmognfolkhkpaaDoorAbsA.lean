/-
  The abstract machine: values in which a slice that nobody writes is a plain list, resolved code, and an interpreter of it. Definitions alone; conditions: none.
-/
import Derived.Calls
import Derived.Orders
set_option linter.unusedVariables false
namespace Go.Abs
inductive AVal where
 | junk
 | bool (b:Bool)
 | int (k:IntKind) (n:Int)
 | str (s:ByteArray)
 | list (xs:List AVal) (own:Option (Option Nat))
 | ref (id off len:Nat)
 | vec (id n:Nat)
 | ptr (a:Option (Nat × Nat))
 | vptr (cells:List AVal) (off:Nat)
 | map (r:Option Nat)
 | func (f:Nat) (first captured:List AVal)
 | nilFunc
 | iface (t:Nat) (v:AVal)
 | nilIface
 | agg (cells:List AVal)
 | tuple (vs:List AVal)
 deriving Inhabited
inductive AObj where
 | gone
 | box (cells:List AVal)
 | map (es:List (AVal × AVal))
 | tail (n sz:Nat)
 | vec (cells:List AVal) (sz:Nat)
 deriving Inhabited
abbrev Heap:=List AObj
abbrev Tmps:=Nat→AVal
inductive ARes where
 | val (v:AVal)
 | panic (v:AVal)
inductive AExit where
 | normal
 | exit (id:Nat)
 | ret
 | panic (v:AVal)
structure St where
 tm:Tmps
 h:Heap
abbrev CallT:=Nat→List AVal→Heap→Option (ARes × Heap)
inductive Opd where
 | tmp (t:Nat)
 | val (v:AVal)
 deriving Inhabited
inductive EqK where
 | bool | pointer | map | func | none
 deriving DecidableEq,Inhabited
inductive LenK where
 | str | slice | map
 deriving DecidableEq,Inhabited
inductive KeyK where
 | int | string | bool
 deriving DecidableEq,Inhabited
inductive AOp where
 | move (x:Opd)
 | pick (c a b:Opd)
 | alloc (cells:List AVal)
 | box (x:Opd)
 | build (zero:List AVal) (parts:List (Nat × Nat × Opd))
 | buildSlice (sz:Nat) (parts:List Opd)
 | load1 (a:Opd)
 | loadN (n:Nat) (a:Opd)
 | store (n:Nat) (a x:Opd)
 | field (off:Nat) (a:Opd)
 | part1 (off:Nat) (x:Opd)
 | partN (off n:Nat) (x:Opd)
 | indexList (sz:Nat) (x i:Opd)
 | indexArr (len sz:Nat) (x i:Opd)
 | indexStr (x i:Opd)
 | slice (sz:Nat) (x:Opd) (lo hi mx:Option Opd)
 | sliceStr (x:Opd) (lo hi:Option Opd)
 | bin (op:BinOp) (k:EqK) (x y:Opd)
 | un (op:UnOp) (x:Opd)
 | makeFunc (f:Nat) (first cap:List Opd)
 | makeMap
 | makeSlice (z:AVal) (l c:Opd)
 | lookup (k:KeyK) (zero:AVal) (ok:Bool) (m x:Opd)
 | mapUpdate (k:KeyK) (m x v:Opd)
 | extract (i:Nat) (x:Opd)
 | len (k:LenK) (x:Opd)
 | append (sz bytes:Nat) (x y:Opd)
 | minMax (max:Bool) (xs:List Opd)
 | call (f:Opd) (args:List Opd)
 | pcall (f:Nat) (args:List Opd)
 | pcallV (f:Opd) (args:List Opd)
 | hcall (f:Opd) (args:List Opd)
 | vcall (f:Nat) (args:List Opd)
 | appendV (sz bytes:Nat) (x y:Opd)
 | nilCheck (x:Opd)
 | conv (k:IntKind) (x:Opd)
 | convS (x:Opd)
 | makeIface (t:Nat) (x:Opd)
 | stuck
 deriving Inhabited
structure Step where
 dst:Option Nat
 guard:Option (Option Nat × Bool)
 op:AOp
 deriving Inhabited
structure RangeK where
 pre:List Step
 m:Opd
 it:Nat
 dn:Nat
 r1:List Step
 c:Opd
 id:Nat
 id2:Nat
 de:Option Nat
 r2:List Step
 str:Bool
 kr:List Nat
 keep:List Nat
 deriving Inhabited
inductive ACode where
 | skip
 | ops (l:List Step)
 | draw (l:List Step) (checks:List (Nat × Nat × Nat))
 | kops (l:List Step)
 | view (c:ACode)
 | mdraw (keep:List Nat) (l:List Step) (needs:List (List Nat))
 | seq (a b:ACode)
 | cond (c:Opd) (thn els:ACode)
 | block (id:Nat) (body:ACode)
 | loop (body:ACode)
 | gloop (keep:List Nat) (body:ACode)
 | frame (keep:List Nat) (body:ACode)
 | freeze (t:Nat) (body:ACode)
 | range (k:RangeK) (b after:ACode)
 | exit (id:Nat)
 | ret
 | stuck
 deriving Inhabited
inductive ARVar where
 | tmp (t:Nat)
 | cell1 (a:Nat)
 | cellN (n a:Nat)
 | bad
 deriving Inhabited
structure AFn where
 results:List ARVar
 body:ACode
 deriving Inhabited
def acells:AVal→List AVal
 | .agg cs=>cs
 | v=>[v]
def leaf:AVal→Bool
 | .agg _ | .tuple _ | .junk=>false
 | _=>true
def qfb:AVal→Bool
 | .junk=>false
 | _=>true
def wipeCell:AVal→AVal
 | .list xs _=>.list xs none
 | v=>v
def wipe:AVal→AVal
 | .agg cs=>.agg (cs.map wipeCell)
 | v=>wipeCell v
def wipeR:AVal→AVal
 | .tuple cs=>.tuple (cs.map wipe)
 | v=>wipe v
mutual
def qa2:AVal→Bool
 | .list xs own=>qaZ xs && (match own with | some (some _)=>false | _=>true)
 | .ref .. => false
 | .vec .. => false
 | .ptr a=>a.isNone
 | .vptr cs _=>qaZ cs
 | .map r=>r.isNone
 | .func _ a b=>qaZ a && qaZ b
 | .iface _ v=>qa2 v
 | .agg cs=>qaZ cs
 | .tuple vs=>qaZ vs
 | _=>true
def qaZ:List AVal→Bool
 | []=>true
 | v::vs=>qa2 v && qaZ vs
end
def upd (tm:Tmps) (d:Option Nat) (v:AVal):Tmps :=
 match d with
 | none=>tm
 | some d=>fun i=>if i=d then v else tm i
def opd (tm:Tmps):Opd→AVal
 | .tmp t=>tm t
 | .val v=>v
def qaT (cs:List AVal) (off:Nat) (vs:List AVal):List AVal:=cs.take off++vs++cs.drop (off+vs.length)
def qbG (h:Heap) (a:AVal) (n:Nat):Option (List AVal) :=
 match a with
 | .ptr (some (id,off)) =>
   match h[id]? with
   | some (.box cs)=>if off+n≤cs.length then some ((cs.drop off).take n) else none
   | some (.vec cs _)=>if off+n≤cs.length then some ((cs.drop off).take n) else none
   | _=>none
 | .vptr cs off=>if off+n≤cs.length then some ((cs.drop off).take n) else none
 | _=>none
def qaF (h:Heap) (a:AVal):Option AVal :=
 match a with
 | .ptr (some (id,off))=>(match h[id]? with | some (.box cs)=>cs[off]? | some (.vec cs _)=>cs[off]? | _=>none)
 | .vptr cs off=>cs[off]?
 | _=>none
def qbC (h:Heap) (n:Nat) (a v:AVal):Option Heap :=
 match a with
 | .ptr (some (id,off)) =>
   match h[id]? with
   | some (.box cs) =>
     if (acells v).length=n∧off+n≤cs.length∧(acells v).all leaf=true then some (h.set id (.box (qaT cs off (acells v)))) else none
   | some (.vec cs sz) =>
     if (acells v).length=n∧off+n≤cs.length∧(acells v).all leaf=true then some (h.set id (.vec (qaT cs off (acells v)) sz)) else none
   | _=>none
 | _=>none
def qeA (cells:List AVal):List (Nat × Nat × AVal)→Option (List AVal)
 | []=>some cells
 | (off,size,v) :: rest =>
   if qfb v=true∧(acells v).length=size∧off+size≤cells.length then qeA (qaT cells off (acells v)) rest else none
def qaK (off:Nat) (x:AVal):Option AVal :=
 match x with
 | .ptr (some (id,o))=>some (.ptr (some (id,o+off)))
 | .vptr cs o=>some (.vptr cs (o+off))
 | _=>none
def qpm (off:Nat) (x:AVal):Option AVal :=
 match x with
 | .agg cs=>cs[off]?
 | _=>none
def qrc (off n:Nat) (x:AVal):Option AVal :=
 match x with
 | .agg cs=>if off+n≤cs.length then some (.agg ((cs.drop off).take n)) else none
 | _=>none
def qaE (sz:Nat) (x ix:AVal):Option AVal :=
 match x,ix with
 | .list xs _,.int _ i =>
   if 0≤i then
    match xs[i.toNat]? with
    | some v=>if (acells v).length=sz then some (.vptr (acells v) 0) else none
    | none=>none
   else none
 | .ref id off len,.int _ i=>if 0≤i∧i<len∧sz=1 then some (.ptr (some (id,off+i.toNat))) else none
 | .vec id n,.int _ i=>if 0≤i∧i<n then some (.ptr (some (id,i.toNat*sz))) else none
 | _,_=>none
def qh8 (len sz:Nat) (x ix:AVal):Option AVal :=
 match x,ix with
 | .vptr cs off,.int _ i=>if 0≤i∧i<len then some (.vptr cs (off+i.toNat*sz)) else none
 | .ptr (some (id,off)),.int _ i=>if 0≤i∧i<len then some (.ptr (some (id,off+i.toNat*sz))) else none
 | _,_=>none
def qj6 (x ix:AVal):Option AVal :=
 match x,ix with
 | .str s,.int _ i=>if 0≤i then (s[i.toNat]?).map fun b=>.int .u8 b.toNat else none
 | _,_=>none
def qfm (d:Nat):Option AVal→Option Int
 | none=>some d
 | some (.int _ n)=>some n
 | _=>none
def qj8 (x:AVal) (lo hi:Option AVal):Option AVal :=
 match x with
 | .str s =>
   match qfm 0 lo,qfm s.size hi with
   | some l,some h=>if 0≤l∧l≤h∧h≤s.size then some (.str (s.extract l.toNat h.toNat)) else none
   | _,_=>none
 | _=>none
def qfo (sz:Nat) (x:AVal) (lo hi mx:Option AVal):Option AVal :=
 match x with
 | .list xs own =>
   match qfm 0 lo,qfm xs.length hi with
   | some l,some h =>
     if 0≤l∧l≤h∧h≤xs.length∧(xs.all fun v=>(acells v).length=sz)=true then
      match mx with
      | none=>some (.list ((xs.take h.toNat).drop l.toNat) none)
      | some (.int _ m)=>if hi.isSome=true∧h≤m∧m≤xs.length then some (.list ((xs.take h.toNat).drop l.toNat) (if m=h then some none else none)) else none
      | _=>none
     else none
   | _,_=>none
 | .ref id off len =>
   match qfm 0 lo,qfm len hi,mx with
   | some l,some h,none=>if 0≤l∧l≤h∧h≤len∧sz=1 then (if l=h then some (.list [] none) else some (.ref id (off+l.toNat) (h-l).toNat)) else none
   | _,_,_=>none
 | _=>none
def qdR:AVal→AVal→Option Bool
 | .int k a,.int k' b=>if k=k' then some (a==b) else none
 | .str a,.str b=>some (decide (a=b))
 | .bool a,.bool b=>some (a==b)
 | _,_=>none
def qbT (k:AVal):List (AVal × AVal)→Nat→Option (Option (Nat × AVal))
 | [],_=>some none
 | e :: es,i =>
   match qdR k e.1 with
   | some true=>some (some (i,e.2))
   | some false=>qbT k es (i+1)
   | none=>none
def qxR:AVal→AVal→Bool
 | .int _ a,.int _ b=>decide (a<b)
 | .str a,.str b=>Op.bytesLess a.toList b.toList
 | .bool a,.bool b => !a && b
 | _,_=>false
def qxw (k v:AVal):List (AVal × AVal)→List (AVal × AVal)
 | []=>[(k,v)]
 | e::es=>if qxR k e.1=true then (k,v)::e::es else e::qxw k v es
def qxk (k v:AVal) (es:List (AVal × AVal)):List (AVal × AVal):=es.map fun e=>if qdR k e.1=some true then (k,v) else e
def qdS:KeyK→AVal→Bool
 | .int,.int _ _ | .string,.str _ | .bool,.bool _=>true
 | _,_=>false
def qnL (h:Heap):AVal→Option (List (AVal × AVal))
 | .map none=>some []
 | .map (some r)=>(match h[r]? with | some (.map es)=>some es | _=>none)
 | _=>none
def qiR (h:Heap) (kk:KeyK) (zero:AVal) (ok:Bool) (m k:AVal):Option AVal :=
 if qdS kk k=true then
  match qnL h m with
  | some es =>
    match qbT k es 0 with
    | some (some (_,v))=>some (if ok then .tuple [v,.bool true] else v)
    | some none=>some (if ok then .tuple [zero,.bool false] else zero)
    | none=>none
  | none=>none
 else none
def qeY (h:Heap) (kk:KeyK) (m k v:AVal):Option Heap :=
 match m with
 | .map (some r) =>
   match h[r]? with
   | some (.map es) =>
     if qdS kk k=true then
      match qbT k es 0 with
      | some (some (_,_))=>some (h.set r (.map (qxk k (wipe v) es)))
      | some none=>some (h.set r (.map (qxw k (wipe v) es)))
      | none=>none
     else none
   | _=>none
 | _=>none
def qgU:Nat:=2 ^ 30
def qbM (h:Heap) (sz bytes:Nat) (x y:AVal):Option (AVal × Heap) :=
 match x,y with
 | .list xs own,.list ys _ =>
   if ys=[] then some (x,h)
   else if (xs.all fun v=>(acells v).length=sz)=true∧(ys.all fun v=>(acells v).length=sz)=true∧xs.length+ys.length≤qgU then
    match own with
    | some none=>some (.list (xs++ys) (some (some h.length)),h++[.tail (xs.length+ys.length) sz])
    | some (some id) =>
      (match h[id]? with
      | some (.tail n sz')=>if n=xs.length∧sz'=sz then some (.list (xs++ys) (some (some id)),h.set id (.tail (xs.length+ys.length) sz)) else none
      | _=>none)
    | none=>none
   else none
 | .vec id n,.list ys _ =>
   if ys=[] then some (.vec id n,h)
   else match h[id]? with
    | some (.vec cs sz') =>
      if sz'=sz∧cs.length=n*sz∧(ys.all fun v=>(acells v).length=sz)=true∧n+ys.length≤qgU then
       some (.vec h.length (n+ys.length),h.set id .gone++[.vec (cs++ys.flatMap acells) sz])
      else none
    | _=>none
 | _,_=>none
def qf3 (h:Heap) (sz:Nat) (x y:AVal):Option (AVal × Heap) :=
 match x,y with
 | .list [] (some none),.list ys _ =>
   if ys=[] then some (.list [] (some none),h)
   else if (ys.all fun v=>(acells v).length=sz)=true∧ys.length≤qgU then some (.vec h.length ys.length,h++[.vec (ys.flatMap acells) sz])
   else none
 | x,y=>qbM h sz 0 x y
def qco (h:Heap) (k:LenK) (x:AVal):Option AVal :=
 match k,x with
 | .str,.str s=>some (.int .i64 s.size)
 | .slice,.list xs _=>some (.int .i64 xs.length)
 | .slice,.ref _ _ n=>some (.int .i64 n)
 | .slice,.vec _ n=>some (.int .i64 n)
 | .map,.map none=>some (.int .i64 0)
 | .map,.map (some r)=>(match h[r]? with | some (.map es)=>some (.int .i64 es.length) | _=>none)
 | _,_=>none
def qbg (op:BinOp) (k:IntKind) (x y:Int):Option AVal :=
 match op with
 | .add=>some (.int k (k.wrap (x+y)))
 | .sub=>some (.int k (k.wrap (x-y)))
 | .mul=>some (.int k (k.wrap (x*y)))
 | .quo=>if y=0 then none else some (.int k (k.wrap (x.tdiv y)))
 | .rem=>if y=0 then none else some (.int k (x.tmod y))
 | .and=>some (.int k (k.wrap ((BitVec.ofInt k.bits x &&& BitVec.ofInt k.bits y).toNat)))
 | .or=>some (.int k (k.wrap ((BitVec.ofInt k.bits x ||| BitVec.ofInt k.bits y).toNat)))
 | .xor=>some (.int k (k.wrap ((BitVec.ofInt k.bits x ^^^ BitVec.ofInt k.bits y).toNat)))
 | .andNot=>some (.int k (k.wrap ((BitVec.ofInt k.bits x &&& ~~~BitVec.ofInt k.bits y).toNat)))
 | .eql=>some (.bool (x==y))
 | .neq=>some (.bool (x != y))
 | .lss=>some (.bool (x<y))
 | .leq=>some (.bool (x≤y))
 | .gtr=>some (.bool (x > y))
 | .geq=>some (.bool (x≥y))
 | _=>none
def qyj (op:BinOp) (x y:ByteArray):Option AVal :=
 match op with
 | .add=>if x.size+y.size≤2 ^ 60 then some (.str (x++y)) else none
 | .eql=>some (.bool (decide (x=y)))
 | .neq=>some (.bool !(decide (x=y)))
 | .lss=>some (.bool (Op.bytesLess x.toList y.toList))
 | .leq=>some (.bool (Op.bytesLess x.toList y.toList || decide (x=y)))
 | .gtr=>some (.bool !(Op.bytesLess x.toList y.toList || decide (x=y)))
 | .geq=>some (.bool !(Op.bytesLess x.toList y.toList))
 | _=>none
def aEq (k:EqK) (x y:AVal):Option Bool :=
 match k,x,y with
 | .bool,.bool a,.bool b=>some (a==b)
 | .pointer,.ptr none,.ptr b=>some b.isNone
 | .pointer,.ptr (some _),.ptr none=>some false
 | .pointer,.ptr none,.vptr _ _=>some false
 | .pointer,.vptr _ _,.ptr none=>some false
 | .map,.map none,.map b=>some b.isNone
 | .map,.map (some _),.map none=>some false
 | .func,.nilFunc,.nilFunc=>some true
 | .func,.nilFunc,.func _ _ _=>some false
 | .func,.func _ _ _,.nilFunc=>some false
 | _,_,_=>none
def qrd (op:BinOp) (k:IntKind) (a b:Int):Option AVal :=
 if b<0 then none else
 match op with
 | .shl=>some (.int k (k.wrap (a*2 ^ (min b.toNat k.bits))))
 | .shr=>some (.int k (a.fdiv (2 ^ (min b.toNat k.bits))))
 | _=>none
def qaj:BinOp→Bool
 | .shl | .shr=>true
 | _=>false
def qbh (op:BinOp) (kk:EqK) (x y:AVal):Option AVal :=
 match x,y with
 | .int k a,.int k' b=>if qaj op=true then qrd op k a b else if k=k' then qbg op k a b else none
 | .str a,.str b=>qyj op a b
 | x,y =>
   match op with
   | .eql=>(aEq kk x y).map .bool
   | .neq=>(aEq kk x y).map fun b=>.bool !b
   | _=>none
def aUn (op:UnOp) (x:AVal):Option AVal :=
 match op,x with
 | .neg,.int k n=>some (.int k (k.wrap (0-n)))
 | .not,.bool b=>some (.bool !b)
 | _,_=>none
def qf4 (max:Bool) (xs:List AVal):Option AVal :=
 match xs with
 | [.int k x,.int k' y]=>if k=k' then some (.int k (if max then (if y > x then y else x) else (if y<x then y else x))) else none
 | _=>none
def renC (ρ:Nat→Option Nat) (v:AVal):AVal :=
 if qa2 v=true then v else
 match v with
 | .list xs (some (some id))=>if qaZ xs=true then (match ρ id with | some j=>.list xs (some (some j)) | none=>.list xs none) else .junk
 | .ptr (some (id,off))=>(match ρ id with | some j=>.ptr (some (j,off)) | none=>.junk)
 | .ref id off len=>(match ρ id with | some j=>.ref j off len | none=>.junk)
 | .vec id n=>(match ρ id with | some j=>.vec j n | none=>.junk)
 | .map (some id)=>(match ρ id with | some j=>.map (some j) | none=>.junk)
 | _=>.junk
def ren (ρ:Nat→Option Nat) (v:AVal):AVal :=
 if qa2 v=true then v else
 match v with
 | .agg cs=>.agg (cs.map (renC ρ))
 | .tuple cs=>.tuple (cs.map (renC ρ))
 | .func f a b=>.func f (a.map (renC ρ)) (b.map (renC ρ))
 | v=>renC ρ v
def qf2 (ρ:Nat→Option Nat):AObj→AObj
 | .gone=>.gone
 | .box cs=>.box (cs.map (ren ρ))
 | .map es=>.map (es.map fun e=>(ren ρ e.1,ren ρ e.2))
 | .tail n sz=>.tail n sz
 | .vec cs sz=>.vec (cs.map (ren ρ)) sz
def qca (v:AVal):List Nat :=
 if qa2 v=true then [] else
 match v with
 | .list _ (some (some id))=>[id]
 | .ptr (some (id,_))=>[id]
 | .ref id _ _=>[id]
 | .vec id _=>[id]
 | .map (some id)=>[id]
 | _=>[]
def qbW (v:AVal):List Nat :=
 if qa2 v=true then [] else
 match v with
 | .agg cs=>cs.flatMap qca
 | .tuple cs=>cs.flatMap qca
 | .func _ a b=>a.flatMap qca++b.flatMap qca
 | v=>qca v
def qox:AObj→List Nat
 | .gone=>[]
 | .box cs=>cs.flatMap qbW
 | .map es=>es.flatMap fun e=>qbW e.1++qbW e.2
 | .tail _ _=>[]
 | .vec cs _=>cs.flatMap qbW
def qeC (n:Nat):List Nat→List Nat→List Nat
 | [],acc=>acc
 | i::is,acc=>qeC n is (if n≤i∧i∉acc then acc++[i] else acc)
def qaU (i:Nat):List Nat→Nat→Option Nat
 | [],_=>none
 | x::xs,k=>if x=i then some k else qaU i xs (k+1)
def qjm (sz:Nat):Nat→List AVal→List AVal
 | 0,_=>[]
 | m+1,cs=>.agg (cs.take sz)::qjm sz m (cs.drop sz)
def qeW (h:Heap) (f:AVal→AVal) (v:AVal):AVal :=
 match v with
 | .ptr (some (id,off)) =>
   (match h[id]? with
   | some (.box cs)=>if cs.all leaf=true then .vptr (cs.map f) off else .junk
   | _=>.junk)
 | .vec id m =>
   (match h[id]? with
   | some (.vec cs sz) =>
     if cs.all leaf=true then
      (if sz=1∧m=cs.length then .list (cs.map f) none
      else if 1<sz∧m*sz=cs.length then .list (qjm sz m (cs.map f)) none else .junk)
     else .junk
   | _=>.junk)
 | .list xs _ =>
   if qaZ xs=true then .list xs none
   else if (xs.map fun x=>(acells (f x)).length)=xs.map fun x=>(acells x).length then .list (xs.map f) none else .junk
 | .agg cs=>.agg (cs.map f)
 | .tuple cs=>.tuple (cs.map f)
 | .func g a b=>.func g (a.map f) (b.map f)
 | _=>.junk
def qbV (h:Heap):Nat→AVal→AVal
 | 0,v=>if qa2 v=true then wipe v else .junk
 | n+1,v=>if qa2 v=true then wipe v else qeW h (qbV h n) v
def viewV (h:Heap) (v:AVal):AVal:=qbV h 2000 v
def lookV (h:Heap) (v:AVal):AVal:=wipe (viewV h v)
def qgB (h:Heap) (v:AVal):AVal:=if qa2 (wipeR v)=true then wipeR v else wipeR (viewV h v)
def qop (s:St):St:=⟨fun i=>viewV s.h (s.tm i),s.h.map fun _=>.gone⟩
def grow (h:Heap) (l:List Nat):List Nat:=qeC 0 (l.flatMap fun i=>qox ((h[i]?).getD .gone)) l
def qct (args:List AVal) (h:Heap):List Nat:=grow h (grow h (grow h (qeC 0 (args.flatMap qbW) [])))
def qdV (l:List Nat) (h:Heap):Heap:=l.map fun i=>qf2 (fun i=>qaU i l 0) ((h[i]?).getD .gone)
def qnO (k:Nat) (r:ARes) (h2:Heap):List Nat:=qeC k ((match r with | .val v=>qbW v | .panic v=>qbW v)++(h2.take k).flatMap qox) []
def qdQ (l nl:List Nat) (n j:Nat):Option Nat:=if j<l.length then l[j]? else (qaU j nl 0).map (n+·)
def qgq (l nl:List Nat) (h h2:Heap):Heap :=
 ((List.range h.length).map fun i=>match qaU i l 0 with | some j=>qf2 (qdQ l nl h.length) ((h2[j]?).getD .gone) | none=>(h[i]?).getD .gone)++nl.map fun j=>qf2 (qdQ l nl h.length) ((h2[j]?).getD .gone)
def qoF (l nl:List Nat) (n:Nat):ARes→ARes
 | .val v=>.val (ren (qdQ l nl n) v)
 | .panic v=>.panic (ren (qdQ l nl n) v)
def qln (call:CallT) (f:Nat) (args:List AVal) (h:Heap):Option (ARes × Heap) :=
 if (qct args h).all (fun i=>decide (i<h.length))=true then
  match call f (args.map (ren fun i=>qaU i (qct args h) 0)) (qdV (qct args h) h) with
  | some (r,h2)=>some (qoF (qct args h) (qnO (qct args h).length r h2) h.length r,qgq (qct args h) (qnO (qct args h).length r h2) h h2)
  | none=>none
 else none
def qdZ (pure:Nat→Bool) (call:CallT) (f:Nat) (args:List AVal) (h:Heap):Option (ARes × Heap) :=
 if pure f=true∧qaZ (args.map wipe)=true then
  match call f (args.map wipe) [] with
  | some (.val v,h2)=>if qa2 (qgB h2 v)=true then some (.val (qgB h2 v),h) else none
  | some (.panic v,h2)=>if qa2 (qgB h2 v)=true then some (.panic (qgB h2 v),h) else none
  | none=>none
 else qln call f args h
def qag (x:Option AVal) (h:Heap):Option (ARes × Heap) :=
 match x with
 | some v=>some (.val v,h)
 | none=>none
def qaV (x:Option Heap):Option (ARes × Heap) :=
 match x with
 | some h=>some (.val (.tuple []),h)
 | none=>none
def qa4 (x:Option (ARes × Heap)):Option (ARes × Heap) :=
 match x with
 | some (.val v,h)=>some (.val v,h)
 | _=>none
def qkQ (pure:Nat→Bool) (call:CallT) (g:Nat) (xs:List AVal) (h:Heap):Option (ARes × Heap) :=
 if pure g=true∧qaZ (xs.map wipe)=true then qa4 (qdZ pure call g xs h) else none
def qh0:AVal→Bool
 | .int _ _ | .bool _ | .str _=>true
 | _=>false
def qol (call:CallT) (f:Nat) (args:List AVal) (h:Heap):Option (ARes × Heap) :=
 if qaZ (args.map (lookV h))=true then
  match call f (args.map (lookV h)) [] with
  | some (.val v,_)=>if qh0 v=true then some (.val v,h) else none
  | _=>none
 else none
def aOp (pure:Nat→Bool) (call:CallT) (o:AOp) (tm:Tmps) (h:Heap):Option (ARes × Heap) :=
 match o with
 | .move x=>some (.val (opd tm x),h)
 | .pick c a b=>(match opd tm c with | .bool t=>some (.val (if t then opd tm a else opd tm b),h) | _=>none)
 | .alloc cs=>some (.val (.ptr (some (h.length,0))),h++[.box cs])
 | .box x=>(match opd tm x with | .junk=>none | v=>some (.val (.ptr (some (h.length,0))),h++[.box (acells v)]))
 | .build z ps=>qag ((qeA z (ps.map fun p=>(p.1,p.2.1,opd tm p.2.2))).map .agg) h
 | .buildSlice sz ps=>if ((ps.map (opd tm)).all fun v=>(acells v).length=sz && (acells v).all leaf)=true then some (.val (.list (ps.map fun p=>wipe (opd tm p)) (some none)),h) else none
 | .load1 a=>qag (qaF h (opd tm a)) h
 | .loadN n a=>qag ((qbG h (opd tm a) n).map .agg) h
 | .store n a x=>qaV (qbC h n (opd tm a) (opd tm x))
 | .field off a=>qag (qaK off (opd tm a)) h
 | .part1 off x=>qag (qpm off (opd tm x)) h
 | .partN off n x=>qag (qrc off n (opd tm x)) h
 | .indexList sz x i=>qag (qaE sz (opd tm x) (opd tm i)) h
 | .indexArr len sz x i=>qag (qh8 len sz (opd tm x) (opd tm i)) h
 | .indexStr x i=>qag (qj6 (opd tm x) (opd tm i)) h
 | .slice sz x lo hi mx=>qag (qfo sz (opd tm x) (lo.map (opd tm)) (hi.map (opd tm)) (mx.map (opd tm))) h
 | .sliceStr x lo hi=>qag (qj8 (opd tm x) (lo.map (opd tm)) (hi.map (opd tm))) h
 | .bin op k x y=>qag (qbh op k (opd tm x) (opd tm y)) h
 | .un op x=>qag (aUn op (opd tm x)) h
 | .makeFunc f a b=>some (.val (.func f (a.map (opd tm)) (b.map (opd tm))),h)
 | .makeMap=>some (.val (.map (some h.length)),h++[.map []])
 | .makeSlice z l c =>
   (match opd tm l,opd tm c with
   | .int _ a,.int _ b=>if 0≤a∧a≤b∧b≤1073741824 then some (.val (.vec h.length a.toNat),h++[.vec (List.replicate a.toNat z) 1]) else none
   | _,_=>none)
 | .lookup k z ok m x=>qag (qiR h k z ok (opd tm m) (opd tm x)) h
 | .mapUpdate k m x v=>qaV (qeY h k (opd tm m) (opd tm x) (opd tm v))
 | .extract i x=>(match opd tm x with | .tuple vs=>qag vs[i]? h | _=>none)
 | .len k x=>qag (qco h k (opd tm x)) h
 | .append sz bytes x y=>(match qbM h sz bytes (opd tm x) (opd tm y) with | some (v,h')=>some (.val v,h') | none=>none)
 | .minMax mx xs=>qag (qf4 mx (xs.map (opd tm))) h
 | .call f args =>
   (match opd tm f with
   | .func g a b=>qdZ pure call g (a++args.map (opd tm)++b) h
   | _=>none)
 | .pcall k args=>if pure k=true∧qaZ ((args.map (opd tm)).map wipe)=true then qa4 (qdZ pure call k (args.map (opd tm)) h) else none
 | .pcallV f args =>
   (match opd tm f with
   | .func g a b=>qkQ pure call g (a++args.map (opd tm)++b) h
   | _=>none)
 | .hcall f args =>
   (match opd tm f with
   | .func g a b=>call g (a++args.map (opd tm)++b) h
   | _=>none)
 | .vcall k args=>qol call k (args.map (opd tm)) h
 | .appendV sz bytes x y=>(match qf3 h sz (opd tm x) (opd tm y) with | some (v,h')=>some (.val v,h') | none=>none)
 | .nilCheck x =>
   (match opd tm x with
   | .ptr (some p)=>some (.val (.ptr (some p)),h)
   | .vptr cs n=>some (.val (.vptr cs n),h)
   | .func f a b=>some (.val (.func f a b),h)
   | _=>none)
 | .conv k x=>(match opd tm x with | .int _ n=>some (.val (.int k (k.wrap n)),h) | _=>none)
 | .convS x=>(match opd tm x with | .str s=>some (.val (.str s),h) | _=>none)
 | .makeIface t x=>some (.val (.iface t (opd tm x)),h)
 | .stuck=>none
def qaA (g:Option (Option Nat × Bool)) (tm:Tmps):Option Bool :=
 match g with
 | none=>some true
 | some (none,_)=>some false
 | some (some d,want) =>
   match tm d with
   | .bool b=>some (b==want)
   | .tuple _=>some false
   | _=>none
def qdc (pure:Nat→Bool) (call:CallT):List Step→St→Option (AExit × St)
 | [],s=>some (.normal,s)
 | o :: rest,s =>
   match qaA o.guard s.tm with
   | some true =>
     (match aOp pure call o.op s.tm s.h with
     | some (.val v,h)=>qdc pure call rest ⟨upd s.tm o.dst v,h⟩
     | some (.panic v,h)=>some (.panic v,⟨s.tm,h⟩)
     | none=>none)
   | some false=>qdc pure call rest ⟨upd s.tm o.dst (.tuple []),s.h⟩
   | none=>none
def qi6 (l:List Nat) (n:Nat) (j:Nat):Option Nat:=(qaU j l 0).map (n+·)
def qqD (l:List Nat) (h h2:Heap):Heap:=h++l.map fun j=>qf2 (qi6 l h.length) ((h2[j]?).getD .gone)
def qny (call:CallT) (f:Nat) (args:List AVal) (h:Heap):Option (ARes × Heap) :=
 if qaZ (args.map wipe)=true then
  match call f (args.map wipe) [] with
  | some (.val v,h2)=>some (.val (ren (qi6 (qeC 0 (qbW v) []) h.length) v),qqD (qeC 0 (qbW v) []) h h2)
  | _=>none
 else none
def qgS:AVal→Bool
 | .list [] (some none)=>true
 | _=>false
def qj7 (pure:Nat→Bool) (call:CallT) (o:AOp) (tm:Tmps) (h:Heap):Option (ARes × Heap) :=
 match o with
 | .pcall k args=>qny call k (args.map (opd tm)) h
 | .append sz bytes x y =>
   if qgS (opd tm x)=true then (match qf3 h sz (opd tm x) (opd tm y) with | some (v,h')=>some (.val v,h') | none=>none)
   else aOp pure call (.append sz bytes x y) tm h
 | o=>aOp pure call o tm h
def qfl (pure:Nat→Bool) (call:CallT):List Step→St→Option (AExit × St)
 | [],s=>some (.normal,s)
 | o :: rest,s =>
   match qaA o.guard s.tm with
   | some true =>
     (match qj7 pure call o.op s.tm s.h with
     | some (.val v,h)=>qfl pure call rest ⟨upd s.tm o.dst v,h⟩
     | some (.panic v,h)=>some (.panic v,⟨s.tm,h⟩)
     | none=>none)
   | some false=>qfl pure call rest ⟨upd s.tm o.dst (.tuple []),s.h⟩
   | none=>none
def qbx:AOp→Bool
 | .alloc _ | .box _ | .store .. | .makeMap | .makeSlice .. | .mapUpdate .. | .append .. | .call .. | .hcall .. | .vcall .. | .appendV .. => true
 | _=>false
def qeh (pure:Nat→Bool) (call:CallT):List Step→Tmps→List Heap→Heap→Option (Tmps × List Heap × Heap)
 | [],tm,hs,h=>some (tm,hs++[h],h)
 | o :: rest,tm,hs,h =>
   match qaA o.guard tm with
   | some true =>
     (match aOp pure call o.op tm h with
     | some (.val v,h')=>qeh pure call rest (upd tm o.dst v) (if qbx o.op=true then hs++[h] else hs) h'
     | _=>none)
   | some false=>qeh pure call rest (upd tm o.dst (.tuple [])) (if qbx o.op=true then hs++[h] else hs) h
   | none=>none
def qfN:CallT:=fun _ _ _=>none
def qkm (l:List Step) (tm:Tmps) (hs:List Heap) (c:Nat × Nat × Nat):Prop :=
 ∀ s d,l[c.1]? = some s→s.dst=some d→qaA s.guard tm=some true →
  ∀ k h,c.2.1≤k→k≤c.2.2→hs[k]? = some h→aOp (fun _=>false) qfN s.op tm h=some (.val (tm d),h)
open Classical in
noncomputable def qhK (pure:Nat→Bool) (call:CallT) (l:List Step) (checks:List (Nat × Nat × Nat)) (s:St):Option (AExit × St) :=
 match qeh pure call l s.tm [] s.h with
 | some (tm,hs,h)=>if ∀ c∈checks,qkm l tm hs c then some (.normal,⟨tm,h⟩) else none
 | none=>none
def qfH (n:Nat) (l:List Nat) (i:Nat):Option Nat:=if i<n then some i else qaU i l n
def qhx (n:Nat) (keep:List Nat) (s:St):List Nat:=qeC n (keep.flatMap (fun t=>qbW (s.tm t))++(s.h.take n).flatMap qox) []
def gc1 (n:Nat) (keep:List Nat) (s:St):St :=
 ⟨fun t => if t ∈ keep then ren (qfH n (qhx n keep s)) (s.tm t) else .junk,
  (s.h.take n).map (qf2 (qfH n (qhx n keep s)))++(qhx n keep s).map fun id=>qf2 (qfH n (qhx n keep s)) ((s.h[id]?).getD .gone)⟩
def qlI:List Nat→Bool
 | []=>false
 | k::_=>decide (k=1000000)
def qyB (keep:List Nat) (s:St):St:=⟨fun t=>if t∈keep.drop 1 then s.tm t else .junk,s.h⟩
def gc (n:Nat) (keep:List Nat) (s:St):St:=if qlI keep=true then qyB keep s else if n≤s.h.length then gc1 n keep s else s
def gcE (n:Nat) (keep:List Nat) (r:AExit × St):AExit × St :=
 match r.1 with
 | .panic _=>r
 | e=>(e,gc n keep r.2)
def frzC (id sz:Nat) (cs:List AVal):AVal→AVal
 | .ptr (some (i,o))=>if i=id then .vptr cs o else .ptr (some (i,o))
 | .vec i m=>if i=id then (if sz=1∧m=cs.length then .list cs none else if 1<sz∧m*sz=cs.length then .list (qjm sz m cs) none else .junk) else .vec i m
 | v=>v
def frz (id sz:Nat) (cs:List AVal):AVal→AVal
 | .agg vs=>.agg (vs.map (frzC id sz cs))
 | .tuple vs=>.tuple (vs.map (frzC id sz cs))
 | .func f a b=>.func f (a.map (frzC id sz cs)) (b.map (frzC id sz cs))
 | v=>frzC id sz cs v
def qjV (id sz:Nat) (cs:List AVal):AObj→AObj
 | .box vs=>.box (vs.map (frz id sz cs))
 | .vec vs z=>.vec (vs.map (frz id sz cs)) z
 | o=>o
def qjG (id sz:Nat) (cs:List AVal) (s:St):St :=
 if qaZ cs=true∧cs.all leaf=true then ⟨fun i=>frz id sz cs (s.tm i),(s.h.set id .gone).map (qjV id sz cs)⟩ else s
def qgk (t:Nat) (s:St):St :=
 match s.tm t with
 | .ptr (some (id,0))=>(match s.h[id]? with | some (.box cs)=>qjG id 0 (cs.map wipeCell) s | _=>s)
 | .vec id _=>(match s.h[id]? with | some (.vec cs sz)=>qjG id sz (cs.map wipeCell) s | _=>s)
 | _=>s
def qn2 (needs:List (List Nat)) (S:List Bool):List Nat:=(List.range needs.length).filter fun i => !(S.getD i false) && (needs.getD i []).all fun j=>S.getD j false
def qja (needs:List (List Nat)):Nat→List Bool→List (List Nat)
 | 0,_=>[[]]
 | f+1,S=>if (qn2 needs S).isEmpty=true then [[]] else (qn2 needs S).flatMap fun i=>(qja needs f (S.set i true)).map (i::·)
def qmN (l:List Step) (needs:List (List Nat)):List (List Step):=(qja needs needs.length (List.replicate needs.length false)).map fun is=>is.filterMap (l[·]?)
open Classical in
noncomputable def qtd (keep:List Nat) (l:List Step) (needs:List (List Nat)) (s:St):Option (AExit × St) :=
 if h:∃ r,∀ σ∈qmN l needs,(qdc (fun _=>false) qfN σ s).map (gcE s.h.length keep)=some r then some (Classical.choose h) else none
def qeI (body:St→Option (AExit × St)):Nat→St→Option (AExit × St)
 | 0,_=>none
 | n + 1,s =>
   match body s with
   | some (.normal,s')=>qeI body n s'
   | r=>r
def qg4 (s:ByteArray):Nat→Nat→List (AVal × AVal)
 | 0,_=>[]
 | n+1,p=>if p<s.size then (.int .i64 p,.int .i32 (Utf8.decode s p).1)::qg4 s n (p+(Utf8.decode s p).2) else []
def qeG (id:Nat) (r:Option (AExit × St)):Option (AExit × St) :=
 match r with
 | some (.exit id',s')=>if id'=id then some (.normal,s') else some (.exit id',s')
 | r=>r
def qk5 (run:St→Option (AExit × St)) (r:Option (AExit × St)):Option (AExit × St) :=
 match r with
 | some (.normal,s2)=>run s2
 | r=>r
def qpQ (n:Nat) (k:RangeK) (s:St):Bool :=
 match s.tm k.it with
 | .ptr (some (i,o))=>i==n && o==0
 | _=>false
def qb9 (ops:List Step→St→Option (AExit × St)) (n:Nat) (k:RangeK) (runB:St→Option (AExit × St)) (e:AVal × AVal) (s:St):Option (AExit × St) :=
 if qpQ n k s=true then
  match ops k.r1 ⟨upd s.tm (some k.dn) (.tuple [.bool true,e.1,e.2]),s.h⟩ with
  | some (.normal,s1) =>
    if qpQ n k s1=true then
     (match opd s1.tm k.c with
     | .bool true=>qeG k.id2 (qk5 runB (ops k.r2 ⟨upd s1.tm k.de (.tuple [e.1,e.2]),s1.h⟩))
     | _=>none)
    else none
  | _=>none
 else none
def qcF (ops:List Step→St→Option (AExit × St)) (n:Nat) (k:RangeK) (s:St):Option (AExit × St) :=
 if qpQ n k s=true then
  match ops k.r1 ⟨upd s.tm (some k.dn) (.tuple [.bool false]),s.h⟩ with
  | some (.normal,s1)=>(match opd s1.tm k.c with | .bool false=>some (.normal,s1) | _=>none)
  | _=>none
 else none
def qcb (ops:List Step→St→Option (AExit × St)) (n:Nat) (k:RangeK) (runB:St→Option (AExit × St)):List (AVal × AVal)→St→Option (AExit × St)
 | [],s=>qcF ops n k (gc (n+1) k.kr s)
 | e :: es,s =>
   match qb9 ops n k runB e (gc (n+1) k.kr s) with
   | some (.normal,s')=>qcb ops n k runB es s'
   | r=>qeG k.id r
def qlk (m:AVal) (h:Heap):Heap:=(match m with | .map (some r)=>h.set r .gone | _=>h)++[.gone]
def qdv (m:AVal) (h0 h:Heap):Heap:=match m with | .map (some r)=>h.set r ((h0[r]?).getD .gone) | _=>h
def qdJ (str:Bool) (m:AVal) (h:Heap):Option (List (AVal × AVal)) :=
 match str,m with
 | true,.str s=>some (qg4 s s.size 0)
 | false,m=>qnL h m
 | _,_=>none
def qdr (str:Bool) (es es':List (AVal × AVal)):Prop:=if str=true then es'=es else es'.Perm es
open Classical in
noncomputable def qm4 (O:List (AVal × AVal)→Prop) (f:List (AVal × AVal)→Option (AExit × St)):Option (AExit × St) :=
 if h:∃ r,∀ es,O es→f es=some r then some (Classical.choose h) else none
noncomputable def qkR (ops:List Step→St→Option (AExit × St)) (k:RangeK) (runB runC:St→Option (AExit × St)) (s:St):Option (AExit × St) :=
 match ops k.pre s with
 | some (.normal,s1) =>
   (match qdJ k.str (opd s1.tm k.m) s1.h with
   | some es=>qm4 (qdr k.str es) fun es' =>
    (match qcb ops s1.h.length k runB es' ⟨upd s1.tm (some k.it) (.ptr (some (s1.h.length,0))),qlk (opd s1.tm k.m) s1.h⟩ with
    | some (.normal,s2)=>runC ⟨s2.tm,qdv (opd s1.tm k.m) s1.h s2.h⟩
    | some (e,s2)=>some (e,⟨s2.tm,qdv (opd s1.tm k.m) s1.h s2.h⟩)
    | none=>none).map (gcE s.h.length k.keep)
   | none=>none)
 | _=>none
noncomputable def qbk (pure:Nat→Bool) (call:CallT) (n:Nat):ACode→St→Option (AExit × St)
 | .skip,s=>some (.normal,s)
 | .ops l,s=>qdc pure call l s
 | .draw l cs,s=>qhK pure call l cs s
 | .kops l,s=>qfl pure call l s
 | .view c,s=>qbk pure call n c (qop s)
 | .mdraw k l ns,s=>qtd k l ns s
 | .seq a b,s =>
   (match qbk pure call n a s with
   | some (.normal,s')=>qbk pure call n b s'
   | r=>r)
 | .cond c a b,s=>(match opd s.tm c with | .bool t=>if t then qbk pure call n a s else qbk pure call n b s | _=>none)
 | .block id c,s =>
   (match qbk pure call n c s with
   | some (.exit id',s')=>if id'=id then some (.normal,s') else some (.exit id',s')
   | r=>r)
 | .loop c,s=>qeI (qbk pure call n c) n s
 | .gloop k c,s=>qeI (fun s1=>qbk pure call n c (gc s.h.length k s1)) n s
 | .frame k c,s=>(qbk pure call n c s).map (gcE s.h.length k)
 | .freeze t c,s=>qbk pure call n c (qgk t s)
 | .range k b c,s=>qkR (qdc pure call) k (qbk pure call n b) (qbk pure call n c) s
 | .exit id,s=>some (.exit id,s)
 | .ret,s=>some (.ret,s)
 | .stuck,_=>none
def qaB (tm:Tmps) (h:Heap):ARVar→Option AVal
 | .tmp t=>some (tm t)
 | .cell1 a=>qaF h (tm a)
 | .cellN n a=>(qbG h (tm a) n).map .agg
 | .bad=>none
def qas (tm:Tmps) (h:Heap):List ARVar→Option (List AVal)
 | []=>some []
 | r :: rs =>
   match qaB tm h r,qas tm h rs with
   | some v,some vs=>some (v::vs)
   | _,_=>none
def qaI:List AVal→AVal
 | [v]=>v
 | vs=>.tuple vs
def qgz (args:List AVal):Tmps:=fun i=>(args[i]?).getD (.tuple [])
def qaR (rs:List ARVar) (r:Option (AExit × St)):Option (ARes × Heap) :=
 match r with
 | some (.normal,s) | some (.ret,s)=>(match qas s.tm s.h rs with | some vs=>some (.val (qaI vs),s.h) | none=>none)
 | some (.panic v,s)=>some (.panic v,s.h)
 | _=>none
structure Lib where
 pure:Nat→Bool
 summ:Nat→Option (List AVal→Heap→Option (ARes × Heap))
 fns:Nat→Option AFn
noncomputable def qcR (L:Lib):Nat→CallT
 | 0,_,_,_=>none
 | n + 1,f,args,h =>
   match L.summ f with
   | some s=>s args h
   | none =>
     match L.fns f with
     | some fn=>qaR fn.results (qbk L.pure (qcR L n) n fn.body ⟨qgz args,h⟩)
     | none=>none
inductive All2 {α β:Type} (R:α→β→Prop):List α→List β→Prop
 | nil:All2 R [] []
 | cons {x:α} {y:β} {xs:List α} {ys:List β} (h:R x y) (hs:All2 R xs ys):All2 R (x::xs) (y::ys)
theorem All2.length {α β:Type} {R:α→β→Prop} {xs:List α} {ys:List β} (h:All2 R xs ys):xs.length=ys.length:=by
 induction h with
 | nil=>rfl
 | cons _ _ ih=>simp[ih]
theorem All2.imp {α β:Type} {R S:α→β→Prop} {xs:List α} {ys:List β} (h:All2 R xs ys) (f:∀ x∈xs,∀ y∈ys,R x y→S x y):All2 S xs ys:=by
 induction h with
 | nil=>exact .nil
 | cons h _ ih=>exact .cons (f _ (by simp) _ (by simp) h) (ih fun x hx y hy=>f x (by simp[hx]) y (by simp[hy]))
theorem All2.trans {α β γ:Type} {R:α→β→Prop} {S:β→γ→Prop} {T:α→γ→Prop}:∀ {xs:List α} {ys:List β} {zs:List γ},All2 R xs ys→All2 S ys zs→(∀ x∈xs,∀ y∈ys,∀ z∈zs,R x y→S y z→T x z)→All2 T xs zs
 | _,_,_,.nil,.nil,_=>.nil
 | _,_,_,.cons h hs,.cons k ks,f=>.cons (f _ (by simp) _ (by simp) _ (by simp) h k) (hs.trans ks fun x hx y hy z hz=>f x (by simp[hx]) y (by simp[hy]) z (by simp[hz]))
theorem All2.refl {α:Type} {R:α→α→Prop}:∀ {xs:List α},(∀ x∈xs,R x x)→All2 R xs xs
 | [],_=>.nil
 | x::xs,h=>.cons (h x (by simp)) (All2.refl fun y hy=>h y (by simp[hy]))
end Go.Abs
