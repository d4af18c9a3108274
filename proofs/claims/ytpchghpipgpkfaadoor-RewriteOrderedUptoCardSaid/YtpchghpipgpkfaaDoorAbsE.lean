/-
  The model's code resolved (compile), and the model's single operations seen through abstract values. Conditions: none.
-/
import Derived.Test.YtpchghpipgpkfaaDoorAbsD
import Derived.Laws.Tables
import Derived.Laws.NewFold
set_option linter.unusedVariables false
namespace Go.Abs
def qr6:Value→AVal
 | .bool b=>.bool b
 | .int k n=>.int k n
 | .string s=>.str s
 | .pointer none=>.ptr none
 | .slice none 0 0=>.list [] (some none)
 | .map none=>.map none
 | .nilFunc=>.nilFunc
 | .nilIface=>.nilIface
 | _=>.junk
def ofValue:Value→AVal
 | .agg cs=>.agg (cs.toList.map qr6)
 | .tuple vs=>if vs.toList.length=0 then .tuple [] else .junk
 | v=>qr6 v
section
variable (E:Env)
def qcb:Operand→Opd
 | .tmp t=>.tmp t
 | .const v=>.val (ofValue v)
 | .global g=>match E.glob g with | some cs=>.val (.vptr cs 0) | none=>.val .junk
 | .func f=>match E.fm f with | some k=>.val (.func k [] []) | none=>.val .junk
def qhC (l:Array Operand):List Opd:=l.toList.map (qcb E)
def qf3:TypeDesc→Bool
 | .struct _ | .array _ _=>true
 | _=>false
def qjg (t:TypeId):Option Nat:=(E.P.info? t).map (·.size)
def qft (place:Nat→Option (Nat × Nat)):List (Nat × Operand)→Option (List (Nat × Nat × Opd))
 | []=>some []
 | (i,x) :: rest =>
   match place i,qft place rest with
   | some (off,size),some r=>some ((off,size,qcb E x)::r)
   | _,_=>none
def qfz (fs:Array Field) (i:Nat):Option (Nat × Nat) :=
 match fs[i]? with
 | some f=>(qjg E f.type).map fun s=>(f.offset,s)
 | none=>none
def qms (t:TypeId) (parts:Array (Nat × Operand)):AOp :=
 match E.P.underlying t,E.P.info? t with
 | some (.struct fs),some i =>
   match i.zero with
   | some z =>
     if qcK (ofValue z)=true∧(fs.toList.all fun f=>(E.P.info? f.type).isSome)=true then
      match qft E (qfz E fs) parts.toList with
      | some ps=>.build (acells (ofValue z)) ps
      | none=>.stuck
     else .stuck
   | none=>.stuck
 | some (.array _ e),some i =>
   match i.zero,E.P.info? e with
   | some z,some j =>
     if qcK (ofValue z)=true then
      match qft E (fun k=>some (k*j.size,j.size)) parts.toList with
      | some ps=>.build (acells (ofValue z)) ps
      | none=>.stuck
     else .stuck
   | _,_=>.stuck
 | _,_=>.stuck
def qdt (t:TypeId) (n:Nat) (parts:Array (Nat × Operand)):AOp :=
 match E.P.underlying t with
 | some (.slice e) =>
   match E.P.info? e with
   | some i =>
     match i.zero with
     | some z=>if z.cells.size=i.size∧0<i.size∧0<n∧n*i.size≤2 ^ 24∧parts.toList.map (·.1)=List.range n then .buildSlice i.size (parts.toList.map fun p=>qcb E p.2) else .stuck
     | none=>.stuck
   | none=>.stuck
 | _=>.stuck
def qqq (t:TypeId) (a:Operand):AOp :=
 match E.P.underlying t,E.P.info? t with
 | some d,some i=>if qf3 d=true then .loadN i.size (qcb E a) else .load1 (qcb E a)
 | _,_=>.stuck
def qkH (t:TypeId) (a x:Operand):AOp :=
 match E.P.info? t with
 | some i=>.store i.size (qcb E a) (qcb E x)
 | none=>.stuck
def qkB (s:TypeId) (x:Operand) (k:Nat):AOp :=
 match E.P.underlying s with
 | some (.struct fs) =>
   match fs[k]? with
   | some f =>
     match E.P.info? f.type with
     | some i=>if i.size=0 then .stuck else .field f.offset (qcb E x)
     | none=>.stuck
   | none=>.stuck
 | _=>.stuck
def qet (s:TypeId) (x:Operand) (k:Nat):AOp :=
 match E.P.underlying s with
 | some (.struct fs) =>
   match fs[k]? with
   | some f =>
     match E.P.underlying f.type,E.P.info? f.type with
     | some d,some i=>if qf3 d=true then .partN f.offset i.size (qcb E x) else .part1 f.offset (qcb E x)
     | _,_=>.stuck
   | none=>.stuck
 | _=>.stuck
def qdu (t:TypeId) (x i:Operand):AOp :=
 match E.P.underlying t with
 | some (.slice e)=>(match E.P.info? e with | some j=>.indexList j.size (qcb E x) (qcb E i) | none=>.stuck)
 | some (.array n e)=>(match E.P.info? e with | some j=>.indexArr n j.size (qcb E x) (qcb E i) | none=>.stuck)
 | _=>.stuck
def qkC (t:TypeId) (x i:Operand):AOp :=
 match E.P.underlying t with
 | some .string=>.indexStr (qcb E x) (qcb E i)
 | some (.array n e) =>
   match E.P.underlying e,E.P.info? e with
   | some d,some j=>if qf3 d=false∧j.size=1 then .indexAgg n (qcb E x) (qcb E i) else .stuck
   | _,_=>.stuck
 | _=>.stuck
def qkG (t:TypeId) (x:Operand) (lo hi mx:Option Operand):AOp :=
 match E.P.underlying t with
 | some .string=>if mx.isNone=true then .sliceStr (qcb E x) (lo.map (qcb E)) (hi.map (qcb E)) else .stuck
 | some (.slice e)=>(match E.P.info? e with | some j=>if 0<j.size then .slice j.size (qcb E x) (lo.map (qcb E)) (hi.map (qcb E)) (mx.map (qcb E)) else .stuck | none=>.stuck)
 | _=>.stuck
def qe4:Option TypeDesc→EqK
 | some .bool=>.bool
 | some (.pointer _)=>.pointer
 | some (.map _ _)=>.map
 | some (.func _ _ _)=>.func
 | _=>.none
def qiu:List Field→Nat→Bool
 | [],_=>true
 | f :: fs, i => f.offset == i && f.name != "_" && (match E.P.underlying f.type with | some (.int _) => true | _ => false) && qiu fs (i + 1)
def qBs (t:TypeId):EqK :=
 match E.P.underlying t with
 | some (.struct fs)=>if qiu E fs.toList 0=true∧E.P.stoodInHeld t=false∧E.P.eqGuardType E.P.depth t=false then .arr fs.size else .none
 | some (.array n e)=>(match E.P.underlying e,E.P.info? e with | some (.int _),some j=>if j.size=1 then .arr n else .none | _,_=>.none)
 | d=>qe4 d
def qiv:Option TypeDesc→Option KeyK
 | some (.int _)=>some .int
 | some .string=>some .string
 | some .bool=>some .bool
 | _=>none
def qhB (t:TypeId) (m k:Operand) (ok:Bool):AOp :=
 match E.P.underlying t with
 | some (.map kt et) =>
   match qiv (E.P.underlying kt),E.P.info? et with
   | some kk,some i=>(match i.zero with | some z=>.lookup kk (ofValue z) ok (qcb E m) (qcb E k) | none=>.stuck)
   | _,_=>.stuck
 | _=>.stuck
def qc7 (t:TypeId) (m k v:Operand):AOp :=
 match E.P.underlying t with
 | some (.map kt _)=>(match qiv (E.P.underlying kt) with | some kk=>.mapUpdate kk (qcb E m) (qcb E k) (qcb E v) | none=>.stuck)
 | _=>.stuck
def lenOf:Option TypeDesc→Option LenK
 | some .string=>some .str
 | some (.slice _)=>some .slice
 | some (.map _ _)=>some .map
 | _=>none
def qhz (t u:TypeId) (x y:Operand):AOp :=
 match E.P.underlying t,E.P.underlying u with
 | some (.slice e),some (.slice _) =>
   match E.P.info? e with
   | some i =>
     match i.zero with
     | some z=>if z.cells.size=i.size∧0<i.size∧0<i.bytes∧i.bytes≤2 ^ 12∧t=u then .append i.size i.bytes (qcb E x) (qcb E y) else .stuck
     | none=>.stuck
   | none=>.stuck
 | _,_=>.stuck
def qjs (f:Opd) (args:List Opd):AOp :=
 match f with
 | .val (.func k [] [])=>if E.dat k=true then .pcall k args else .call f args
 | _=>.call f args
def qgg (c:Call):AOp :=
 match c.callee with
 | .value f=>qjs E (qcb E f) (qhC E c.args)
 | .builtin .len=>(match c.argTypes.toList,c.args.toList with | [t],[x]=>(match lenOf (E.P.underlying t) with | some k=>.len k (qcb E x) | none=>.stuck) | _,_=>.stuck)
 | .builtin .append=>(match c.argTypes.toList,c.args.toList with | [t,u],[x,y]=>qhz E t u x y | _,_=>.stuck)
 | .builtin .max=>.minMax true (qhC E c.args)
 | .builtin .min=>.minMax false (qhC E c.args)
 | _=>.stuck
def qqp (src dst:TypeId) (x:Operand):AOp :=
 match E.P.underlying src,E.P.underlying dst with
 | some _,some (.int k)=>.conv k (qcb E x)
 | some .string,some .string=>.convS (qcb E x)
 | _,_=>.stuck
def qqr (t:TypeId) (l c:Operand):AOp :=
 match E.P.underlying t with
 | some (.slice e) =>
   match E.P.info? e with
   | some i =>
     match i.zero with
     | some z=>if i.size=1∧z.cells.size=1∧i.bytes≤2 ^ 12∧leaf (ofValue z)=true then .makeSlice (ofValue z) (qcb E l) (qcb E c) else .stuck
     | none=>.stuck
   | none=>.stuck
 | _=>.stuck
def cOp:Op→AOp
 | .move x | .assign x=>.move (qcb E x)
 | .pick c a b=>.pick (qcb E c) (qcb E a) (qcb E b)
 | .alloc t=>(match E.P.info? t with | some i=>(match i.zero with | some z=>if qcK (ofValue z)=true then .alloc (acells (ofValue z)) else .stuck | none=>.stuck) | none=>.stuck)
 | .box _ x=>.box (qcb E x)
 | .build t ps=>qms E t ps
 | .buildSlice t n ps=>qdt E t n ps
 | .load t a=>qqq E t a
 | .store t a x=>qkH E t a x
 | .nilCheck x=>.nilCheck (qcb E x)
 | .binOp op t x y _=>.bin op (qBs E t) (qcb E x) (qcb E y)
 | .unOp op _ x=>.un op (qcb E x)
 | .convert src dst x=>qqp E src dst x
 | .makeInterface t x=>(match E.P.underlying t,E.tm t with | some (.interface _),_=>.stuck | some _,some k=>.makeIface k (qcb E x) | _,_=>.stuck)
 | .makeFunc (.func f) a b=>(match E.fm f with | some k=>.makeFunc k (qhC E a) (qhC E b) | none=>.stuck)
 | .makeMap _ none=>.makeMap
 | .makeSlice t l c=>qqr E t l c
 | .slice t x lo hi mx=>qkG E t x lo hi mx
 | .fieldAddr s x k=>qkB E s x k
 | .field s x k=>qet E s x k
 | .indexAddr t x i=>qdu E t x i
 | .index t x i=>qkC E t x i
 | .lookup t m k ok=>qhB E t m k ok
 | .mapUpdate t m k v | .insert t m k v=>qc7 E t m k v
 | .extract x i=>.extract i (qcb E x)
 | .call c=>qgg E c
 | _=>.stuck
end
structure EnvOk (E:Env):Prop where
 mixed:E.P.follows .mixedOrders=true
 fn : ∀ f k, E.fm f = some k → ∃ fn, E.P.funcs[f]? = some fn ∧ (fn.name == "runtime.NumGoroutine") = false ∧ fn.body.isSome = true
def GlobOk (E:Env) (G:Ghost):Prop:=∀ g cs,E.glob g=some cs→qax cs=true∧Rep E G (.vptr cs 0) (.pointer (some ⟨g,0,none⟩))
theorem GlobOk.mono {E:Env} {G G':Ghost} (hle:G.le G') (hg:GlobOk E G):GlobOk E G':=fun g cs e=>⟨(hg g cs e).1,(hg g cs e).2.mono hle⟩
def RelT (E:Env) (G:Ghost) (tm:Tmps) (a:Act):Prop:=∀ t,Rep E G (tm t) (a.tmps.getD t undef)
theorem RelT.mono {E:Env} {G G':Ghost} (hle:G.le G') {tm:Tmps} {a:Act} (h:RelT E G tm a):RelT E G' tm a:=fun t=>(h t).mono hle
theorem qm7 (E:Env) (G:Ghost) (v:Value):Rep E G (qr6 v) v:=by
 unfold qr6
 split
 ·exact .bool _
 ·exact .int _ _
 ·exact .str _
 ·exact .ptrNil
 ·exact .list 0 [] rfl (Nat.le_refl _) (fun x hx=>by simp at hx) (fun hx=>absurd rfl hx) rfl (fun i c v e=>by simp at e) rfl
 ·exact .mapNil
 ·exact .nilFunc
 ·exact .nilIface
 ·exact .junk _
theorem qdz (E:Env) (G:Ghost) (v:Value):Rep E G (ofValue v) v:=by
 unfold ofValue
 split
 ·rename_i cs
  refine .agg (by simp) fun i c v e e'=>?_
  rw[List.getElem?_map] at e
  obtain⟨u,hu,rfl⟩:=Option.map_eq_some_iff.1 e
  have:u=v:=by
   have h1:cs[i]? = some u:=by simpa using hu
   rw[h1] at e'
   injection e'
  subst this
  exact qm7 E G u
 ·rename_i vs
  split
  ·rename_i hl
   refine .tuple (by simpa using hl) fun i c v e=>by simp at e
  ·exact .junk _
 ·exact qm7 E G _
theorem qeA {E:Env} {G:Ghost} (hg:GlobOk E G) {tm:Tmps} {a:Act} (ht:RelT E G tm a) (x:Operand):Rep E G (opd tm (qcb E x)) (a.eval x):=by
 cases x with
 | tmp t=>exact ht t
 | const v=>exact qdz E G v
 | global g =>
   show Rep E G (opd tm (match E.glob g with | some cs=>.val (.vptr cs 0) | none=>.val .junk)) _
   cases hx:E.glob g with
   | some cs=>exact (hg g cs hx).2
   | none=>exact .junk _
 | func f =>
   show Rep E G (opd tm (match E.fm f with | some k=>.val (.func k [] []) | none=>.val .junk)) _
   cases hx:E.fm f with
   | some k=>exact .func hx rfl rfl (fun i c v e=>by simp at e) (fun i c v e=>by simp at e)
   | none=>exact .junk _
theorem qhd {E:Env} {G:Ghost} (hg:GlobOk E G) {tm:Tmps} {a:Act} (ht:RelT E G tm a) (l:Array Operand):RepL E G ((qhC E l).map (opd tm)) (l.map a.eval).toList:=by
 refine⟨by simp[qhC],fun i c v e e'=>?_⟩
 simp only[qhC,List.map_map,List.getElem?_map,Array.toList_map] at e e'
 obtain⟨u,hu,rfl⟩:=Option.map_eq_some_iff.1 e
 obtain⟨u',hu',rfl⟩:=Option.map_eq_some_iff.1 e'
 rw[hu] at hu'
 injection hu' with hu'
 subst hu'
 exact qeA hg ht u
theorem qtn {P:Program} {w w':World} {s:Sem Value} {v:Value} (h:s.run P w=.ok v w'):(do pure (Next.value (← s)):Sem Next).run P w=.ok (.value v) w':=by
 rw[Sem.run_bind,h];rfl
theorem qCC {P:Program} {w w':World} {s:Sem Unit} (h:s.run P w=.ok () w'):(do s;pure Next.skip:Sem Next).run P w=.ok .skip w':=by
 rw[Sem.run_bind,h];rfl
theorem qbu {P:Program} {w:World} {t:TypeId} {i:TypeInfo} (h:P.info? t=some i):(sizeOf t).run P w=.ok i.size w:=by
 simp[sizeOf,typeInfo,h]
theorem qgB {P:Program} {w:World} {t:TypeId} {i:TypeInfo} {z:Value} (h:P.info? t=some i) (hz:i.zero=some z):(zeroValue t).run P w=.ok z w:=by
 simp[zeroValue,typeInfo,h,hz]
theorem qfn {P:Program} {w:World} {t:TypeId} {d:TypeDesc} (h:P.underlying t=some d):(isAgg t).run P w=.ok (qf3 d) w:=by
 unfold isAgg
 rw[Sem.run_bind,run_underlying h,Result.andThen_ok]
 cases d<;>rfl
theorem qrB (off:Nat):∀ (l:List Value) (k:Nat) (cells:Array Value),off+k+l.length≤cells.size →
  (l.zipIdx k).foldl (fun (cs:Array Value) (x:Value × Nat)=>cs.setIfInBounds (off+x.2) x.1) cells=(cells.toList.take (off+k)++l++cells.toList.drop (off+k+l.length)).toArray
 | [],k,cells,_=>by simp
 | c :: rest,k,cells,hl => by
   simp only[List.length_cons] at hl
   rw[List.zipIdx_cons,List.foldl_cons]
   rw[qrB off rest (k+1) (cells.setIfInBounds (off+k) c) (by simp;omega)]
   congr 1
   have e:=list_seg_step cells.toList (off+k) c rest (by simp;omega)
   simpa[Array.toList_setIfInBounds,Nat.add_assoc] using e
theorem qxf (off:Nat) (v:Array Value) (cells:Array Value) (hl:off+v.size≤cells.size) :
  v.zipIdx.foldl (fun cs (c,j)=>cs.setIfInBounds (off+j) c) cells=(cells.toList.take off++v.toList++cells.toList.drop (off+v.size)).toArray:=by
 have h:=qrB off v.toList 0 cells (by simpa using hl)
 rw[← Array.foldl_toList,Array.toList_zipIdx]
 simpa using h
theorem qgR {E:Env} {G:Ghost} (hg:GlobOk E G) {tm:Tmps} {a:Act} (ht:RelT E G tm a) (place:Nat→Option (Nat × Nat)) :
  ∀ (parts:List (Nat × Operand)) (ps:List (Nat × Nat × Opd)) (cs:List AVal) (cells:Array Value) (cs':List AVal),qft E place parts=some ps→RepL E G cs cells.toList →
   qcj cs (ps.map fun p=>(p.1,p.2.1,opd tm p.2.2))=some cs' →
   ∃ cells',Instr.fill place cells (parts.map fun p=>(p.1,a.eval p.2))=some cells'∧RepL E G cs' cells'.toList
 | [],ps,cs,cells,cs',hp,hr,hf => by
   simp only[qft,Option.some.injEq] at hp
   subst hp
   simp only[List.map_nil,qcj,Option.some.injEq] at hf
   subst hf
   exact⟨cells,rfl,hr⟩
 | (i,x) :: rest,ps,cs,cells,cs',hp,hr,hf => by
   simp only[qft] at hp
   cases hpl:place i with
   | none=>rw[hpl] at hp;simp at hp
   | some q =>
     obtain⟨off,size⟩:=q
     cases hrest:qft E place rest with
     | none=>rw[hpl,hrest] at hp;simp at hp
     | some r =>
       rw[hpl,hrest] at hp
       simp only[Option.some.injEq] at hp
       subst hp
       simp only[List.map_cons,qcj] at hf
       split at hf
       ·rename_i hc
        obtain⟨hc0,hc1,hc2⟩:=hc
        have hv:=qeA hg ht x
        by_cases hj:opd tm (qcb E x)=.junk
        ·simp only[hj,qcK] at hc0
         cases hc0
        ·have hcl:=hv.cells hj
         have hsz:(a.eval x).cells.size=size:=by have:=hcl.len;simp at this;omega
         have hcs:cells.size=cs.length:=by have:=hr.len;simpa using this
         obtain⟨cells',h1,h2⟩:=qgR hg ht place rest r _ (cells.toList.take off++(a.eval x).cells.toList++cells.toList.drop (off+(a.eval x).cells.size)).toArray cs' hrest
          (by
           unfold qat
           simp only[]
           rw[show (acells (opd tm (qcb E x))).length=(a.eval x).cells.size by rw[hsz];exact hc1]
           exact ((hr.take off).append hcl).append (hr.drop _)) hf
         refine⟨cells',?_,h2⟩
         simp only[List.map_cons,Instr.fill,hpl]
         rw[if_neg (by simp;omega)]
         rw[qxf off _ _ (by omega)]
         exact h1
       ·cases hf
end Go.Abs
