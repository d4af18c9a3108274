/-
  What an abstract value says of a value, and an abstract heap of a world; how both go on. Conditions: none.
-/
import Derived.Test.YtpchghpipgpkfaaDoorAbsB
import Derived.Laws.CopyRow
import Derived.Laws.AppendOwn
import Derived.Laws.NewBlocks
set_option linter.unusedVariables false
namespace Go.Abs
structure Env where
 P:Program
 fm:FuncId→Option Nat
 tm:TypeId→Option Nat
 glob:Nat→Option (List AVal)
 dat:Nat→Bool
 gsz:Nat→Option Nat:=fun _=>none
structure Ghost where
 fix:Nat→Nat→Option Value
 blk:Nat→Option Nat
 tl:Nat→Nat→Option (Nat × Nat × Nat)
structure Ghost.le (G G':Ghost):Prop where
 fix:∀ b o v,G.fix b o=some v→G'.fix b o=some v
 blk:∀ id b,G.blk id=some b→G'.blk id=some b
 tl:∀ id n x,G.tl id n=some x→G'.tl id n=some x
theorem Ghost.le.refl (G:Ghost):G.le G:=⟨fun _ _ _ h=>h,fun _ _ h=>h,fun _ _ _ h=>h⟩
theorem Ghost.le.trans {G G' G'':Ghost} (h:G.le G') (h':G'.le G''):G.le G'' :=
 ⟨fun b o v e=>h'.fix _ _ _ (h.fix _ _ _ e),fun i b e=>h'.blk _ _ (h.blk _ _ e),fun i n x e=>h'.tl _ _ _ (h.tl _ _ _ e)⟩
def OwnOk (G:Ghost) (own:Option (Option Nat)) (n:Nat) (A:Option Addr) (cap sz:Nat):Prop :=
 match own with
 | none=>True
 | some none=>cap=n
 | some (some id)=>∃ b,A=some ⟨b,0,none⟩∧G.tl id n=some (b,cap,sz)
inductive Rep (E:Env) (G:Ghost):AVal→Value→Prop
 | junk (v:Value):Rep E G .junk v
 | bool (b:Bool):Rep E G (.bool b) (.bool b)
 | int (k:IntKind) (n:Int):Rep E G (.int k n) (.int k n)
 | str (s:ByteArray):Rep E G (.str s) (.string s)
 | list {xs:List AVal} {own:Option (Option Nat)} {A:Option Addr} {n cap:Nat} (sz:Nat) (vs:List Value) (hn:n=xs.length) (hcap:n≤cap)
   (hsz:∀ x∈xs,(acells x).length=sz) (ha:xs≠[]→∃ b o,A=some ⟨b,o,none⟩∧∀ (i:Nat) (v:Value),vs[i]? = some v→G.fix b (o+i)=some v)
   (hl:vs.length=(xs.flatMap acells).length) (hr:∀ (i:Nat) (c:AVal) (v:Value),(xs.flatMap acells)[i]? = some c→vs[i]? = some v→Rep E G c v)
   (ho:OwnOk G own n A cap sz):Rep E G (.list xs own) (.slice A n cap)
 | ref {id off len cap b:Nat} (hb:G.blk id=some b) (hcap:len≤cap):Rep E G (.ref id off len) (.slice (some ⟨b,off,none⟩) len cap)
 | vec {id n cap sz b:Nat} (hb:G.blk id=some b) (ht:G.tl id n=some (b,cap,sz)) (hn:n≤cap):Rep E G (.vec id n) (.slice (some ⟨b,0,none⟩) n cap)
 | ptrNil:Rep E G (.ptr none) (.pointer none)
 | ptr {id off b:Nat} (hb:G.blk id=some b):Rep E G (.ptr (some (id,off))) (.pointer (some ⟨b,off,none⟩))
 | vptr {cells:List AVal} {off b o:Nat} (vs:List Value) (hl:vs.length=cells.length) (hf:∀ (i:Nat) (v:Value),vs[i]? = some v→G.fix b (o+i)=some v)
   (hr:∀ (i:Nat) (c:AVal) (v:Value),cells[i]? = some c→vs[i]? = some v→Rep E G c v):Rep E G (.vptr cells off) (.pointer (some ⟨b,o+off,none⟩))
 | mapNil:Rep E G (.map none) (.map none)
 | map {id b:Nat} (hb:G.blk id=some b):Rep E G (.map (some id)) (.map (some b))
 | func {f:FuncId} {k:Nat} {a b:List AVal} {va vb:Array Value} (hk:E.fm f=some k) (hla:va.size=a.length) (hlb:vb.size=b.length)
   (ha:∀ (i:Nat) (c:AVal) (v:Value),a[i]? = some c→va[i]? = some v→Rep E G c v) (hb:∀ (i:Nat) (c:AVal) (v:Value),b[i]? = some c→vb[i]? = some v→Rep E G c v):Rep E G (.func k a b) (.func (.func f) va vb)
 | nilFunc:Rep E G .nilFunc .nilFunc
 | iface {t k:Nat} {v:AVal} {x:Value} (ht:E.tm t=some k) (h:Rep E G v x):Rep E G (.iface k v) (.iface t x)
 | nilIface:Rep E G .nilIface .nilIface
 | agg {cs:List AVal} {vs:Array Value} (hl:vs.size=cs.length) (hr:∀ (i:Nat) (c:AVal) (v:Value),cs[i]? = some c→vs[i]? = some v→Rep E G c v):Rep E G (.agg cs) (.agg vs)
 | tuple {cs:List AVal} {vs:Array Value} (hl:vs.size=cs.length) (hr:∀ (i:Nat) (c:AVal) (v:Value),cs[i]? = some c→vs[i]? = some v→Rep E G c v):Rep E G (.tuple cs) (.tuple vs)
theorem Rep.vptr_at {E:Env} {G:Ghost} {cells:List AVal} {off b o p:Nat} (vs:List Value) (hl:vs.length=cells.length) (hf:∀ (i:Nat) (v:Value),vs[i]? = some v→G.fix b (o+i)=some v)
  (hr:∀ (i:Nat) (c:AVal) (v:Value),cells[i]? = some c→vs[i]? = some v→Rep E G c v) (hp:p=o+off):Rep E G (.vptr cells off) (.pointer (some ⟨b,p,none⟩)):=by
 subst hp
 exact .vptr vs hl hf hr
theorem qkc {a:AVal} (h:qcK a=true):a≠.junk:=fun hx=>by rw[hx] at h;cases h
structure RepL (E:Env) (G:Ghost) (cs:List AVal) (vs:List Value):Prop where
 len:vs.length=cs.length
 rep:∀ (i:Nat) (c:AVal) (v:Value),cs[i]? = some c→vs[i]? = some v→Rep E G c v
theorem OwnOk.mono {G G':Ghost} (hg:G.le G') {own:Option (Option Nat)} {n:Nat} {A:Option Addr} {cap sz:Nat} (h:OwnOk G own n A cap sz):OwnOk G' own n A cap sz:=by
 cases own with
 | none=>trivial
 | some o =>
   cases o with
   | none=>exact h
   | some id=>obtain⟨b,e,ht⟩:=h;exact⟨b,e,hg.tl _ _ _ ht⟩
theorem Rep.mono {E:Env} {G G':Ghost} (hg:G.le G') {a:AVal} {v:Value} (h:Rep E G a v):Rep E G' a v:=by
 induction h with
 | junk v=>exact .junk v
 | bool b=>exact .bool b
 | int k n=>exact .int k n
 | str s=>exact .str s
 | list sz vs hn hcap hsz ha hl hr ho ih =>
   refine .list sz vs hn hcap hsz (fun hx=>?_) hl ih (ho.mono hg)
   obtain⟨b,o,e,hf⟩:=ha hx
   exact⟨b,o,e,fun i v hv=>hg.fix _ _ _ (hf i v hv)⟩
 | ref hb hcap=>exact .ref (hg.blk _ _ hb) hcap
 | vec hb ht hn=>exact .vec (hg.blk _ _ hb) (hg.tl _ _ _ ht) hn
 | ptrNil=>exact .ptrNil
 | ptr hb=>exact .ptr (hg.blk _ _ hb)
 | vptr vs hl hf hr ih=>exact .vptr vs hl (fun i v hv=>hg.fix _ _ _ (hf i v hv)) ih
 | mapNil=>exact .mapNil
 | map hb=>exact .map (hg.blk _ _ hb)
 | func hk hla hlb ha hb iha ihb=>exact .func hk hla hlb iha ihb
 | nilFunc=>exact .nilFunc
 | iface ht h ih=>exact .iface ht ih
 | nilIface=>exact .nilIface
 | agg hl hr ih=>exact .agg hl ih
 | tuple hl hr ih=>exact .tuple hl ih
theorem RepL.mono {E:Env} {G G':Ghost} (hg:G.le G') {cs:List AVal} {vs:List Value} (h:RepL E G cs vs):RepL E G' cs vs :=
 ⟨h.len,fun i c v e e'=>(h.rep i c v e e').mono hg⟩
theorem RepL.nil {E:Env} {G:Ghost}:RepL E G [] []:=⟨rfl,fun i c v e=>by simp at e⟩
theorem RepL.cons {E:Env} {G:Ghost} {c:AVal} {v:Value} {cs:List AVal} {vs:List Value} (h:Rep E G c v) (hs:RepL E G cs vs):RepL E G (c::cs) (v::vs):=by
 refine⟨by simp[hs.len],fun i c' v' e e'=>?_⟩
 cases i with
 | zero =>
   simp at e e'
   rw[← e,← e']
   exact h
 | succ i=>exact hs.rep i c' v' (by simpa using e) (by simpa using e')
theorem RepL.one {E:Env} {G:Ghost} {c:AVal} {v:Value} (h:Rep E G c v):RepL E G [c] [v]:=.cons h .nil
theorem RepL.append {E:Env} {G:Ghost} {c1 c2:List AVal} {v1 v2:List Value} (h1:RepL E G c1 v1) (h2:RepL E G c2 v2):RepL E G (c1++c2) (v1++v2):=by
 refine⟨by simp[h1.len,h2.len],fun i c v e e'=>?_⟩
 by_cases hi:i<c1.length
 ·rw[List.getElem?_append_left hi] at e
  rw[List.getElem?_append_left (by rw[h1.len];exact hi)] at e'
  exact h1.rep i c v e e'
 ·rw[List.getElem?_append_right (by omega)] at e
  rw[List.getElem?_append_right (by rw[h1.len];omega),h1.len] at e'
  exact h2.rep _ c v e e'
theorem RepL.take {E:Env} {G:Ghost} {cs:List AVal} {vs:List Value} (h:RepL E G cs vs) (n:Nat):RepL E G (cs.take n) (vs.take n):=by
 refine⟨by simp[h.len],fun i c v e e'=>?_⟩
 rw[List.getElem?_take] at e e'
 split at e
 ·rename_i hi
  rw[if_pos hi] at e'
  exact h.rep i c v e e'
 ·cases e
theorem RepL.drop {E:Env} {G:Ghost} {cs:List AVal} {vs:List Value} (h:RepL E G cs vs) (n:Nat):RepL E G (cs.drop n) (vs.drop n):=by
 refine⟨by simp[h.len],fun i c v e e'=>?_⟩
 rw[List.getElem?_drop] at e e'
 exact h.rep _ c v e e'
theorem RepL.get {E:Env} {G:Ghost} {cs:List AVal} {vs:List Value} (h:RepL E G cs vs) {i:Nat} {c:AVal} (e:cs[i]? = some c):∃ v,vs[i]? = some v∧Rep E G c v:=by
 have hi:i<cs.length:=(List.getElem?_eq_some_iff.1 e).1
 have hv:vs[i]? = some (vs[i]'(by rw[h.len];exact hi)):=List.getElem?_eq_getElem _
 exact⟨_,hv,h.rep i c _ e hv⟩
theorem Rep.cells {E:Env} {G:Ghost} {a:AVal} {v:Value} (h:Rep E G a v) (hj:a≠.junk):RepL E G (acells a) v.cells.toList:=by
 cases h with
 | junk v=>exact absurd rfl hj
 | agg hl hr=>exact⟨by simpa[acells,Value.cells] using hl,fun i c v e e'=>hr i c v e (by simpa[Value.cells] using e')⟩
 | tuple hl hr=>exact RepL.one (.tuple hl hr)
 | bool b=>exact RepL.one (.bool b)
 | int k n=>exact RepL.one (.int k n)
 | str s=>exact RepL.one (.str s)
 | list sz vs hn hcap hsz ha hl hr ho=>exact RepL.one (.list sz vs hn hcap hsz ha hl hr ho)
 | ref hb hcap=>exact RepL.one (.ref hb hcap)
 | vec hb ht hn=>exact RepL.one (.vec hb ht hn)
 | ptrNil=>exact RepL.one .ptrNil
 | ptr hb=>exact RepL.one (.ptr hb)
 | vptr vs hl hf hr=>exact RepL.one (.vptr vs hl hf hr)
 | mapNil=>exact RepL.one .mapNil
 | map hb=>exact RepL.one (.map hb)
 | func hk hla hlb ha hb=>exact RepL.one (.func hk hla hlb ha hb)
 | nilFunc=>exact RepL.one .nilFunc
 | iface ht h=>exact RepL.one (.iface ht h)
 | nilIface=>exact RepL.one .nilIface
theorem Rep.oneCell {E:Env} {G:Ghost} {a:AVal} {v:Value} (h:Rep E G a v) (hl:leaf a=true):v.oneCell'=true:=by
 cases h<;>first | rfl | (simp[leaf] at hl)
theorem Rep.wipeCell {E:Env} {G:Ghost} {a:AVal} {v:Value} (h:Rep E G a v):Rep E G (wipeCell a) v:=by
 cases h with
 | list sz vs hn hcap hsz ha hl hr ho=>exact .list sz vs hn hcap hsz ha hl hr trivial
 | junk v=>exact .junk v
 | bool b=>exact .bool b
 | int k n=>exact .int k n
 | str s=>exact .str s
 | ref hb hcap=>exact .ref hb hcap
 | vec hb ht hn=>exact .vec hb ht hn
 | ptrNil=>exact .ptrNil
 | ptr hb=>exact .ptr hb
 | vptr vs hl hf hr=>exact .vptr vs hl hf hr
 | mapNil=>exact .mapNil
 | map hb=>exact .map hb
 | func hk hla hlb ha hb=>exact .func hk hla hlb ha hb
 | nilFunc=>exact .nilFunc
 | iface ht h=>exact .iface ht h
 | nilIface=>exact .nilIface
 | agg hl hr=>exact .agg hl hr
 | tuple hl hr=>exact .tuple hl hr
theorem Rep.wipe {E:Env} {G:Ghost} {a:AVal} {v:Value} (h:Rep E G a v):Rep E G (wipe a) v:=by
 unfold Abs.wipe
 split
 ·cases h with
  | agg hl hr =>
    refine .agg (by simpa using hl) fun i c v e e'=>?_
    rw[List.getElem?_map] at e
    obtain⟨c0,hc0,rfl⟩:=Option.map_eq_some_iff.1 e
    exact (hr i c0 v hc0 e').wipeCell
 ·exact h.wipeCell
theorem Rep.wipeR {E:Env} {G:Ghost} {a:AVal} {v:Value} (h:Rep E G a v):Rep E G (wipeR a) v:=by
 unfold Abs.wipeR
 split
 ·cases h with
  | tuple hl hr =>
    refine .tuple (by simpa using hl) fun i c v e e'=>?_
    rw[List.getElem?_map] at e
    obtain⟨c0,hc0,rfl⟩:=Option.map_eq_some_iff.1 e
    exact (hr i c0 v hc0 e').wipe
 ·exact h.wipe
theorem qhV (a:AVal):(acells (wipe a)).length=(acells a).length:=by
 cases a<;>simp[wipe,wipeCell,acells]
theorem qcg:∀ {l:List AVal},qax l=true→∀ {i:Nat} {c:AVal},l[i]? = some c→qaH c=true:=by
 intro l
 induction l with
 | nil=>intro _ i c e;simp at e
 | cons x xs ih =>
   intro h i c e
   simp only[qax,Bool.and_eq_true] at h
   cases i with
   | zero=>simp at e;rw[← e];exact h.1
   | succ i=>exact ih h.2 (by simpa using e)
theorem qjD {x c:AVal} (h:qaH x=true) (hc:c∈acells x):qaH c=true:=by
 cases x with
 | agg cs =>
   simp only[qaH] at h
   obtain⟨i,hi⟩:=List.getElem?_of_mem hc
   exact qcg h hi
 | _=>simp[acells] at hc;rw[hc];exact h
theorem Rep.data {E:Env} {G G':Ghost} (hf:∀ b o v,G.fix b o=some v→G'.fix b o=some v) {a:AVal} {v:Value} (h:Rep E G a v):qaH a=true→Rep E G' a v:=by
 induction h with
 | junk v=>intro _;exact .junk v
 | bool b=>intro _;exact .bool b
 | int k n=>intro _;exact .int k n
 | str s=>intro _;exact .str s
 | @list xs own A n cap sz vs hn hcap hsz ha hl hr ho ih =>
   intro hd
   simp only[qaH,Bool.and_eq_true] at hd
   refine .list sz vs hn hcap hsz (fun hx=>?_) hl (fun i c v e e'=>ih i c v e e' ?_) ?_
   ·obtain⟨b,o,e,hff⟩:=ha hx
    exact⟨b,o,e,fun i v hv=>hf _ _ _ (hff i v hv)⟩
   ·have hm:c∈xs.flatMap acells:=List.mem_of_getElem? e
    obtain⟨x,hx,hcx⟩:=List.mem_flatMap.1 hm
    obtain⟨j,hj⟩:=List.getElem?_of_mem hx
    exact qjD (qcg hd.1 hj) hcx
   ·cases own with
    | none=>trivial
    | some q =>
      cases q with
      | none=>exact ho
      | some id=>simp at hd
 | ref hb hcap=>intro hd;simp[qaH] at hd
 | vec hb ht hn=>intro hd;simp[qaH] at hd
 | ptrNil=>intro _;exact .ptrNil
 | ptr hb=>intro hd;simp[qaH] at hd
 | vptr vs hl hff hr ih =>
   intro hd
   simp only[qaH] at hd
   exact .vptr vs hl (fun i v hv=>hf _ _ _ (hff i v hv)) (fun i c v e e'=>ih i c v e e' (qcg hd e))
 | mapNil=>intro _;exact .mapNil
 | map hb=>intro hd;simp[qaH] at hd
 | func hk hla hlb ha hb iha ihb =>
   intro hd
   simp only[qaH,Bool.and_eq_true] at hd
   exact .func hk hla hlb (fun i c v e e'=>iha i c v e e' (qcg hd.1 e)) (fun i c v e e'=>ihb i c v e e' (qcg hd.2 e))
 | nilFunc=>intro _;exact .nilFunc
 | iface ht h ih=>intro hd;exact .iface ht (ih (by simpa[qaH] using hd))
 | nilIface=>intro _;exact .nilIface
 | agg hl hr ih =>
   intro hd
   simp only[qaH] at hd
   exact .agg hl (fun i c v e e'=>ih i c v e e' (qcg hd e))
 | tuple hl hr ih =>
   intro hd
   simp only[qaH] at hd
   exact .tuple hl (fun i c v e e'=>ih i c v e e' (qcg hd e))
def qcz (G:Ghost) (id:Nat) (o:AObj) (b:Nat):Prop :=
 match o with
 | .gone=>False
 | .box _=>G.blk id=some b
 | .map _=>G.blk id=some b
 | .tail n sz=>∃ cap,G.tl id n=some (b,cap,sz)
 | .vec _ _=>G.blk id=some b
def Own (G:Ghost) (h:Heap) (b:Nat):Prop:=∃ id o,h[id]? = some o∧qcz G id o b
structure RepE (E:Env) (G:Ghost) (es:List (AVal × AVal)) (vs:List MapEntry):Prop where
 len:vs.length=es.length
 rep:∀ (i:Nat) (e:AVal × AVal) (v:MapEntry),es[i]? = some e→vs[i]? = some v→Rep E G e.1 v.key∧Rep E G e.2 v.val
def qkk (es:List (AVal × AVal)):Prop:=es.Pairwise fun e f=>qc2 e.1 f.1=some false
def qnj (vs:List MapEntry) (clk:Nat):Prop:=(∀ v∈vs,v.born<clk)∧vs.Pairwise fun a b=>a.born≠b.born
theorem qi5 {a b:AVal} {r:Bool} (h:qc2 a b=some r):qc2 b a=some r:=by
 unfold qc2 at h ⊢
 split at h
 ·rename_i k x k' y
  split at h
  ·rename_i hk
   injection h with h
   subst hk h
   rw[if_pos rfl]
   by_cases hxy:x=y
   ·rw[hxy]
   ·have h1:(x==y)=false:=by simpa using hxy
    have h2:(y==x)=false:=by simpa using fun h=>hxy h.symm
    rw[h1,h2]
  ·cases h
 ·rename_i x y
  injection h with h
  subst h
  by_cases hxy:x=y
  ·rw[hxy]
  ·simp only[hxy]
   simp[Ne.symm hxy]
 ·rename_i x y
  injection h with h
  subst h
  cases x<;>cases y<;>rfl
 ·cases h
theorem qnH {a b:AVal} (h:qc2 a b=some true):a=b:=by
 unfold qc2 at h
 split at h
 ·split at h
  ·rename_i hk
   simp at h
   rw[hk,h]
  ·cases h
 ·simp at h;rw[h]
 ·simp at h;rw[h]
 ·cases h
def ObjOk (E:Env) (G:Ghost) (w:World) (id:Nat) (o:AObj):Prop :=
 match o with
 | .gone=>True
 | .box cs=>∃ b vs t,G.blk id=some b∧w.heap[b]? = some (.cells vs t (0,0))∧RepL E G cs vs.toList∧∀ o,G.fix b o=none
 | .map es=>∃ b vs clk es',G.blk id=some b∧w.heap[b]? = some (.map vs clk)∧es'.Perm es∧qkk es'∧RepE E G es' vs.toList∧qnj vs.toList clk∧∀ o,G.fix b o=none
 | .tail n sz=>∃ b cap vs t,G.tl id n=some (b,cap,sz)∧w.heap[b]? = some (.cells vs t (0,0))∧vs.size=cap*sz∧n≤cap∧(∀ o,n*sz≤o→G.fix b o=none)∧∀ m,n<m→G.tl id m=none
 | .vec cs sz=>∃ b cap vs t,G.blk id=some b∧w.heap[b]? = some (.cells vs t (0,0))∧vs.size=cap*sz∧cs.length≤vs.size∧RepL E G cs (vs.toList.take cs.length)∧(∀ o,G.fix b o=none)∧∀ m x,G.tl id m=some x→x=(b,cap,sz)
def TabFact (E:Env) (G:Ghost) (w:World):Prop:=∀ g n,E.gsz g=some n→(∃ cs t fz,w.heap[g]? = some (.cells cs t fz)∧cs.size=n)∧G.fix g 0≠none
theorem TabFact.keep {E:Env} {G G':Ghost} {w w':World} (ht:TabFact E G w) (hle:∀ b o v,G.fix b o=some v→G'.fix b o=some v) (hb:∀ b,b<w.heap.size→w'.heap[b]? = w.heap[b]?):TabFact E G' w':=by
 intro g n hg
 obtain⟨⟨cs,t,fz,h1,h2⟩,h3⟩:=ht g n hg
 refine⟨⟨cs,t,fz,?_,h2⟩,?_⟩
 ·rw[hb g (Array.getElem?_eq_some_iff.1 h1).1,h1]
 ·cases hx:G.fix g 0 with
  | none=>exact absurd hx h3
  | some v=>rw[hle g 0 v hx];exact fun hx=>by cases hx
theorem TabFact.write {E:Env} {G G':Ghost} {w w':World} (ht:TabFact E G w) (hle:∀ b o v,G.fix b o=some v→G'.fix b o=some v) {b:Nat} (hb:∀ k,k≠b→w'.heap[k]? = w.heap[k]?)
  (hs:G.fix b 0≠none→∀ cs t fz,w.heap[b]? = some (.cells cs t fz)→∃ cs' t' fz',w'.heap[b]? = some (.cells cs' t' fz')∧cs'.size=cs.size):TabFact E G' w':=by
 intro g n hg
 obtain⟨⟨cs,t,fz,h1,h2⟩,h3⟩:=ht g n hg
 refine⟨?_,?_⟩
 ·by_cases hx:g=b
  ·subst hx
   obtain⟨cs',t',fz',h4,h5⟩:=hs h3 cs t fz h1
   exact⟨cs',t',fz',h4,h5.trans h2⟩
  ·exact⟨cs,t,fz,by rw[hb g hx,h1],h2⟩
 ·cases hx:G.fix g 0 with
  | none=>exact absurd hx h3
  | some v=>rw[hle g 0 v hx];exact fun hx=>by cases hx
structure Inv (E:Env) (G:Ghost) (h:Heap) (w:World):Prop where
 fix:∀ b o v,G.fix b o=some v→w.cell? ⟨b,o,none⟩=some v
 one:∀ b o v,G.fix b o=some v→v.oneCell'=true
 obj:∀ id o,h[id]? = some o→ObjOk E G w id o
 sep:∀ id o id' o' b,h[id]? = some o→h[id']? = some o'→qcz G id o b→qcz G id' o' b→id=id'
 dom:∀ id,h.length≤id→G.blk id=none∧∀ n,G.tl id n=none
 tab:TabFact E G w
structure Post (E:Env) (G:Ghost) (h:Heap) (w:World) (G':Ghost) (h':Heap) (w':World):Prop where
 le:G.le G'
 inv:Inv E G' h' w'
 size:w.heap.size≤w'.heap.size
 block:∀ b,b<w.heap.size→¬ Own G h b→w'.heap[b]? = w.heap[b]?
 fixed:∀ b o,G'.fix b o≠none→G.fix b o≠none∨Own G h b∨w.heap.size≤b
 owned:∀ b,Own G' h' b→Own G h b∨w.heap.size≤b
 os:w'.os=w.os
 tape:w'.tape=w.tape
 output:w'.output=w.output
theorem Post.refl {E:Env} {G:Ghost} {h:Heap} {w:World} (hi:Inv E G h w):Post E G h w G h w :=
 ⟨.refl G,hi,Nat.le_refl _,fun _ _ _=>rfl,fun _ _ e=>.inl e,fun _ e=>.inl e,rfl,rfl,rfl⟩
theorem Post.trans {E:Env} {G G' G'':Ghost} {h h' h'':Heap} {w w' w'':World} (p:Post E G h w G' h' w') (q:Post E G' h' w' G'' h'' w''):Post E G h w G'' h'' w'' where
 le:=p.le.trans q.le
 inv:=q.inv
 size:=Nat.le_trans p.size q.size
 block b hb hn:=by
  rw[q.block b (Nat.lt_of_lt_of_le hb p.size) (fun ho=>?_),p.block b hb hn]
  rcases p.owned b ho with h1 | h1
  ·exact hn h1
  ·omega
 fixed b o e:=by
  rcases q.fixed b o e with h1 | h1 | h1
  ·exact p.fixed b o h1
  ·exact .inr (p.owned b h1)
  ·exact .inr (.inr (Nat.le_trans p.size h1))
 owned b e:=by
  rcases q.owned b e with h1 | h1
  ·exact p.owned b h1
  ·exact .inr (Nat.le_trans p.size h1)
 os:=q.os.trans p.os
 tape:=q.tape.trans p.tape
 output:=q.output.trans p.output
theorem Inv.drew {E:Env} {G:Ghost} {h:Heap} {w:World} (hi:Inv E G h w):Inv E G h w.drew :=
 ⟨hi.fix,hi.one,hi.obj,hi.sep,hi.dom,hi.tab⟩
theorem Post.drew {E:Env} {G:Ghost} {h:Heap} {w:World} (hi:Inv E G h w):Post E G h w G h w.drew :=
 ⟨.refl G,hi.drew,Nat.le_refl _,fun _ _ _=>rfl,fun _ _ e=>.inl e,fun _ e=>.inl e,rfl,rfl,rfl⟩
theorem Inv.fix_lt {E:Env} {G:Ghost} {h:Heap} {w:World} (hi:Inv E G h w) {b o:Nat} (hf:G.fix b o≠none):b<w.heap.size:=by
 cases hx:G.fix b o with
 | none=>exact absurd hx hf
 | some v=>exact World.block_lt_of_cell? w _ (hi.fix b o v hx)
theorem Inv.own_lt {E:Env} {G:Ghost} {h:Heap} {w:World} (hi:Inv E G h w) {b:Nat} (ho:Own G h b):b<w.heap.size:=by
 obtain⟨id,o,he,hw⟩:=ho
 have hk:=hi.obj id o he
 cases o with
 | gone=>exact hw.elim
 | box cs =>
   obtain⟨b',vs,t,hb,hh,_⟩:=hk
   have:b'=b:=by have hw':G.blk id=some b:=hw;rw[hb] at hw';injection hw'
   subst this
   exact (Array.getElem?_eq_some_iff.1 hh).1
 | map es =>
   obtain⟨b',vs,t,es',hb,hh,_⟩:=hk
   have:b'=b:=by have hw':G.blk id=some b:=hw;rw[hb] at hw';injection hw'
   subst this
   exact (Array.getElem?_eq_some_iff.1 hh).1
 | tail n sz =>
   obtain⟨b',cap,vs,t,hb,hh,_⟩:=hk
   obtain⟨cap',hw'⟩:=hw
   have:b'=b:=by rw[hb] at hw';injection hw' with h1;injection h1
   subst this
   exact (Array.getElem?_eq_some_iff.1 hh).1
 | vec cs sz =>
   obtain⟨b',cap,vs,t,hb,hh,_⟩:=hk
   have:b'=b:=by have hw':G.blk id=some b:=hw;rw[hb] at hw';injection hw'
   subst this
   exact (Array.getElem?_eq_some_iff.1 hh).1
end Go.Abs
