/-
  Maps, lengths, arithmetic: what the abstract machine answers, the model answers. Conditions: none.
-/
import Derived.Test.YtpchghpipgpkfaaDoorAbsH
import Derived.Laws.StructEq
import Derived.Laws.Strings
set_option linter.unusedVariables false
namespace Go.Abs
variable {E:Env} {G:Ghost} {h:Heap} {w:World}
theorem qro (a b:ByteArray):(a==b)=decide (a=b):=by
 rw[Bool.eq_iff_iff,decide_eq_true_iff]
 obtain⟨x⟩:=a
 obtain⟨y⟩:=b
 constructor
 ·intro h
  have e:x=y:=by simpa using (show (x==y)=true from h)
  rw[e]
 ·intro h
  cases h
  show (x==x)=true
  simp
theorem qdh (x y:ByteArray):(x.toList==y.toList)=decide (x=y):=by
 rw[Bool.eq_iff_iff,decide_eq_true_iff,beq_iff_eq,ByteArray.toList_eq,ByteArray.toList_eq]
 exact⟨fun h=>ByteArray.ext (Array.toList_inj.mp h),fun h=>by rw[h]⟩
theorem qe7 {P:Program} {w:World} {r:Nat} {vs:Array MapEntry} {clk:Nat} (hr:w.heap[r]? = some (.map vs clk)):(getObj r).run P w=.ok (.map vs clk) w:=by
 simp only[getObj,Sem.run,hr]
theorem qna {P:Program} {w:World} {r:Nat} {vs:Array MapEntry} {clk:Nat} (o:Obj) (hr:w.heap[r]? = some (.map vs clk)):(setObj r o).run P w=.ok () { w with heap:=w.heap.setIfInBounds r o }:=by
 simp only[setObj,Sem.run,hr]
def qoV:TypeDesc→Bool
 | .int _ | .string | .bool=>true
 | _=>false
theorem qe8 {d:Option TypeDesc} {k:KeyK} (h:qiv d=some k):∃ d',d=some d'∧qoV d'=true:=by
 unfold qiv at h
 split at h<;>first | exact⟨_,rfl,rfl⟩ | cases h
theorem qjt {P:Program} {w:World} {t:TypeId} {d:TypeDesc} (hd:P.underlying t=some d) (hk:qoV d=true) (b:Bool) (n:Nat) (v:Value):(Instr.checkKey b (n+1) t v).run P w=.ok () w:=by
 cases d<;>simp[qoV] at hk<;>simp[Instr.checkKey,run_underlying hd]
theorem qAv {d:TypeDesc} {kk:KeyK} (hk:qiv (some d)=some kk) {k:IntKind} {n:Int} (hkb:qc3 kk (.int k n)=true):∃ q,d=.int q:=by
 cases kk with
 | int=>cases d<;>first | exact⟨_,rfl⟩ | (simp[qiv] at hk)
 | string=>simp[qc3] at hkb
 | bool=>simp[qc3] at hkb
theorem qAw {d:TypeDesc} {kk:KeyK} (hk:qiv (some d)=some kk) {s:ByteArray} (hkb:qc3 kk (.str s)=true):d=.string:=by
 cases kk with
 | string=>cases d<;>first | rfl | (simp[qiv] at hk)
 | int=>simp[qc3] at hkb
 | bool=>simp[qc3] at hkb
theorem qxA {d:TypeDesc} {kk:KeyK} (hk:qiv (some d)=some kk) {b:Bool} (hkb:qc3 kk (.bool b)=true):d=.bool:=by
 cases kk with
 | bool=>cases d<;>first | rfl | (simp[qiv] at hk)
 | int=>simp[qc3] at hkb
 | string=>simp[qc3] at hkb
theorem qtp {d:TypeDesc} {kk:KeyK} (hk:qiv (some d)=some kk) {a b:AVal} {x y:Value} (hx:Rep E G a x) (hy:Rep E G b y) (hkb:qc3 kk a=true) {r:Bool} (hr:qc2 a b=some r) :
  Instr.sameNow d x y=some r∧(r=true→Instr.sameBits 10000 y x=true):=by
 unfold qc2 at hr
 split at hr
 ·split at hr
  ·rename_i hkk
   subst hkk
   injection hr with hr
   subst hr
   cases hx with
   | int k n =>
     cases hy with
     | int k' m =>
       obtain⟨q,rfl⟩:=qAv hk hkb
       exact⟨by simp[Instr.sameNow],fun h=>by simp at h;simp[Instr.sameBits,h]⟩
  ·cases hr
 ·injection hr with hr
  subst hr
  cases hx with
  | str s =>
    cases hy with
    | str s' =>
      obtain rfl:=qAw hk hkb
      exact⟨by simp only[Instr.sameNow,qro],fun h=>by simp only[Instr.sameBits,qro];simpa[eq_comm] using h⟩
 ·injection hr with hr
  subst hr
  cases hx with
  | bool s =>
    cases hy with
    | bool s' =>
      obtain rfl:=qxA hk hkb
      exact⟨by simp[Instr.sameNow],fun h=>by simp at h;simp[Instr.sameBits,h]⟩
 ·cases hr
theorem Rep.tupleL {cs:List AVal} {vs:Array Value} (hr:RepL E G cs vs.toList):Rep E G (.tuple cs) (.tuple vs) :=
 .tuple (by simpa using hr.len) (fun i c v e e'=>hr.rep i c v e (by simpa using e'))
theorem qiZ {d:TypeDesc} {kk:KeyK} (hk:qiv (some d)=some kk) {a:AVal} {x:Value} (hx:Rep E G a x) (hkb:qc3 kk a=true) :
  ∀ (es:List (AVal × AVal)) (vs:List MapEntry) (i:Nat),RepE E G es vs →
   (qbb a es i=some none→Instr.findNow d x vs i=some none) ∧
   (∀ j v,qbb a es i=some (some (j,v))→∃ y e,Instr.findNow d x vs i=some (some (j,y))∧Rep E G v y∧i≤j∧vs[j-i]? = some e∧Instr.sameBits 10000 e.key x=true)
 | [],vs,i,hr => by
   have:vs=[]:=List.eq_nil_of_length_eq_zero hr.len
   subst this
   exact⟨fun _=>rfl,fun j v h=>by simp[qbb] at h⟩
 | e::es,[],i,hr=>by have:=hr.len;simp at this
 | e :: es,u :: vs,i,hr => by
   have h0:=hr.rep 0 e u rfl rfl
   have hr':RepE E G es vs:=⟨by have:=hr.len;simpa using this,fun j e' v' h1 h2=>hr.rep (j+1) e' v' (by simpa using h1) (by simpa using h2)⟩
   have ih:=qiZ hk hx hkb es vs (i+1) hr'
   cases hq:qc2 a e.1 with
   | none=>exact⟨fun h=>by simp[qbb,hq] at h,fun j v h=>by simp[qbb,hq] at h⟩
   | some b =>
     obtain⟨hs,hsb⟩:=qtp hk hx h0.1 hkb hq
     cases b with
     | true =>
       refine⟨fun h=>by simp[qbb,hq] at h,fun j v h=>?_⟩
       simp only[qbb,hq,Option.some.injEq,Prod.mk.injEq] at h
       obtain⟨rfl,rfl⟩:=h
       exact⟨u.val,u,by simp[Instr.findNow,hs],h0.2,Nat.le_refl _,by simp,hsb rfl⟩
     | false =>
       refine⟨fun h=>?_,fun j v h=>?_⟩
       ·simp only[qbb,hq] at h
        simp only[Instr.findNow,hs]
        exact ih.1 h
       ·simp only[qbb,hq] at h
        obtain⟨y,e',h1,h2,h3,h4,h5⟩:=ih.2 j v h
        refine⟨y,e',by simp only[Instr.findNow,hs];exact h1,h2,by omega,?_,h5⟩
        rw[show j-i=(j-(i+1))+1 by omega]
        simpa using h4
theorem qi8 (hi:Inv E G h w) {id:Nat} {es:List (AVal × AVal)} (he:h[id]? = some (.map es)) {b:Nat} (hb:G.blk id=some b) :
  ∃ vs clk es',w.heap[b]? = some (.map vs clk)∧es'.Perm es∧qkk es'∧RepE E G es' vs.toList∧qnj vs.toList clk∧∀ o,G.fix b o=none:=by
 obtain⟨b',vs,clk,es',h1,h2,h3,h4,h5,h6,h7⟩:=hi.obj id _ he
 have:b'=b:=by rw[hb] at h1;injection h1 with h1;exact h1.symm
 subst this
 exact⟨vs,clk,es',h2,h3,h4,h5,h6,h7⟩
theorem qd5 {a:AVal}:∀ {es:List (AVal × AVal)} {i:Nat},qbb a es i=some none↔∀ e∈es,qc2 a e.1=some false
 | [],i=>by simp[qbb]
 | e :: es,i => by
   rw[qbb]
   cases hq:qc2 a e.1 with
   | none=>simp[hq]
   | some b =>
     cases b with
     | true=>simp[hq]
     | false=>simp[hq,qd5 (es:=es)]
theorem qia {a v:AVal}:∀ {es:List (AVal × AVal)} {i j:Nat},qbb a es i=some (some (j,v))→∃ e∈es,qc2 a e.1=some true∧e.2=v
 | [],i,j,h=>by simp[qbb] at h
 | e :: es,i,j,h => by
   rw[qbb] at h
   cases hq:qc2 a e.1 with
   | none=>rw[hq] at h;cases h
   | some b =>
     rw[hq] at h
     cases b with
     | true =>
       simp only[Option.some.injEq,Prod.mk.injEq] at h
       exact⟨e,by simp,hq,h.2⟩
     | false =>
       obtain⟨f,hf,h1,h2⟩:=qia h
       exact⟨f,by simp[hf],h1,h2⟩
theorem qkW {a v:AVal}:∀ {es:List (AVal × AVal)} {i:Nat},qkk es→(∃ e∈es,qc2 a e.1=some true∧e.2=v)→∃ j,qbb a es i=some (some (j,v))∧i≤j
 | [],i,_,⟨e,he,_⟩=>by cases he
 | e :: es,i,hk,⟨f,hf,h1,h2⟩ => by
   unfold qkk at hk
   rw[List.pairwise_cons] at hk
   rw[qbb]
   rcases List.mem_cons.1 hf with rfl | hf
   ·rw[h1]
    subst h2
    exact⟨i,rfl,Nat.le_refl _⟩
   ·have h3:=hk.1 f hf
    have h4:=qnH h1
    rw[← h4] at h3
    rw[qi5 h3]
    obtain⟨j,hj,hle⟩:=qkW (i:=i+1) (es:=es) hk.2 ⟨f,hf,h1,h2⟩
    exact⟨j,hj,by omega⟩
theorem qhl {a:AVal} {es es':List (AVal × AVal)} (hp:es'.Perm es) (h:qbb a es 0=some none):qbb a es' 0=some none :=
 qd5.2 fun e he=>qd5.1 h e (hp.mem_iff.1 he)
theorem qhm {a v:AVal} {j:Nat} {es es':List (AVal × AVal)} (hp:es'.Perm es) (hk:qkk es') (h:qbb a es 0=some (some (j,v))):∃ j',qbb a es' 0=some (some (j',v)):=by
 obtain⟨e,he,h1,h2⟩:=qia h
 obtain⟨j',hj,_⟩:=qkW (i:=0) hk ⟨e,hp.mem_iff.2 he,h1,h2⟩
 exact⟨j',hj⟩
theorem quB {a v:AVal}:∀ {es:List (AVal × AVal)} {i j:Nat},qbb a es i=some (some (j,v))→i≤j∧∃ e,es[j-i]? = some e∧qc2 a e.1=some true
 | [],i,j,h=>by simp[qbb] at h
 | e :: es,i,j,h => by
   rw[qbb] at h
   cases hq:qc2 a e.1 with
   | none=>rw[hq] at h;cases h
   | some b =>
     rw[hq] at h
     cases b with
     | true =>
       simp only[Option.some.injEq,Prod.mk.injEq] at h
       rw[← h.1]
       exact⟨Nat.le_refl _,e,by simp,hq⟩
     | false =>
       obtain⟨h1,f,h2,h3⟩:=quB h
       refine⟨by omega,f,?_,h3⟩
       rw[show j-i=(j-(i+1))+1 by omega]
       simpa using h2
theorem qoS (k v:AVal):∀ es:List (AVal × AVal),(qBf k v es).Perm (es++[(k,v)])
 | []=>.refl _
 | e :: es => by
   rw[qBf]
   split
   ·exact (List.perm_append_singleton (k,v) (e::es)).symm
   ·exact (qoS k v es).cons e
theorem qxB {es:List (AVal × AVal)} (hk:qkk es) {a:AVal} {i j:Nat} {e f:AVal × AVal} (hi:es[i]? = some e) (hj:es[j]? = some f) (h1:qc2 a e.1=some true) (hne:i≠j):qc2 a f.1=some false:=by
 obtain⟨hil,rfl⟩:=List.getElem?_eq_some_iff.1 hi
 obtain⟨hjl,rfl⟩:=List.getElem?_eq_some_iff.1 hj
 rw[qnH h1]
 rcases Nat.lt_or_gt_of_ne hne with h | h
 ·exact List.pairwise_iff_getElem.1 hk i j hil hjl h
 ·exact qi5 (List.pairwise_iff_getElem.1 hk j i hjl hil h)
theorem qs3 (hi:Inv E G h w) {am ak:AVal} {m k:Value} (hm:Rep E G am m) (hk:Rep E G ak k) {t kt et:TypeId} {d:TypeDesc} {kk:KeyK} {i:TypeInfo} {z:Value} (ht:E.P.underlying t=some (.map kt et))
  (hkt:E.P.underlying kt=some d) (hkk:qiv (some d)=some kk) (hn:E.P.info? et=some i) (hz:i.zero=some z) (ok:Bool) {r:AVal} (hr:qiP h kk (ofValue z) ok am ak=some r) :
  ∃ v,(Instr.lookup t m k ok).run E.P w=.ok v w∧Rep E G r v:=by
 unfold qiP at hr
 split at hr
 ·rename_i hkb
  have hkd:qoV d=true:=by obtain⟨d',e,h'⟩:=qe8 hkk;injection e with e;rw[e];exact h'
  have hck:=fun b=>qjt (P:=E.P) (w:=w) hkt hkd b 9999 k
  split at hr
  ·rename_i es hes0
   have hent:∃ (vs:Array MapEntry) (es':List (AVal × AVal)),es'.Perm es∧qkk es'∧RepE E G es' vs.toList∧(m=.map none∧vs = #[]∨∃ b clk,m=.map (some b)∧w.heap[b]? = some (.map vs clk)):=by
    unfold qpe at hes0
    split at hes0
    ·injection hes0 with hes0
     subst hes0
     cases hm with
     | mapNil=>exact⟨#[],[],.refl _,.nil,⟨rfl,fun i e v e1=>by simp at e1⟩,.inl ⟨rfl,rfl⟩⟩
    ·split at hes0
     ·rename_i hq
      injection hes0 with hes0
      subst hes0
      cases hm with
      | map hb =>
        obtain⟨vs,clk,es',h1,hp,hkd,h2,_⟩:=qi8 hi hq hb
        exact⟨vs,es',hp,hkd,h2,.inr ⟨_,clk,rfl,h1⟩⟩
     ·cases hes0
    ·cases hes0
   obtain⟨vs,es',hpm,hkd',hes,hmm⟩:=hent
   have hfk:=qiZ hkk hk hkb es' vs.toList 0 hes
   split at hr
   ·rename_i j v hq
    injection hr with hr
    subst hr
    obtain⟨j',hq'⟩:=qhm hpm hkd' hq
    obtain⟨y,e,h1,h2,_⟩:=hfk.2 _ v hq'
    refine⟨if ok then .tuple #[y,.bool true] else y,?_,?_⟩
    ·rcases hmm with ⟨rfl,rfl⟩ | ⟨b,clk,rfl,hb⟩
     ·simp[Instr.findNow] at h1
     ·simp[Instr.lookup,run_underlying ht,qe7 hb,hck,Instr.findKey,run_underlying hkt,h1]
    ·cases ok with
     | true=>exact .tupleL (RepL.cons h2 (RepL.one (.bool true)))
     | false=>exact h2
   ·rename_i hq
    injection hr with hr
    subst hr
    have h1:=hfk.1 (qhl hpm hq)
    have hrz:=qdz E G z
    refine⟨if ok then .tuple #[z,.bool false] else z,?_,?_⟩
    ·rcases hmm with ⟨rfl,rfl⟩ | ⟨b,clk,rfl,hb⟩
     ·simp[Instr.lookup,run_underlying ht,hck,Instr.findKey,run_underlying hkt,h1,qgB hn hz]
     ·simp[Instr.lookup,run_underlying ht,qe7 hb,hck,Instr.findKey,run_underlying hkt,h1,qgB hn hz]
    ·cases ok with
     | true=>exact .tupleL (RepL.cons hrz (RepL.one (.bool false)))
     | false=>exact hrz
   ·cases hr
  ·cases hr
 ·cases hr
theorem qjF (hi:Inv E G h w) {id:Nat} {es es':List (AVal × AVal)} (he:h[id]? = some (.map es)) {b:Nat} (hb:G.blk id=some b) {vs vs':Array MapEntry} {clk clk':Nat} {es2:List (AVal × AVal)}
  (hh:w.heap[b]? = some (.map vs clk)) (hpm:es2.Perm es') (hkd:qkk es2) (hr:RepE E G es2 vs'.toList) (hst:qnj vs'.toList clk'):Post E G h w G (h.set id (.map es')) { w with heap:=w.heap.setIfInBounds b (.map vs' clk') }:=by
 obtain⟨_,_,_,_,_,_,_,_,h4⟩:=qi8 hi he hb
 have hlt:b<w.heap.size:=(Array.getElem?_eq_some_iff.1 hh).1
 refine qfh hi he hb G _ (.refl G) rfl (fun _ _ _=>rfl) (fun _ _ _=>rfl) (fun q v e=>by rw[h4] at e;cases e) (fun q v e=>by rw[h4] at e;cases e)
  (fun k hk=>by simp[Array.getElem?_setIfInBounds_ne (Ne.symm hk)]) (by simp) rfl rfl rfl (fun n hn=>(hi.dom id hn).2 n) (fun b2 hw=>by have hw':G.blk id=some b2:=hw;rw[hb] at hw';injection hw' with hw';exact hw'.symm) ?_ (fun hx=>absurd (h4 0) hx)
 exact⟨b,vs',clk',es2,hb,by simp[hlt],hpm,hkd,hr,hst,h4⟩
theorem qiy (hi:Inv E G h w) {am ak av:AVal} {m k v:Value} (hm:Rep E G am m) (hk:Rep E G ak k) (hv:Rep E G av v) {t kt et:TypeId} {d:TypeDesc} {kk:KeyK} (ht:E.P.underlying t=some (.map kt et))
  (hkt:E.P.underlying kt=some d) (hkk:qiv (some d)=some kk) {h':Heap} (hr:qeh h kk am ak av=some h') :
  ∃ w',(Instr.mapUpdate t m k v).run E.P w=.ok () w'∧Post E G h w G h' w':=by
 unfold qeh at hr
 split at hr
 ·rename_i id
  split at hr
  ·rename_i es he
   split at hr
   ·rename_i hkb
    have hkd:qoV d=true:=by obtain⟨d',e,h'⟩:=qe8 hkk;injection e with e;rw[e];exact h'
    have hck:=fun b=>qjt (P:=E.P) (w:=w) hkt hkd b 9999 k
    cases hm with
    | @map _ b hb =>
    obtain⟨vs,clk,es',h1,hpm,hkd',h2,hst,h3⟩:=qi8 hi he hb
    have hfk:=qiZ hkk hk hkb es' vs.toList 0 h2
    split at hr
    ·rename_i j v0 hq
     injection hr with hr
     subst hr
     obtain⟨j',hq'⟩:=qhm hpm hkd' hq
     obtain⟨y,e,g1,g2,_,g4,g5⟩:=hfk.2 _ v0 hq'
     obtain⟨_,e0,he0,hke⟩:=quB hq'
     rw[Nat.sub_zero] at he0
     simp only[Nat.sub_zero,Array.getElem?_toList] at g4
     have hborn:(vs.modify j' fun e=>{ e with key:=k,val:=v }).toList.map (·.born)=vs.toList.map (·.born):=by
      refine List.ext_getElem? fun i=>?_
      simp only[List.getElem?_map,Array.getElem?_toList,Array.getElem?_modify]
      split
      ·rename_i hij
       subst hij
       cases vs[j']? <;> rfl
      ·rfl
     refine⟨_,?_,qjF hi he hb (vs':=vs.modify j' fun e=>{ e with key:=k,val:=v }) (clk':=clk) (es2:=qA0 ak (wipe av) es') h1 (hpm.map _) ?_ ⟨?_,fun i e1 v1 q1 q2=>?_⟩ ?_⟩
     ·simp[Instr.mapUpdate,run_underlying ht,qe7 h1,hck,Instr.findKey,run_underlying hkt,g1,Instr.keyThatStays,g4,g5,qna _ h1]
     ·unfold qkk qA0
      rw[List.pairwise_map]
      refine List.Pairwise.imp (fun {a b} hab=>?_) hkd'
      have h1:∀ x:AVal × AVal,(if qc2 ak x.1=some true then (ak,wipe av) else x).1=x.1:=fun x=>by
       split
       ·rename_i hx
        exact qnH hx
       ·rfl
      rw[h1,h1]
      exact hab
     ·have:=h2.len
      simpa[qA0] using this
     ·unfold qA0 at q1
      rw[List.getElem?_map] at q1
      obtain⟨e2,he2,rfl⟩:=Option.map_eq_some_iff.1 q1
      rw[Array.getElem?_toList,Array.getElem?_modify] at q2
      by_cases hij:j'=i
      ·subst hij
       rw[he0] at he2
       injection he2 with he2
       subst he2
       rw[if_pos hke]
       rw[if_pos rfl,g4] at q2
       simp only[Option.map_some,Option.some.injEq] at q2
       subst q2
       exact⟨hk,hv.wipe⟩
      ·rw[if_neg hij] at q2
       rw[qxB hkd' he0 he2 hke hij]
       rw[if_neg (by simp)]
       exact h2.rep i e2 v1 he2 (by simpa using q2)
     ·refine⟨fun x hx=>?_,?_⟩
      ·have:x.born∈vs.toList.map (·.born):=by rw[← hborn];exact List.mem_map.2 ⟨x,hx,rfl⟩
       obtain⟨y,hy,hxy⟩:=List.mem_map.1 this
       rw[← hxy]
       exact hst.1 y hy
      ·have h5:=hst.2
       rw[← List.pairwise_map (f:=fun x:MapEntry=>x.born) (R:=(· ≠ ·))] at h5 ⊢
       rw[hborn]
       exact h5
    ·rename_i hq
     injection hr with hr
     subst hr
     have hqn:=qhl hpm hq
     have g1:=hfk.1 hqn
     refine⟨_,?_,qjF hi he hb (vs':=vs.push { key:=k,val:=v,born:=clk }) (clk':=clk+1) (es2:=es'++[(ak,wipe av)]) h1 ?_ ?_ ⟨?_,fun i e1 v1 q1 q2=>?_⟩ ?_⟩
     ·simp[Instr.mapUpdate,run_underlying ht,qe7 h1,hck,Instr.findKey,run_underlying hkt,g1,qna _ h1]
     ·exact (hpm.append_right _).trans (qoS _ _ _).symm
     ·unfold qkk
      rw[List.pairwise_append]
      refine⟨hkd',List.pairwise_singleton _ _,fun x hx y hy=>?_⟩
      rw[List.mem_singleton.1 hy]
      exact qi5 (qd5.1 hqn x hx)
     ·have:=h2.len
      simp at this ⊢
      exact this
     ·rw[Array.toList_push] at q2
      have hl:=h2.len
      rcases qbk q1 with ⟨hlt,q1'⟩ | ⟨rfl,rfl⟩
      ·rw[List.getElem?_append_left (by rw[hl];exact hlt)] at q2
       exact h2.rep i e1 v1 q1' q2
      ·rw[← hl,List.getElem?_append_right (Nat.le_refl _),Nat.sub_self] at q2
       simp at q2
       subst q2
       exact⟨hk,hv.wipe⟩
     ·rw[Array.toList_push]
      refine⟨fun x hx=>?_,?_⟩
      ·rcases List.mem_append.1 hx with hx | hx
       ·exact Nat.lt_succ_of_lt (hst.1 x hx)
       ·rw[List.mem_singleton.1 hx]
        exact Nat.lt_succ_self _
      ·rw[List.pairwise_append]
       refine⟨hst.2,List.pairwise_singleton _ _,fun x hx y hy=>?_⟩
       rw[List.mem_singleton.1 hy]
       exact Nat.ne_of_lt (hst.1 x hx)
    ·cases hr
   ·cases hr
  ·cases hr
 ·cases hr
theorem qAD (hi:Inv E G h w) {av:AVal} {x:Value} (hx:Rep E G av x) {t:TypeId} (ty:TypeId) {k:LenK} (hk:lenOf (E.P.underlying t)=some k) {r:AVal} (hr:qbd h k av=some r) :
  ∃ v,(Builtin.len_ #[t] ty #[x]).run E.P w=.ok v w∧Rep E G r v:=by
 have hdd:(k=.str→E.P.underlying t=some .string)∧(k=.slice→∃ e,E.P.underlying t=some (.slice e))∧(k=.map→∃ a b,E.P.underlying t=some (.map a b)):=by
  unfold lenOf at hk
  split at hk
  ·rename_i h1;injection hk with hk;subst hk;exact⟨fun _=>h1,(fun h=>by cases h),(fun h=>by cases h)⟩
  ·rename_i h1;injection hk with hk;subst hk;exact⟨(fun h=>by cases h),fun _=>⟨_,h1⟩,(fun h=>by cases h)⟩
  ·rename_i h1;injection hk with hk;subst hk;exact⟨(fun h=>by cases h),(fun h=>by cases h),fun _=>⟨_,_,h1⟩⟩
  ·cases hk
 unfold qbd at hr
 split at hr
 ·injection hr with hr
  subst hr
  have hd:=hdd.1 rfl
  cases hx with
  | str=>exact⟨_,by simp[Builtin.len_,run_underlying hd,goInt],.int _ _⟩
 ·injection hr with hr
  subst hr
  obtain⟨e,hd⟩:=hdd.2.1 rfl
  cases hx with
  | @list _ _ A n cap sz vs hn hcap hsz ha hl hrr ho=>exact⟨.int .i64 n,by simp[Builtin.len_,run_underlying hd,goInt],by rw[← hn];exact .int _ _⟩
 ·injection hr with hr
  subst hr
  obtain⟨e,hd⟩:=hdd.2.1 rfl
  cases hx with
  | ref hb hcap=>exact⟨_,by simp[Builtin.len_,run_underlying hd,goInt],.int _ _⟩
 ·injection hr with hr
  subst hr
  obtain⟨e,hd⟩:=hdd.2.1 rfl
  cases hx with
  | vec hb ht hcap=>exact⟨_,by simp[Builtin.len_,run_underlying hd,goInt],.int _ _⟩
 ·injection hr with hr
  subst hr
  obtain⟨a,b,hd⟩:=hdd.2.2 rfl
  cases hx with
  | mapNil=>exact⟨.int .i64 0,by simp[Builtin.len_,run_underlying hd,goInt],.int _ _⟩
 ·split at hr
  ·rename_i es he
   injection hr with hr
   subst hr
   obtain⟨a,b,hd⟩:=hdd.2.2 rfl
   cases hx with
   | map hb =>
     obtain⟨vs,clk,es',h1,hpm,_,h2,_⟩:=qi8 hi he hb
     have hl:vs.size=es.length:=by have:=h2.len;rw[hpm.length_eq] at this;simpa using this
     exact⟨.int .i64 vs.size,by simp[Builtin.len_,run_underlying hd,qe7 h1,goInt],by rw[← hl];exact .int _ _⟩
  ·cases hr
 ·cases hr
theorem qzs {P:Program} (w:World) (op:BinOp) (k:IntKind) (x y:Int) {r:AVal} (hns:qab op=false) (hr:qaA op k x y=some r):∃ v,(binOp op 0 (.int k x) (.int k y)).run P w=.ok v w∧Rep E G r v:=by
 have hs:∀ op:BinOp,qab op=false→binOp op 0 (.int k x) (.int k y)=(match op with
   | .add | .sub | .mul=>Op.intArith op k x y
   | .quo | .rem=>Op.intDiv op k x y
   | .and | .or | .xor | .andNot=>Op.intBits op k x y
   | _=>Op.intCmp op x y):=by
  intro op h
  cases op<;>first | (simp[qab] at h;done) | simp[binOp]
 rw[hs op hns]
 cases op with
 | add=>injection hr with hr;subst hr;exact⟨_,rfl,.int _ _⟩
 | sub=>injection hr with hr;subst hr;exact⟨_,rfl,.int _ _⟩
 | mul=>injection hr with hr;subst hr;exact⟨_,rfl,.int _ _⟩
 | quo =>
   simp only[qaA] at hr
   split at hr
   ·cases hr
   ·rename_i h0;injection hr with hr;subst hr;refine⟨_,?_,.int _ _⟩;simp[Op.intDiv,h0]
 | rem =>
   simp only[qaA] at hr
   split at hr
   ·cases hr
   ·rename_i h0;injection hr with hr;subst hr;refine⟨_,?_,.int _ _⟩;simp[Op.intDiv,h0]
 | and=>injection hr with hr;subst hr;exact⟨_,rfl,.int _ _⟩
 | or=>injection hr with hr;subst hr;exact⟨_,rfl,.int _ _⟩
 | xor=>injection hr with hr;subst hr;exact⟨_,rfl,.int _ _⟩
 | andNot=>injection hr with hr;subst hr;exact⟨_,rfl,.int _ _⟩
 | eql=>injection hr with hr;subst hr;exact⟨_,rfl,.bool _⟩
 | neq=>injection hr with hr;subst hr;exact⟨_,rfl,.bool _⟩
 | lss=>injection hr with hr;subst hr;exact⟨_,rfl,.bool _⟩
 | leq=>injection hr with hr;subst hr;exact⟨_,rfl,.bool _⟩
 | gtr=>injection hr with hr;subst hr;exact⟨_,rfl,.bool _⟩
 | geq=>injection hr with hr;subst hr;exact⟨_,rfl,.bool _⟩
 | shl=>simp[qab] at hns
 | shr=>simp[qab] at hns
theorem qhi (P:Program) (w:World) (op:BinOp) (t t':TypeId) (k:IntKind) (x:Int) (k':IntKind) (y:Int):(binOp op t (.int k x) (.int k' y)).run P w=(binOp op t' (.int k x) (.int k' y)).run P w:=by
 cases op<;>rfl
theorem ql1 (P:Program) (w:World) (op:BinOp) (t t':TypeId) (x y:ByteArray):(binOp op t (.string x) (.string y)).run P w=(binOp op t' (.string x) (.string y)).run P w:=by
 cases op<;>rfl
theorem qv9 {P:Program} (w:World) (op:BinOp) (k k':IntKind) (x y:Int) {r:AVal} (hs:qab op=true) (hr:qtK op k x y=some r):∃ v,(binOp op 0 (.int k x) (.int k' y)).run P w=.ok v w∧Rep E G r v:=by
 unfold qtK at hr
 split at hr
 ·cases hr
 ·rename_i h0
  cases op<;>simp[qab] at hs
  ·injection hr with hr
   subst hr
   exact⟨_,by simp[binOp,Op.shift,h0],.int _ _⟩
  ·injection hr with hr
   subst hr
   exact⟨_,by simp[binOp,Op.shift,h0],.int _ _⟩
theorem qA2 {P:Program} (w:World) (op:BinOp) (x y:ByteArray) {r:AVal} (hr:qCg op x y=some r):∃ v,(binOp op 0 (.string x) (.string y)).run P w=.ok v w∧Rep E G r v:=by
 have hs:∀ op:BinOp,binOp op 0 (.string x) (.string y)=Op.stringOp op x y:=by intro op;cases op<;>rfl
 rw[hs op]
 cases op with
 | add =>
   simp only[qCg] at hr
   split at hr
   ·rename_i h0
    injection hr with hr
    subst hr
    refine⟨_,?_,.str _⟩
    have hx:¬ (((x.size+y.size:Nat):Int) > IntKind.i64.max):=by
     have:IntKind.i64.max=9223372036854775807:=by decide
     rw[this]
     omega
    simp only[Op.stringOp]
    rw[if_neg hx]
    rfl
   ·cases hr
 | eql=>injection hr with hr;subst hr;exact⟨_,by simp only[Op.stringOp,qdh];rfl,.bool _⟩
 | neq=>injection hr with hr;subst hr;exact⟨_,by simp only[Op.stringOp,qdh];rfl,.bool _⟩
 | lss=>injection hr with hr;subst hr;exact⟨_,by simp only[Op.stringOp];rfl,.bool _⟩
 | leq=>injection hr with hr;subst hr;exact⟨_,by simp only[Op.stringOp,qdh];rfl,.bool _⟩
 | gtr=>injection hr with hr;subst hr;exact⟨_,by simp only[Op.stringOp,qdh];rfl,.bool _⟩
 | geq=>injection hr with hr;subst hr;exact⟨_,by simp only[Op.stringOp];rfl,.bool _⟩
 | _=>cases hr
theorem qxa {P:Program} (w:World) (n:Nat) {t:TypeId} {ax ay:AVal} {x y:Value} (hx:Rep E G ax x) (hy:Rep E G ay y) {b:Bool} (hr:aEq (qe4 (P.underlying t)) ax ay=some b):(Op.equalIn (n+1) t x y).run P w=.ok b w:=by
 cases hd:P.underlying t with
 | none=>rw[hd] at hr;simp[qe4,aEq] at hr
 | some d =>
   rw[hd] at hr
   rw[Op.equalIn,Sem.run_bind,run_underlying hd,Result.andThen_ok]
   unfold aEq at hr
   split at hr
   ·rename_i hk;cases d<;>simp[qe4] at hk
    cases hx;cases hy
    injection hr with hr;subst hr
    rfl
   ·rename_i hk;cases d<;>simp[qe4] at hk
    cases hx
    cases hy with
    | ptrNil=>injection hr with hr;subst hr;rfl
    | ptr hb=>injection hr with hr;subst hr;rfl
   ·rename_i hk;cases d<;>simp[qe4] at hk
    cases hx;cases hy
    injection hr with hr;subst hr
    rfl
   ·rename_i hk;cases d<;>simp[qe4] at hk
    cases hx;cases hy
    injection hr with hr;subst hr
    rfl
   ·rename_i hk;cases d<;>simp[qe4] at hk
    cases hx;cases hy
    injection hr with hr;subst hr
    rfl
   ·rename_i hk;cases d<;>simp[qe4] at hk
    cases hx
    cases hy with
    | mapNil=>injection hr with hr;subst hr;rfl
    | map hb=>injection hr with hr;subst hr;rfl
   ·rename_i hk;cases d<;>simp[qe4] at hk
    cases hx;cases hy
    injection hr with hr;subst hr
    rfl
   ·rename_i hk;cases d<;>simp[qe4] at hk
    cases hx;cases hy
    injection hr with hr;subst hr
    rfl
   ·rename_i hk;cases d<;>simp[qe4] at hk
    cases hx;cases hy
    injection hr with hr;subst hr
    rfl
   ·rename_i hk;cases d<;>simp[qe4] at hk
    cases hx;cases hy
    injection hr with hr;subst hr
    rfl
   ·rename_i hk;cases d<;>simp[qe4] at hk
   ·cases hr
theorem qyz {P:Program} (w:World) {t:TypeId} {ax ay:AVal} {x y:Value} (hx:Rep E G ax x) (hy:Rep E G ay y) {b:Bool} (hr:aEq (qe4 (P.underlying t)) ax ay=some b):(Op.equal t x y).run P w=.ok b w :=
 qxa w 9999 hx hy hr
def qnQ (l:List AVal) (i:Nat):Int:=match l[i]? with | some (.int _ n)=>n | _=>0
theorem qgP:∀ {as bs:List AVal} {b:Bool},qdv as bs=some b→bs.length=as.length∧(∀ i,i<as.length→∃ k a c,as[i]? = some (.int k a)∧bs[i]? = some (.int k c))∧b=(List.range as.length).all fun i=>qnQ as i==qnQ bs i
 | [],[],b,h => by
   injection h with h
   subst h
   exact⟨rfl,fun i hi=>absurd hi (by simp),rfl⟩
 | .int k x :: as,.int k' y :: bs,b,h => by
   rw[qdv] at h
   split at h
   ·rename_i hk
    subst hk
    obtain⟨r,hr,rfl⟩:=Option.map_eq_some_iff.1 h
    obtain⟨h1,h2,h3⟩:=qgP hr
    refine⟨by simp[h1],fun i hi=>?_,?_⟩
    ·cases i with
     | zero=>exact⟨k,x,y,rfl,rfl⟩
     | succ i=>simpa using h2 i (by simpa using hi)
    ·rw[List.length_cons,List.range_succ_eq_map,List.all_cons,List.all_map,h3]
     rfl
   ·cases h
 | [],_::_,_,h=>by simp[qdv] at h
 | .int _ _::_,[],_,h=>by simp[qdv] at h
 | .int _ _::_,.junk::_,_,h | .int _ _::_,.bool _::_,_,h | .int _ _::_,.str _::_,_,h | .int _ _::_,.list _ _::_,_,h | .int _ _::_,.ref _ _ _::_,_,h | .int _ _::_,.vec _ _::_,_,h | .int _ _::_,.ptr _::_,_,h | .int _ _::_,.vptr _ _::_,_,h | .int _ _::_,.map _::_,_,h
 | .int _ _::_,.func _ _ _::_,_,h | .int _ _::_,.nilFunc::_,_,h | .int _ _::_,.iface _ _::_,_,h | .int _ _::_,.nilIface::_,_,h | .int _ _::_,.agg _::_,_,h | .int _ _::_,.tuple _::_,_,h=>by simp[qdv] at h
 | .junk::_,_,_,h | .bool _::_,_,_,h | .str _::_,_,_,h | .list _ _::_,_,_,h | .ref _ _ _::_,_,_,h | .vec _ _::_,_,_,h | .ptr _::_,_,_,h | .vptr _ _::_,_,_,h | .map _::_,_,_,h | .func _ _ _::_,_,_,h | .nilFunc::_,_,_,h | .iface _ _::_,_,_,h
 | .nilIface::_,_,_,h | .agg _::_,_,_,h | .tuple _::_,_,_,h=>by simp[qdv] at h
theorem qgL {P:Program} {w:World} {e:TypeId} {k0:IntKind} (he:P.underlying e=some (.int k0)) {as:List AVal} {xs:Array Value} (hx:Rep E G (.agg as) (.agg xs)) {i:Nat} {k:IntKind} {a:Int} (hi:as[i]? = some (.int k a)) :
  (part e xs (i*1)).run P w=.ok (.int k a) w:=by
 cases hx with
 | agg hl hrr =>
   have hlt:i<xs.size:=by rw[hl];exact (List.getElem?_eq_some_iff.1 hi).1
   have hv:xs[i]? = some xs[i]:=Array.getElem?_eq_getElem hlt
   have:=hrr i _ _ hi hv
   generalize hq:xs[i]=q at this hv
   cases this
   simp[part,qfn he,qf3,hv]
theorem qus {P:Program} (w:World) (d:Nat) {t e:TypeId} {n:Nat} {k0:IntKind} {j:TypeInfo} (ht:P.underlying t=some (.array n e)) (he:P.underlying e=some (.int k0)) (hn:P.info? e=some j) (hj:j.size=1) {as bs:List AVal} {xs ys:Array Value}
  (hx:Rep E G (.agg as) (.agg xs)) (hy:Rep E G (.agg bs) (.agg ys)) (hl:as.length=n) {b:Bool} (hr:qdv as bs=some b):(Op.equalIn (d+2) t (.agg xs) (.agg ys)).run P w=.ok b w:=by
 obtain⟨h1,h2,rfl⟩:=qgP hr
 rw[hl] at h2
 rw[hl,List.range_eq_range',Op.equalIn]
 simp only[Sem.run_bind,run_underlying ht,Result.andThen_ok,qbu hn,hj,Std.Legacy.Range.forIn_eq_forIn_range',Std.Legacy.Range.size,Nat.sub_zero,Nat.add_sub_cancel,Nat.div_one]
 have hlt:∀ i∈List.range' 0 n 1,i<n:=fun i hi=>by simpa using (List.mem_range'_1.1 hi).2
 generalize List.range' 0 n 1=l at hlt ⊢
 induction l with
 | nil=>simp
 | cons i l ih =>
   obtain⟨k,a,c,ha,hc⟩:=h2 i (hlt i (by simp))
   have px:=qgL (P:=P) (w:=w) he hx ha
   have py:=qgL (P:=P) (w:=w) he hy hc
   have pe:(Op.equalIn (d+1) e (.int k a) (.int k c)).run P w=.ok (a==c) w:=by simp[Op.equalIn,run_underlying he]
   simp only[List.forIn_cons,Sem.run_bind,px,py,pe,Result.andThen_ok,List.all_cons,qnQ,ha,hc]
   cases hb:(a==c)
   ·simp
   ·simp only[Bool.not_true,Bool.false_eq_true,if_false,Sem.run_pure,Result.andThen_ok,Bool.true_and]
    exact ih fun j hj=>hlt j (by simp[hj])
theorem ql7 {P:Program} (w:World) (d:Nat) {t e:TypeId} {n:Nat} {k0:IntKind} {j:TypeInfo} (ht:P.underlying t=some (.array n e)) (he:P.underlying e=some (.int k0)) (hn:P.info? e=some j) (hj:j.size=1) {as bs:List AVal} {xs ys:Array Value}
  (hx:Rep E G (.agg as) (.agg xs)) (hy:Rep E G (.agg bs) (.agg ys)) (hl:as.length=n) {b:Bool} (hr:qdv as bs=some b):(Op.eqGuardIn (d+2) t (.agg xs) (.agg ys)).run P w=.ok false w:=by
 obtain⟨h1,h2,rfl⟩:=qgP hr
 rw[hl] at h2
 rw[Op.eqGuardIn]
 simp only[Sem.run_bind,run_underlying ht,Result.andThen_ok,qbu hn,hj,Std.Legacy.Range.forIn_eq_forIn_range',Std.Legacy.Range.size,Nat.sub_zero,Nat.add_sub_cancel,Nat.div_one]
 have hlt:∀ i∈List.range' 0 n 1,i<n:=fun i hi=>by simpa using (List.mem_range'_1.1 hi).2
 generalize List.range' 0 n 1=l at hlt ⊢
 induction l with
 | nil=>simp
 | cons i l ih =>
   obtain⟨k,a,c,ha,hc⟩:=h2 i (hlt i (by simp))
   have px:=qgL (P:=P) (w:=w) he hx ha
   have py:=qgL (P:=P) (w:=w) he hy hc
   have pe:(Op.eqGuardIn (d+1) e (.int k a) (.int k c)).run P w=.ok false w:=by simp[Op.eqGuardIn,run_underlying he]
   simp only[List.forIn_cons,Sem.run_bind,px,py,pe,Result.andThen_ok]
   simp only[Bool.false_eq_true,if_false,Sem.run_pure,Result.andThen_ok]
   exact ih fun j hj=>hlt j (by simp[hj])
theorem qjv {as bs:List AVal} {xs ys:Array Value} (hx:Rep E G (.agg as) (.agg xs)) (hy:Rep E G (.agg bs) (.agg ys)) (h2:∀ i,i<as.length→∃ k a c,as[i]? = some (.int k a)∧bs[i]? = some (.int k c)) (d:Nat) (w:World):∀ (fs:List Field) (i:Nat),qiu E fs i=true→i+fs.length=as.length →
  (Op.eqFields (d+1) xs ys fs).run E.P w=.ok ((List.range' i fs.length 1).all fun j=>qnQ as j==qnQ bs j) w
 | [],i,_,_=>by simp[Op.eqFields]
 | f :: fs,i,h,hl => by
   simp only[qiu,Bool.and_eq_true,beq_iff_eq,bne_iff_ne] at h
   obtain⟨⟨⟨ho,hn⟩,ht⟩,hr⟩:=h
   simp only[List.length_cons] at hl
   have ih:=qjv hx hy h2 d w fs (i+1) hr (by omega)
   split at ht
   ·rename_i k0 hk0
    obtain⟨k,a,c,ha,hc⟩:=h2 i (by omega)
    have px:=qgL (P:=E.P) (w:=w) hk0 hx ha
    have py:=qgL (P:=E.P) (w:=w) hk0 hy hc
    rw[Nat.mul_one] at px py
    have pe:(Op.equalIn (d+1) f.type (.int k a) (.int k c)).run E.P w=.ok (a==c) w:=by simp[Op.equalIn,run_underlying hk0]
    rw[Op.eqFields,if_pos hn,ho]
    simp only[Sem.run_bind,px,py,pe,Result.andThen_ok,List.length_cons,List.range'_succ,List.all_cons]
    have n1:qnQ as i=a:=by simp[qnQ,ha]
    have n2:qnQ bs i=c:=by simp[qnQ,hc]
    rw[n1,n2]
    cases hb:(a==c)
    ·simp
    ·simpa using ih
   ·cases ht
def qBj (E:Env) (G:Ghost) (t:TypeId) (n:Nat):Prop:=∀ (w:World) (as bs:List AVal) (xs ys:Array Value) (b:Bool),Rep E G (.agg as) (.agg xs)→Rep E G (.agg bs) (.agg ys)→as.length=n→qdv as bs=some b →
 (Op.equal t (.agg xs) (.agg ys)).run E.P w=.ok b w∧∀ op xo yo,op=.eql∨op=.neq→(eqGuard op t xo yo (.agg xs) (.agg ys)).run E.P w=.ok () w
theorem qsN (E:Env) (G:Ghost) (t:TypeId):(qBs E t=qe4 (E.P.underlying t))∨∃ n,qBs E t=.arr n∧qBj E G t n:=by
 unfold qBs
 split
 ·rename_i fs hd
  split
  ·rename_i h
   obtain⟨h1,h2,h3⟩:=h
   refine .inr ⟨fs.size,rfl,fun w as bs xs ys b hx hy hl hr=>⟨?_,fun op xo yo ho=>?_⟩⟩
   ·have hf:E.P.fieldsOf t=fs:=by unfold Program.fieldsOf;rw[hd]
    obtain⟨q1,q2,rfl⟩:=qgP hr
    have:=qjv hx hy q2 9998 w fs.toList 0 h1 (by simp[hl])
    have he:=run_equalIn_agg (P:=E.P) w 9999 t xs ys (by rw[hf];exact hd) h2
    rw[hf,this] at he
    rw[show Op.equal t (.agg xs) (.agg ys)=Op.equalIn (9999+1) t (.agg xs) (.agg ys) from rfl,he,hl,List.range_eq_range']
    simp
   ·rcases ho with rfl | rfl
    ·exact run_eqGuard_agg w .eql t xo yo xs ys h3
    ·exact run_eqGuard_agg w .neq t xo yo xs ys h3
  ·exact .inl (by rw[hd];rfl)
 ·rename_i n e hd
  split
  ·rename_i k j hk hj
   split
   ·rename_i h1
    refine .inr ⟨n,rfl,fun w as bs xs ys b hx hy hl hr=>⟨qus (P:=E.P) w 9998 hd hk hj h1 hx hy hl hr,fun op xo yo ho=>?_⟩⟩
    have e2:(Op.eqGuardIn Op.maxDepth t (.agg xs) (.agg ys)).run E.P w=.ok false w:=ql7 (P:=E.P) w 9998 hd hk hj h1 hx hy hl hr
    rcases ho with rfl | rfl<;>simp[eqGuard,run_program,e2]<;>split<;>simp_all
   ·exact .inl (by rw[hd];rfl)
  ·exact .inl (by rw[hd];rfl)
 ·exact .inl rfl
theorem qtG {n:Nat} {ax ay:AVal} {b:Bool} (hr:aEq (.arr n) ax ay=some b):∃ as bs,ax=.agg as∧ay=.agg bs∧as.length=n∧qdv as bs=some b:=by
 unfold aEq at hr
 split at hr<;>rename_i hk<;>first | (cases hk;done) | skip
 ·rename_i as bs
  injection hk with hk
  subst hk
  split at hr
  ·rename_i hl
   exact⟨as,bs,rfl,rfl,hl,hr⟩
  ·cases hr
 ·cases hr
theorem qmq (op:BinOp) (t:TypeId) (xo yo:Operand) {n:Nat} (ht:qBj E G t n) {as bs:List AVal} {x y:Value} (hx:Rep E G (.agg as) x) (hy:Rep E G (.agg bs) y) (hl:as.length=n) {b:Bool} (hr:qdv as bs=some b) (ho:op=.eql∨op=.neq) :
  (do eqGuard op t xo yo x y;binOp op t x y:Sem Value).run E.P w=.ok (.bool (if op=.eql then b else !b)) w:=by
 cases hx with
 | @agg _ xs h1 h2 =>
   cases hy with
   | @agg _ ys h3 h4 =>
     obtain⟨e1,e2⟩:=ht w as bs xs ys b (Rep.agg h1 h2) (Rep.agg h3 h4) hl hr
     rw[Sem.run_bind,e2 op xo yo ho,Result.andThen_ok]
     rcases ho with rfl | rfl<;>simp[binOp,e1]
theorem qok {k:EqK} (hk:∀ n,k≠.arr n) {ax ay:AVal} {b:Bool} (hr:aEq k ax ay=some b):ax≠.nilIface∧(∀ cs,ax≠.agg cs)∧ax≠.junk∧(∀ kk n,ax≠.int kk n)∧(∀ s,ax≠.str s):=by
 unfold aEq at hr
 split at hr<;>first | (cases hr;done) | exact absurd rfl (hk _) | exact⟨by simp,by simp,by simp,by simp,by simp⟩
theorem qyU (op:BinOp) (t:TypeId) (xo yo:Operand) {ax ay:AVal} {x y:Value} (hx:Rep E G ax x) (hy:Rep E G ay y) {r:AVal} (hr:qaB op (qBs E t) ax ay=some r) :
  ∃ v,(do eqGuard op t xo yo x y;binOp op t x y:Sem Value).run E.P w=.ok v w∧Rep E G r v:=by
 unfold qaB at hr
 split at hr
 ·rename_i k a k' b
  cases hx with
  | int k a =>
    cases hy with
    | int k' b =>
      have hg:(eqGuard op t xo yo (.int k a) (.int k' b)).run E.P w=.ok () w:=by cases op<;>rfl
      split at hr
      ·rename_i hs
       obtain⟨v,h1,h2⟩:=qv9 (P:=E.P) w op k k' a b hs hr
       exact⟨v,by rw[Sem.run_bind,hg,Result.andThen_ok,qhi E.P w op t 0];exact h1,h2⟩
      ·rename_i hs
       split at hr
       ·rename_i hkk
        subst hkk
        obtain⟨v,h1,h2⟩:=qzs (E:=E) (G:=G) (P:=E.P) w op k a b (by simpa using hs) hr
        exact⟨v,by rw[Sem.run_bind,hg,Result.andThen_ok,qhi E.P w op t 0];exact h1,h2⟩
       ·cases hr
 ·rename_i a b
  cases hx with
  | str a =>
    cases hy with
    | str b =>
      have hg:(eqGuard op t xo yo (.string a) (.string b)).run E.P w=.ok () w:=by cases op<;>rfl
      obtain⟨v,h1,h2⟩:=qA2 (E:=E) (G:=G) (P:=E.P) w op a b hr
      exact⟨v,by rw[Sem.run_bind,hg,Result.andThen_ok,ql1 E.P w op t 0];exact h1,h2⟩
 ·rcases qsN E G t with hk | ⟨n,hk,ht⟩
  case inr =>
   rw[hk] at hr
   split at hr
   ·obtain⟨b,hb,rfl⟩:=Option.map_eq_some_iff.1 hr
    obtain⟨as,bs,rfl,rfl,hl,he⟩:=qtG hb
    exact⟨_,qmq .eql t xo yo ht hx hy hl he (.inl rfl),by simpa using Rep.bool b⟩
   ·obtain⟨b,hb,rfl⟩:=Option.map_eq_some_iff.1 hr
    obtain⟨as,bs,rfl,rfl,hl,he⟩:=qtG hb
    exact⟨_,qmq .neq t xo yo ht hx hy hl he (.inr rfl),by simpa using Rep.bool (!b)⟩
   ·cases hr
  rw[hk] at hr
  split at hr
  ·obtain⟨b,hb,rfl⟩:=Option.map_eq_some_iff.1 hr
   have he:=qyz (P:=E.P) w hx hy hb
   obtain⟨p1,p2,p3,p4,p5⟩:=qok (fun n=>by cases E.P.underlying t with | none=>simp[qe4] | some d=>cases d<;>simp[qe4]) hb
   refine⟨.bool b,?_,.bool b⟩
   cases hx<;>first
    | exact absurd rfl p1
    | exact absurd rfl (p2 _)
    | exact absurd rfl p3
    | exact absurd rfl (p4 _ _)
    | exact absurd rfl (p5 _)
    | (simp[eqGuard,binOp,he];done)
    | (cases hy<;>simp[eqGuard,binOp,he])
  ·obtain⟨b,hb,rfl⟩:=Option.map_eq_some_iff.1 hr
   have he:=qyz (P:=E.P) w hx hy hb
   obtain⟨p1,p2,p3,p4,p5⟩:=qok (fun n=>by cases E.P.underlying t with | none=>simp[qe4] | some d=>cases d<;>simp[qe4]) hb
   refine⟨.bool !b,?_,.bool _⟩
   cases hx<;>first
    | exact absurd rfl p1
    | exact absurd rfl (p2 _)
    | exact absurd rfl p3
    | exact absurd rfl (p4 _ _)
    | exact absurd rfl (p5 _)
    | (simp[eqGuard,binOp,he];done)
    | (cases hy<;>simp[eqGuard,binOp,he])
  ·cases hr
theorem qB0 (op:UnOp) {ax:AVal} {x:Value} (hx:Rep E G ax x) {r:AVal} (hr:aUn op ax=some r):∃ v,(Op.unary op x).run E.P w=.ok v w∧Rep E G r v:=by
 unfold aUn at hr
 split at hr
 ·injection hr with hr
  subst hr
  cases hx with
  | int k n=>exact⟨_,by simp[Op.unary,Op.intArith],.int _ _⟩
 ·injection hr with hr
  subst hr
  cases hx with
  | bool b=>exact⟨_,by simp[Op.unary],.bool _⟩
 ·cases hr
theorem qmS (mx:Bool) (ats:Array TypeId) (ty:TypeId) {as:List AVal} {vs:Array Value} (hx:RepL E G as vs.toList) {r:AVal} (hr:qeq mx as=some r) :
  ∃ v,(if mx then Builtin.max_ ats ty vs else Builtin.min_ ats ty vs).run E.P w=.ok v w∧Rep E G r v:=by
 unfold qeq at hr
 split at hr
 ·rename_i k x k' y
  split at hr
  ·rename_i hkk
   subst hkk
   injection hr with hr
   subst hr
   obtain⟨v1,e1,r1⟩:=hx.get (i:=0) rfl
   obtain⟨v2,e2,r2⟩:=hx.get (i:=1) rfl
   have hl:vs.toList.length=2:=hx.len
   have hvs:vs.toList=[v1,v2]:=by
    match hq:vs.toList,hl with
    | [a,b],_=>rw[hq] at e1 e2;simp at e1 e2;rw[e1,e2]
   cases r1 with
   | int k x =>
     cases r2 with
     | int k y =>
       cases mx
       ·exact⟨_,by simp[Builtin.min_,hvs,Builtin.min2],.int _ _⟩
       ·exact⟨_,by simp[Builtin.max_,hvs,Builtin.max2],.int _ _⟩
  ·cases hr
 ·cases hr
end Go.Abs
