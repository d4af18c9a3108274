/-
  PARTS OF A PROOF, joined: an abstract machine for quiet code, its evaluation, and what the seat's functions answer on it. Conditions: none.
-/
import Derived.Test.YtpchghpipgpkfaaDoorJ
import Derived.Tactics
set_option linter.unusedVariables false
namespace Go.Abs
variable {E:Env} {G:Ghost} {h:Heap} {w:World}
def qtC (E:Env) (G:Ghost):ARes→Ending→Prop
 | .val v,e=>∃ x,e=.returned x∧Rep E G v x
 | .panic v,e=>∃ x,e=.panicked [{ v:=x,recovered:=false }]∧Rep E G v x
def qbX (E:Env) (call:CallT):Prop :=
 ∀ (G:Ghost) (h:Heap) (w:World) (f:FuncId) (k:Nat) (args:List AVal) (vs:Array Value) (r:ARes) (h':Heap),E.fm f=some k→call k args h=some (r,h') →
  RepL E G args vs.toList→Inv E G h w→GlobOk E G→Calls E.P f vs w fun e w'=>∃ G',Post E G h w G' h' w'∧qtC E G' r e
def Ghost.bare (G:Ghost):Ghost:={ fix:=G.fix,blk:=fun _=>none,tl:=fun _ _=>none }
theorem Inv.bare (hi:Inv E G h w):Inv E G.bare [] w :=
 ⟨hi.fix,hi.one,fun id o e=>by simp at e,fun id o id' o' b e=>by simp at e,fun id _=>⟨rfl,fun _=>rfl⟩,hi.tab⟩
theorem qfP (G:Ghost) (b:Nat):¬ Own G [] b:=by rintro ⟨id,o,e,_⟩;simp at e
theorem qpt (hi:Inv E G h w) {G0:Ghost} {h0:Heap} {w':World} (hp:Post E G.bare [] w G0 h0 w') :
  Post E G h w { fix:=G0.fix,blk:=G.blk,tl:=G.tl } h w':=by
 have hle:G.le { fix:=G0.fix,blk:=G.blk,tl:=G.tl }:=⟨fun b o v e=>hp.le.fix b o v e,fun _ _ e=>e,fun _ _ _ e=>e⟩
 have hblk:∀ b,b<w.heap.size→w'.heap[b]? = w.heap[b]? := fun b hb=>hp.block b hb (qfP _ b)
 have hfx:∀ b,b<w.heap.size→∀ q,G0.fix b q=G.fix b q:=by
  intro b hb q
  cases hx:G.fix b q with
  | some v=>exact hp.le.fix b q v hx
  | none =>
    cases hy:G0.fix b q with
    | none=>rfl
    | some v =>
      rcases hp.fixed b q (by rw[hy];simp) with h1 | h1 | h1
      ·exact absurd hx h1
      ·exact absurd h1 (qfP _ b)
      ·omega
 have hown:∀ b,Own { fix:=G0.fix,blk:=G.blk,tl:=G.tl } h b→Own G h b:=fun b ⟨id,o,e,ho⟩=>⟨id,o,e,by cases o<;>exact ho⟩
 refine⟨hle,⟨hp.inv.fix,hp.inv.one,fun id o e=>?_,fun id o id' o' b e e' h1 h2=>hi.sep id o id' o' b e e' (by cases o<;>exact h1) (by cases o'<;>exact h2),hi.dom,hp.inv.tab⟩,hp.size,fun b hb _=>hblk b hb,fun b o e=>?_,fun b e=>.inl (hown b e),hp.os,hp.tape,hp.output⟩
 ·exact (hi.obj id o e).keep hle (fun b hb=>hblk b (hi.owns_lt e hb)) (fun b hb q=>hfx b (hi.owns_lt e hb) q) (fun _=>rfl)
 ·rcases hp.fixed b o e with h1 | h1 | h1
  ·exact .inl h1
  ·exact absurd h1 (qfP _ b)
  ·exact .inr (.inr h1)
theorem RepL.wipes {cs:List AVal} {vs:List Value} (hr:RepL E G cs vs):RepL E G (cs.map Abs.wipe) vs:=by
 refine⟨by simpa using hr.len,fun i c v e e'=>?_⟩
 rw[List.getElem?_map] at e
 obtain⟨c0,h0,rfl⟩:=Option.map_eq_some_iff.1 e
 exact (hr.rep i c0 v h0 e').wipe
theorem RepL.data {G':Ghost} (hf:∀ b o v,G.fix b o=some v→G'.fix b o=some v) {cs:List AVal} {vs:List Value} (hr:RepL E G cs vs) (hd:qax cs=true):RepL E G' cs vs :=
 ⟨hr.len,fun i c v e e'=>(hr.rep i c v e e').data hf (qcg hd e)⟩
theorem GlobOk.bare (hg:GlobOk E G):GlobOk E G.bare:=fun g cs e=>⟨(hg g cs e).1,(hg g cs e).2.data (G:=G) (G':=G.bare) (fun _ _ _ h=>h) (by simp[qaH,(hg g cs e).1])⟩
theorem RepL.ren {G':Ghost} {ρ:Nat→Option Nat} (hρ:RenOk G G' ρ) {cs:List AVal} {vs:List Value} (hr:RepL E G cs vs):RepL E G' (cs.map (Abs.ren ρ)) vs:=by
 refine⟨by simpa using hr.len,fun i c v e e'=>?_⟩
 rw[List.getElem?_map] at e
 obtain⟨c0,h0,rfl⟩:=Option.map_eq_some_iff.1 e
 exact (hr.rep i c0 v h0 e').ren hρ
theorem qx2 {call:CallT} (hc:qbX E call):qbX E (qmd call):=by
 intro G h w f k args vs r h' hf hr ha hi hg
 unfold qmd at hr
 split at hr
 case isFalse=>cases hr
 rename_i hall
 have hall':∀ i∈qbP args h,i<h.length:=fun i hx=>by simpa using List.all_eq_true.1 hall i hx
 have hnd:=qn3 args h
 cases hx:call k (args.map (Abs.ren fun i=>qaC i (qbP args h) 0)) (qc5 (qbP args h) h) with
 | none=>rw[hx] at hr;cases hr
 | some x =>
   obtain⟨r0,h0⟩:=x
   rw[hx] at hr
   simp only[Option.some.injEq,Prod.mk.injEq] at hr
   obtain⟨rfl,rfl⟩:=hr
   have hρ:=qwc (qbP args h) G
   have hgs:GlobOk E (qlZ (qbP args h) G):=fun g cs e=>⟨(hg g cs e).1,(hg g cs e).2.data hρ.fix (by simp[qaH,(hg g cs e).1])⟩
   have hcall:=hc _ _ w f k _ vs r0 h0 hf hx (ha.ren hρ) (hi.sub hnd) hgs
   obtain⟨hn2,ha2⟩:=qxQ (qbP args h).length r0 h0
   refine hcall.mono fun e w' ⟨G0,hp0,hres⟩=>⟨_,qvv hi hnd hall' hn2 ha2 hp0,?_⟩
   cases r0 with
   | val v =>
     obtain⟨x,rfl,hv⟩:=hres
     exact⟨x,rfl,hv.ren (qno hall' hnd G G0)⟩
   | panic v =>
     obtain⟨x,rfl,hv⟩:=hres
     exact⟨x,rfl,hv.ren (qno hall' hnd G G0)⟩
theorem qrx {G0:Ghost} {h0:Heap} {w':World} (hp:Post E G.bare [] w G0 h0 w') {v:AVal} {x:Value} (hv:Rep E G0 v x):∃ G1 h1,Post E G.bare [] w G1 h1 w'∧Rep E G1 (qf5 h0 v) x:=by
 unfold qf5
 split
 ·exact⟨_,_,hp,hv.wipeR⟩
 ·exact⟨_,_,hp.trans (qlV hp.inv),(hv.viewV hp.inv).wipeR⟩
theorem qul {call:CallT} (hc:qbX E call) (pure:Nat→Bool):qbX E (qc8 pure call):=by
 intro G h w f k args vs r h' hf hr ha hi hg
 unfold qc8 at hr
 split at hr
 ·rename_i hp
  have ha':RepL E G.bare (args.map wipe) vs.toList:=ha.wipes.data (G:=G) (G':=G.bare) (fun _ _ _ h=>h) hp.2
  cases hx:call k (args.map wipe) [] with
  | none=>rw[hx] at hr;cases hr
  | some x =>
    obtain⟨r0,h0⟩:=x
    rw[hx] at hr
    have hcall:=hc G.bare [] w f k (args.map wipe) vs r0 h0 hf hx ha' hi.bare hg.bare
    refine hcall.mono fun e w' ⟨G0,hp0,hres⟩=>?_
    cases r0 with
    | val v =>
      dsimp only at hr
      split at hr
      ·rename_i hd
       simp only[Option.some.injEq,Prod.mk.injEq] at hr
       obtain⟨rfl,rfl⟩:=hr
       obtain⟨x,rfl,hv⟩:=hres
       obtain⟨G1,h1,hp1,hv1⟩:=qrx hp0 hv
       exact⟨_,qpt hi hp1,x,rfl,hv1.data (G:=G1) (G':={ fix:=G1.fix,blk:=G.blk,tl:=G.tl }) (fun _ _ _ h=>h) hd⟩
      ·cases hr
    | panic v =>
      dsimp only at hr
      split at hr
      ·rename_i hd
       simp only[Option.some.injEq,Prod.mk.injEq] at hr
       obtain⟨rfl,rfl⟩:=hr
       obtain⟨x,rfl,hv⟩:=hres
       obtain⟨G1,h1,hp1,hv1⟩:=qrx hp0 hv
       exact⟨_,qpt hi hp1,x,rfl,hv1.data (G:=G1) (G':={ fix:=G1.fix,blk:=G.blk,tl:=G.tl }) (fun _ _ _ h=>h) hd⟩
      ·cases hr
 ·exact qx2 hc G h w f k args vs r h' hf hr ha hi hg
theorem qvy (hi:Inv E G h w) {G1 G0:Ghost} {h0:Heap} {w':World} (hp:Post E G1 [] w G0 h0 w'):Post E G h w G h w':=by
 have hblk:∀ b,b<w.heap.size→w'.heap[b]? = w.heap[b]? := fun b hb=>hp.block b hb (qfP _ b)
 have hc:∀ b o v,G.fix b o=some v→w'.cell? ⟨b,o,none⟩=some v:=by
  intro b o v e
  have h1:=hi.fix b o v e
  have h2:b<w.heap.size:=hi.fix_lt (b:=b) (by rw[e];simp)
  unfold World.cell? at h1 ⊢
  rw[hblk b h2]
  exact h1
 refine⟨.refl G,⟨hc,hi.one,fun id o e=>?_,hi.sep,hi.dom,hi.tab.keep (fun _ _ _ e=>e) hblk⟩,hp.size,fun b hlt _=>hblk b hlt,fun _ _ e=>.inl e,fun _ e=>.inl e,hp.os,hp.tape,hp.output⟩
 exact (hi.obj id o e).keep (.refl G) (fun b ho=>hblk b (hi.owns_lt e ho)) (fun _ _ _=>rfl) (fun _=>rfl)
theorem qyn {call:CallT} (hc:qbX E call):qbX E (qgI call):=by
 intro G h w f k args vs r h' hf hr ha hi hg
 unfold qgI at hr
 split at hr
 case isFalse=>cases hr
 rename_i hd
 cases hx:call k (args.map (lookV h)) [] with
 | none=>rw[hx] at hr;cases hr
 | some x =>
   obtain⟨r0,h0⟩:=x
   rw[hx] at hr
   cases r0 with
   | panic v=>cases hr
   | val v =>
     dsimp only at hr
     split at hr
     case isFalse=>cases hr
     rename_i hpl
     simp only[Option.some.injEq,Prod.mk.injEq] at hr
     obtain⟨rfl,rfl⟩:=hr
     have hvp:=qlV hi
     have ha1:RepL E (qdn G h w) (args.map (lookV h)) vs.toList:=by
      refine⟨by simpa using ha.len,fun i c v e e'=>?_⟩
      rw[List.getElem?_map] at e
      obtain⟨c0,h0,rfl⟩:=Option.map_eq_some_iff.1 e
      exact ((ha.rep i c0 v h0 e').viewV hi).wipe
     have ha2:RepL E (qdn G h w).bare (args.map (lookV h)) vs.toList:=ha1.data (G:=qdn G h w) (G':=(qdn G h w).bare) (fun _ _ _ h=>h) hd
     refine (hc (qdn G h w).bare [] w f k _ vs _ _ hf hx ha2 hvp.inv.bare (hg.mono hvp.le).bare).mono fun e w' ⟨G0,hp0,hres⟩=>?_
     obtain⟨x,rfl,hv⟩:=hres
     refine⟨G,qvy hi hp0,x,rfl,?_⟩
     unfold qgt at hpl
     split at hpl
     ·cases hv;exact .int _ _
     ·cases hv;exact .bool _
     ·cases hv;exact .str _
     ·cases hpl
theorem qsD {pure:Nat→Bool} {call:CallT} {f:Opd} {args:List Opd} {tm:Tmps} {r:ARes × Heap} (hr:aOp pure call (qjs E f args) tm h=some r):aOp pure call (.call f args) tm h=some r:=by
 unfold qjs at hr
 split at hr
 ·split at hr
  ·simp only[aOp] at hr
   split at hr
   ·unfold qaw at hr
    split at hr
    ·rename_i v h' hd
     simp only[aOp,opd,List.nil_append,List.append_nil]
     rw[hd]
     exact hr
    ·cases hr
   ·cases hr
  ·exact hr
 ·exact hr
def quX:AOp→Bool
 | .hcall .. | .vcall .. | .appendV .. => true
 | _=>false
theorem qy0 (o:Op):quX (cOp E o)=false:=by
 cases o with
 | call c =>
   obtain⟨callee,cargs,ats⟩:=c
   cases callee with
   | value f=>simp only[cOp,qgg];unfold qjs;repeat' (first | rfl | split)
   | invoke r m=>rfl
   | builtin b =>
     cases b<;>simp only[cOp,qgg]<;>repeat' (first | rfl | split)
     all_goals (unfold qhz;repeat' (first | rfl | split))
 | build t ps=>simp only[cOp];rcases qc6 (E:=E) t ps with hc | ⟨z,qs,hc⟩<;>rw[hc]<;>rfl
 | buildSlice t n ps=>simp only[cOp];rcases qbW (E:=E) t n ps with hc | ⟨z,qs,hc⟩<;>rw[hc]<;>rfl
 | makeFunc fn x y=>cases fn<;>simp only[cOp]<;>repeat' (first | rfl | split)
 | makeMap t x=>cases x<;>rfl
 | _ =>
   simp only[cOp]
   first
    | rfl
    | (first | unfold qqq | unfold qkH | unfold qqp | unfold qkG | unfold qkB | unfold qet | unfold qdu | unfold qkC | unfold qhB | unfold qc7 | unfold qqr | skip
       repeat' (first | rfl | split))
theorem qvp (hE:EnvOk E) {call:CallT} (hc:qbX E call) (hi:Inv E G h w) (hg:GlobOk E G) {tm:Tmps} {a:Act} (ht:RelT E G tm a) (pure:Nat→Bool) (o:Oper) {r:ARes} {h':Heap}
  (hr:aOp pure call (cOp E o.op) tm h=some (r,h')) (next:Act→World→Prop) (Q:Exit→Act→World→Prop)
  (hv:∀ va,r=.val va→∀ G' w' v,Post E G h w G' h' w'→Rep E G' va v→next (a.put o.dst v) w')
  (hp:∀ va,r=.panic va→∀ G' w' v,Post E G h w G' h' w'→Rep E G' va v→Q (.panic [{ v,recovered:=false }]) a w'):o.wp E.P a w next Q:=by
 by_cases hcall:∃ c f,o.op=.call c∧c.callee=.value f
 ·obtain⟨c,f,ho,hcf⟩:=hcall
  rw[ho] at hr
  simp only[cOp,qgg,hcf] at hr
  replace hr:=qsD hr
  simp only[aOp] at hr
  split at hr
  ·rename_i g fa fb hfv
   have hf:=qeA hg ht f
   rw[hfv] at hf
   generalize hq:a.eval f=vf at hf
   cases hf with
   | @func f0 _ _ _ va vb hk hla hlb hra hrb =>
     obtain⟨fn,hfn,hname,hbody⟩:=hE.fn f0 g hk
     have hargs:=qhd hg ht c.args
     have hall:RepL E G (fa++(qhC E c.args).map (opd tm)++fb) ((va++c.args.map a.eval)++vb).toList:=by
      simp only[Array.toList_append]
      exact ((⟨by simpa using hla,fun i x v e e'=>hra i x v e (by simpa using e')⟩:RepL E G fa va.toList).append hargs).append ⟨by simpa using hlb,fun i x v e e'=>hrb i x v e (by simpa using e')⟩
     have hcalls:=qul hc pure G h w f0 g _ _ r h' hk hr hall hi hg
     have hrun:(execOp a.eval o).run E.P w=.ok (.enter f0 ((va++c.args.map a.eval)++vb)) w:=by
      simp[execOp,ho,resolve,hcf,hq,Deferred.ofValue,invoke,qiT hfn hname hbody]
     unfold Oper.wp
     rw[hrun,Oper.upon_enter]
     refine hcalls.mono fun e w' ⟨G',hpo,hres⟩=>?_
     cases r with
     | val v =>
       obtain⟨x,rfl,hx⟩:=hres
       exact hv v rfl G' w' x hpo hx
     | panic v =>
       obtain⟨x,rfl,hx⟩:=hres
       exact hp v rfl G' w' x hpo hx
  ·cases hr
 ·have hnc:∀ c f,o.op=.call c→c.callee≠.value f:=fun c f e e'=>hcall ⟨c,f,e,e'⟩
  have hnp:∀ va,r≠.panic va:=by
   intro va e
   subst e
   have hold:=qy0 (E:=E) o.op
   generalize hq:cOp E o.op=ao at hr hold
   have hsv:∀ (x:Option AVal),qaa x h≠some (.panic va,h'):=fun x e=>by unfold qaa at e;split at e<;>simp at e
   have hsh:∀ (x:Option Heap),qay x≠some (.panic va,h'):=fun x e=>by unfold qay at e;split at e<;>simp at e
   cases ao with
   | hcall f args=>cases hold
   | vcall f args=>cases hold
   | appendV a b c d=>cases hold
   | call f args =>
     cases hop:o.op with
     | call c =>
       obtain⟨callee,cargs,ats⟩:=c
       cases callee with
       | value f'=>exact hnc _ f' hop rfl
       | invoke r m=>rw[hop] at hq;cases hq
       | builtin b =>
         rw[hop] at hq
         cases b<;>simp only[cOp,qgg] at hq<;>(repeat' (first | split at hq | cases hq))
         all_goals (unfold qhz at hq;repeat' (first | split at hq | cases hq))
     | build t ps=>rw[hop] at hq;simp only[cOp] at hq;rcases qc6 (E:=E) t ps with hc | ⟨z,qs,hc⟩<;>rw[hc] at hq<;>cases hq
     | buildSlice t n ps=>rw[hop] at hq;simp only[cOp] at hq;rcases qbW (E:=E) t n ps with hc | ⟨z,qs,hc⟩<;>rw[hc] at hq<;>cases hq
     | makeFunc fn x y=>rw[hop] at hq;cases fn<;>simp only[cOp] at hq<;>(repeat' (first | split at hq | cases hq))
     | makeMap t x=>rw[hop] at hq;cases x<;>cases hq
     | _ =>
       rw[hop] at hq
       simp only[cOp] at hq
       first
        | (cases hq;done)
        | (first | unfold qqq at hq | unfold qkH at hq | unfold qqp at hq | unfold qkG at hq | unfold qkB at hq | unfold qet at hq | unfold qdu at hq | unfold qkC at hq | unfold qhB at hq | unfold qc7 at hq | unfold qqr at hq | skip
           repeat' (first | split at hq | cases hq))
   | pcallV f args =>
     simp only[aOp] at hr
     split at hr
     ·unfold qlw at hr
      split at hr
      ·unfold qaw at hr
       split at hr
       ·simp at hr
       ·cases hr
      ·cases hr
     ·cases hr
   | pcall f args =>
     simp only[aOp] at hr
     split at hr
     ·unfold qaw at hr
      split at hr
      ·simp at hr
      ·cases hr
     ·cases hr
   | _ =>
     simp only[aOp] at hr
     first
      | exact hsv _ hr
      | exact hsh _ hr
      | (repeat' (first | split at hr | (simp at hr;done) | exact hsv _ hr | cases hr))
  obtain⟨va,rfl⟩:∃ va,r=.val va:=by
   cases r with
   | val va=>exact⟨va,rfl⟩
   | panic va=>exact absurd rfl (hnp va)
  obtain⟨n,w',G',v,h1,h2,h3,h4⟩:=qBL hi hg ht pure call o hnc hr
  unfold Oper.wp
  rw[h1]
  rcases h2 with rfl | ⟨rfl,rfl⟩
  ·exact hv va rfl G' w' v h3 h4
  ·exact hv va rfl G' w' undef h3 h4
def qh3 (ops:Array Oper) (g:Option (Nat × Bool)):Option (Option Nat × Bool):=g.map fun p=>((ops[p.1]?).bind (·.dst),p.2)
def qfu (E:Env) (ops:Array Oper) (o:Oper):Step:={ dst:=o.dst,guard:=qh3 ops o.guard,op:=cOp E o.op }
theorem qcU {tm:Tmps} {a:Act} (ht:RelT E G tm a) (ops:Array Oper) (o:Oper) {b:Bool} (hw:qaf (qh3 ops o.guard) tm=some b):Region.wanted o (yielded ops a.tmps)=b:=by
 unfold Region.wanted
 cases hg:o.guard with
 | none =>
   rw[hg] at hw
   simp only[qh3,Option.map_none,qaf,Option.some.injEq] at hw
   exact hw
 | some p =>
   obtain⟨j,want⟩:=p
   rw[hg] at hw
   simp only[qh3,Option.map_some] at hw
   dsimp only
   unfold yielded
   cases hd:(ops[j]?).bind (·.dst) with
   | none =>
     rw[hd] at hw
     simp only[qaf,Option.some.injEq] at hw
     subst hw
     simp
   | some d =>
     rw[hd] at hw
     simp only[qaf] at hw
     have hr:=ht d
     split at hw
     ·rename_i c hc
      injection hw with hw
      rw[hc] at hr
      generalize hq:a.tmps.getD d undef=x at hr
      cases hr with
      | bool =>
        have hx:a.tmps[d]? = some (.bool c):=by
         cases hz:a.tmps[d]? with
         | none=>simp[Array.getD_eq_getD_getElem?,hz,undef] at hq
         | some y=>simp[Array.getD_eq_getD_getElem?,hz] at hq;rw[hq]
        simp only[Option.bind_some,hx]
        rw[← hw]
        cases c<;>cases want<;>rfl
     ·rename_i vs hc
      injection hw with hw
      rw[hc] at hr
      generalize hq:a.tmps.getD d undef=x at hr
      cases hr with
      | tuple hl hrr =>
        rename_i us
        have hx:a.tmps[d]? = none∨a.tmps[d]? = some (.tuple us):=by
         cases hz:a.tmps[d]? with
         | none=>exact .inl rfl
         | some y=>simp[Array.getD_eq_getD_getElem?,hz] at hq;rw[hq];exact .inr rfl
        rcases hx with hx | hx<;>simp only[Option.bind_some,hx]<;>exact hw
     ·cases hw
theorem qcO {tm:Tmps} {a:Act} (ht:RelT E G tm a) {d:Option Nat} (hd:∀ k,d=some k→k<a.tmps.size) {va:AVal} {v:Value} (hv:Rep E G va v):RelT E G (upd tm d va) (a.put d v):=by
 cases d with
 | none=>exact ht
 | some k =>
   intro t
   by_cases hk:t=k
   ·subst hk
    have:t<a.tmps.size:=hd t rfl
    simp[upd,Act.put,Array.getD_eq_getD_getElem?,this,hv]
   ·have h1:=ht t
    simpa[upd,hk,Act.put,Array.getD_eq_getD_getElem?,Array.getElem?_setIfInBounds_ne (Ne.symm hk)] using h1
theorem qfl:Rep E G (.tuple []) undef:=.tuple rfl fun i c v e=>by simp at e
theorem qcw (a:Act) (d:Option Nat) (v:Value):(a.put d v).tmps.size=a.tmps.size:=by cases d<;>simp[Act.put]
theorem qbR (a:Act) (d:Option Nat) (v:Value):(a.put d v).defers=a.defers:=by cases d<;>simp[Act.put]
structure Fr (E:Env) (G:Ghost) (n:Nat) (s:St) (a:Act) (w:World):Prop where
 inv:Inv E G s.h w
 tmps:RelT E G s.tm a
 size:n≤a.tmps.size
 defers:a.defers=[]
def qez (n:Nat) (ops:Array Oper):Bool:=ops.toList.all fun o=>match o.dst with | some d=>decide (d<n) | none=>true
def qni (E:Env) (G:Ghost):AExit→Exit→Prop
 | .normal,e=>e=.normal
 | .exit id,e=>e=.exit id
 | .ret,e=>e=.ret
 | .panic v,e=>∃ x,e=.panic [{ v:=x,recovered:=false }]∧Rep E G v x
def Owed (E:Env) (G:Ghost) (n:Nat) (s:St) (w:World) (e:AExit) (s':St) (Q:Exit→Act→World→Prop):Prop :=
 ∀ G' e' a' w',Post E G s.h w G' s'.h w'→Fr E G' n s' a' w'→qni E G' e e'→Q e' a' w'
theorem Owed.mono {n:Nat} {s s1 s':St} {w1:World} {G1:Ghost} {e:AExit} {Q:Exit→Act→World→Prop} (hp:Post E G s.h w G1 s1.h w1) (h:Owed E G n s w e s' Q):Owed E G1 n s1 w1 e s' Q :=
 fun G' e' a' w' p f x=>h G' e' a' w' (hp.trans p) f x
theorem qlr (hE:EnvOk E) {call:CallT} (hc:qbX E call) (pure:Nat→Bool) (n:Nat) (ops:Array Oper) (Q:Exit→Act→World→Prop) :
  ∀ (l:List Oper),(∀ o∈l,o∈ops.toList)→qez n ops=true→∀ (G:Ghost) (s:St) (a:Act) (w:World) (e:AExit) (s':St),GlobOk E G→Fr E G n s a w →
   qcq pure call (l.map (qfu E ops)) s=some (e,s')→Owed E G n s w e s' Q→wpList E.P ops Q l a w
 | [],_,_,G,s,a,w,e,s',hg,hf,hr,hQ => by
   simp only[List.map_nil,qcq,Option.some.injEq,Prod.mk.injEq] at hr
   obtain⟨rfl,rfl⟩:=hr
   exact wpList_nil (hQ G .normal a w (Post.refl hf.inv) hf rfl)
 | o :: rest,hm,hok,G,s,a,w,e,s',hg,hf,hr,hQ => by
   have hd:∀ k,o.dst=some k→k<a.tmps.size:=by
    intro k hk
    have h1:=List.all_eq_true.1 hok o (hm o (by simp))
    have h3:k<n:=by simpa[hk] using h1
    exact Nat.lt_of_lt_of_le h3 hf.size
   simp only[List.map_cons,qcq] at hr
   split at hr
   ·rename_i hw
    have hwt:=qcU hf.tmps ops o hw
    refine wpList_step fun K hK=>?_
    rw[if_pos hwt]
    split at hr
    ·rename_i va h1 hop
     refine qvp hE hc hf.inv hg hf.tmps pure o hop K Q (fun vb hvb G' w' v hp hv=>?_) (fun vb hvb=>by cases hvb)
     injection hvb with hvb
     subst hvb
     refine hK _ _ (qlr hE hc pure n ops Q rest (fun o' ho'=>hm o' (by simp[ho'])) hok G' _ _ w' e s' (hg.mono hp.le) ⟨hp.inv,qcO (hf.tmps.mono hp.le) hd hv,by rw[qcw];exact hf.size,by rw[qbR];exact hf.defers⟩ hr (hQ.mono (s1:=⟨_,h1⟩) hp))
    ·rename_i va h1 hop
     simp only[Option.some.injEq,Prod.mk.injEq] at hr
     obtain⟨rfl,rfl⟩:=hr
     refine qvp hE hc hf.inv hg hf.tmps pure o hop K Q (fun vb hvb=>by cases hvb) (fun vb hvb G' w' v hp hv=>?_)
     injection hvb with hvb
     subst hvb
     exact hQ G' _ a w' hp ⟨hp.inv,hf.tmps.mono hp.le,hf.size,hf.defers⟩ ⟨v,rfl,hv⟩
    ·cases hr
   ·rename_i hw
    have hwt:=qcU hf.tmps ops o hw
    refine wpList_step fun K hK=>?_
    rw[if_neg (by rw[hwt];simp)]
    exact hK _ _ (qlr hE hc pure n ops Q rest (fun o' ho'=>hm o' (by simp[ho'])) hok G ⟨upd s.tm o.dst (.tuple []),s.h⟩ _ w e s' hg ⟨hf.inv,qcO hf.tmps hd qfl,by rw[qcw];exact hf.size,by rw[qbR];exact hf.defers⟩ hr (hQ.mono (s1:=⟨_,s.h⟩) (Post.refl hf.inv)))
   ·cases hr
variable {E:Env} {G:Ghost} {h:Heap} {w:World}
structure QM where
 quiet:Bool
 hs:List Nat
 vs:List Nat
 hv:Bool
 va:Bool
def QM.std:QM:=⟨false,[],[],false,false⟩
def QM.qt:QM:=⟨true,[],[],false,false⟩
def qOp (q:QM):AOp→AOp
 | .call f xs=>if q.hv=true then .hcall f xs else if q.quiet=true then .pcallV f xs else .call f xs
 | .pcall k xs=>if q.hs.contains k=true then .hcall (.val (.func k [] [])) xs else if q.vs.contains k=true then .vcall k xs else .pcall k xs
 | .append sz b x y=>if q.va=true then .appendV sz b x y else .append sz b x y
 | o=>o
def qyE (l:List Step):QM :=
 { quiet := false
   hs:=l.filterMap fun s=>match s.op with | .hcall (.val (.func k [] [])) _=>some k | _=>none
   vs:=l.filterMap fun s=>match s.op with | .vcall k _=>some k | _=>none
   hv:=l.any fun s=>match s.op with | .hcall .. => true | _=>false
   va:=l.any fun s=>match s.op with | .appendV .. => true | _=>false }
def qxv (l:List Step):Bool:=l.any fun s=>quX s.op
theorem qns (hE:EnvOk E) {call:CallT} (hc:qbX E call) (hi:Inv E G h w) (hg:GlobOk E G) {tm:Tmps} {a:Act} (ht:RelT E G tm a) (o:Oper) {c:Call} {f:Operand} (ho:o.op=.call c) (hcf:c.callee=.value f)
  {g:Nat} {fa fb:List AVal} (hfv:opd tm (qcb E f)=.func g fa fb) {r:ARes} {h':Heap} (hr:call g (fa++(qhC E c.args).map (opd tm)++fb) h=some (r,h')) (next:Act→World→Prop) (Q:Exit→Act→World→Prop)
  (hv:∀ va,r=.val va→∀ G' w' v,Post E G h w G' h' w'→Rep E G' va v→next (a.put o.dst v) w')
  (hp:∀ va,r=.panic va→∀ G' w' v,Post E G h w G' h' w'→Rep E G' va v→Q (.panic [{ v,recovered:=false }]) a w'):o.wp E.P a w next Q:=by
 have hf:=qeA hg ht f
 rw[hfv] at hf
 generalize hq:a.eval f=vf at hf
 cases hf with
 | @func f0 _ _ _ va vb hk hla hlb hra hrb =>
   obtain⟨fn,hfn,hname,hbody⟩:=hE.fn f0 g hk
   have hargs:=qhd hg ht c.args
   have hall:RepL E G (fa++(qhC E c.args).map (opd tm)++fb) ((va++c.args.map a.eval)++vb).toList:=by
    simp only[Array.toList_append]
    exact ((⟨by simpa using hla,fun i x v e e'=>hra i x v e (by simpa using e')⟩:RepL E G fa va.toList).append hargs).append ⟨by simpa using hlb,fun i x v e e'=>hrb i x v e (by simpa using e')⟩
   have hcalls:=hc G h w f0 g _ _ r h' hk hr hall hi hg
   have hrun:(execOp a.eval o).run E.P w=.ok (.enter f0 ((va++c.args.map a.eval)++vb)) w:=by
    simp[execOp,ho,resolve,hcf,hq,Deferred.ofValue,invoke,qiT hfn hname hbody]
   unfold Oper.wp
   rw[hrun,Oper.upon_enter]
   refine hcalls.mono fun e w' ⟨G',hpo,hres⟩=>?_
   cases r with
   | val v =>
     obtain⟨x,rfl,hx⟩:=hres
     exact hv v rfl G' w' x hpo hx
   | panic v =>
     obtain⟨x,rfl,hx⟩:=hres
     exact hp v rfl G' w' x hpo hx
def qrL:AOp→Bool
 | .call .. | .pcall .. => true
 | _=>false
theorem qwV (o:Op) (h:qrL (cOp E o)=true):∃ c f,o=.call c∧c.callee=.value f∧cOp E o=qjs E (qcb E f) (qhC E c.args):=by
 cases o with
 | call c =>
   obtain⟨callee,cargs,ats⟩:=c
   cases callee with
   | value f=>exact⟨_,f,rfl,rfl,rfl⟩
   | invoke r m=>simp only[cOp,qgg] at h;cases h
   | builtin b =>
     exfalso
     revert h
     cases b<;>simp only[cOp,qgg]<;>(repeat' (first | (intro h;cases h;done) | split))
     all_goals (unfold qhz;repeat' (first | (intro h;cases h;done) | split))
 | build t ps=>simp only[cOp] at h;rcases qc6 (E:=E) t ps with hc | ⟨z,qs,hc⟩<;>rw[hc] at h<;>cases h
 | buildSlice t n ps=>simp only[cOp] at h;rcases qbW (E:=E) t n ps with hc | ⟨z,qs,hc⟩<;>rw[hc] at h<;>cases h
 | makeFunc fn x y=>exfalso;revert h;cases fn<;>simp only[cOp]<;>repeat' (first | (intro h;cases h;done) | split)
 | makeMap t x=>cases x<;>cases h
 | _ =>
   exfalso
   revert h
   simp only[cOp]
   first
    | (intro h;cases h;done)
    | (first | unfold qqq | unfold qkH | unfold qqp | unfold qkG | unfold qkB | unfold qet | unfold qdu | unfold qkC | unfold qhB | unfold qc7 | unfold qqr | skip
       repeat' (first | (intro h;cases h;done) | split))
theorem qvn (hE:EnvOk E) {call:CallT} (hc:qbX E call) (hi:Inv E G h w) (hg:GlobOk E G) {tm:Tmps} {a:Act} (ht:RelT E G tm a) (pure:Nat→Bool) (q:QM) (o:Oper) {r:ARes} {h':Heap}
  (hr:aOp pure call (qOp q (cOp E o.op)) tm h=some (r,h')) (next:Act→World→Prop) (Q:Exit→Act→World→Prop)
  (hv:∀ va,r=.val va→∀ G' w' v,Post E G h w G' h' w'→Rep E G' va v→next (a.put o.dst v) w')
  (hp:∀ va,r=.panic va→∀ G' w' v,Post E G h w G' h' w'→Rep E G' va v→Q (.panic [{ v,recovered:=false }]) a w'):o.wp E.P a w next Q:=by
 have hplain:∀ (hr:aOp pure call (cOp E o.op) tm h=some (r,h')),o.wp E.P a w next Q:=fun hr=>qvp hE hc hi hg ht pure o hr next Q hv hp
 by_cases hco:qrL (cOp E o.op)=true
 ·obtain⟨c,f,ho,hcf,he⟩:=qwV o.op hco
  rw[he] at hr hplain
  unfold qjs at hr hplain
  split at hr
  ·rename_i k hfo
   rw[hfo] at hplain
   simp only at hplain
   have hfv:opd tm (qcb E f)=.func k [] []:=by rw[hfo];rfl
   split at hr
   ·rename_i hd
    rw[if_pos hd] at hplain
    simp only[qOp] at hr
    split at hr
    ·simp only[aOp,opd] at hr
     exact qns hE hc hi hg ht o ho hcf hfv hr next Q hv hp
    ·split at hr
     ·simp only[aOp] at hr
      exact qns hE (qyn hc) hi hg ht o ho hcf hfv (by rw[List.nil_append,List.append_nil];exact hr) next Q hv hp
     ·exact hplain hr
   ·rename_i hd
    rw[if_neg hd] at hplain
    simp only[qOp] at hr
    split at hr
    ·simp only[aOp,hfv] at hr
     exact qns hE hc hi hg ht o ho hcf hfv hr next Q hv hp
    ·split at hr
     ·refine hplain ?_
      rw[hfo] at hr
      simp only[aOp,opd] at hr ⊢
      ·unfold qlw qaw at hr
       split at hr
       ·split at hr
        ·rename_i hd2
         rw[hd2]
         exact hr
        ·cases hr
       ·cases hr
     ·rw[hfo] at hr
      exact hplain hr
  ·rename_i hne
   have hplain:∀ (hr:aOp pure call (.call (qcb E f) (qhC E c.args)) tm h=some (r,h')),o.wp E.P a w next Q:=by
    split at hplain
    ·rename_i k hk
     exact absurd hk (hne k)
    ·exact hplain
   simp only[qOp] at hr
   split at hr
   ·simp only[aOp] at hr
    split at hr
    ·rename_i g fa fb hfv
     exact qns hE hc hi hg ht o ho hcf hfv hr next Q hv hp
    ·cases hr
   ·split at hr
    ·refine hplain ?_
     simp only[aOp] at hr ⊢
     split at hr
     ·unfold qlw qaw at hr
      split at hr
      ·split at hr
       ·rename_i hd2
        rw[hd2]
        exact hr
       ·cases hr
      ·cases hr
     ·cases hr
    ·exact hplain hr
 ·generalize hq:cOp E o.op=ao at hr hco hplain
  cases ao with
  | call f args=>exact absurd rfl hco
  | pcall k args=>exact absurd rfl hco
  | append sz b x y =>
    simp only[qOp] at hr
    split at hr
    ·simp only[aOp] at hr
     split at hr
     case h_2=>cases hr
     rename_i v h1 hv1
     simp only[Option.some.injEq,Prod.mk.injEq] at hr
     obtain⟨rfl,rfl⟩:=hr
     obtain⟨n,w',G',u,h2,h3,h4,h5⟩:=qvo hi hg ht o hq hv1
     unfold Oper.wp
     rw[h2]
     rcases h3 with rfl | ⟨rfl,rfl⟩
     ·exact hv v rfl G' w' u h4 h5
     ·exact hv v rfl G' w' undef h4 h5
    ·exact hplain hr
  | _=>exact hplain hr
def qrp (E:Env) (q:QM) (o:Op):AOp:=qOp q (cOp E o)
def qaK (E:Env) (q:QM) (ops:Array Oper) (o:Oper):Step:={ dst:=o.dst,guard:=qh3 ops o.guard,op:=qrp E q o.op }
theorem qqU (hE:EnvOk E) {call:CallT} (hc:qbX E call) (pure:Nat→Bool) (n:Nat) (q:QM) (ops:Array Oper) (Q:Exit→Act→World→Prop) :
  ∀ (l:List Oper),(∀ o∈l,o∈ops.toList)→qez n ops=true→∀ (G:Ghost) (s:St) (a:Act) (w:World) (e:AExit) (s':St),GlobOk E G→Fr E G n s a w →
   qcq pure call (l.map (qaK E q ops)) s=some (e,s')→Owed E G n s w e s' Q→wpList E.P ops Q l a w
 | [],_,_,G,s,a,w,e,s',hg,hf,hr,hQ => by
   simp only[List.map_nil,qcq,Option.some.injEq,Prod.mk.injEq] at hr
   obtain⟨rfl,rfl⟩:=hr
   exact wpList_nil (hQ G .normal a w (Post.refl hf.inv) hf rfl)
 | o :: rest,hm,hok,G,s,a,w,e,s',hg,hf,hr,hQ => by
   have hd:∀ k,o.dst=some k→k<a.tmps.size:=by
    intro k hk
    have h1:=List.all_eq_true.1 hok o (hm o (by simp))
    have h3:k<n:=by simpa[hk] using h1
    exact Nat.lt_of_lt_of_le h3 hf.size
   simp only[List.map_cons,qcq] at hr
   split at hr
   ·rename_i hw
    have hwt:=qcU hf.tmps ops o hw
    refine wpList_step fun K hK=>?_
    rw[if_pos hwt]
    split at hr
    ·rename_i va h1 hop
     refine qvn hE hc hf.inv hg hf.tmps pure q o hop K Q (fun vb hvb G' w' v hp hv=>?_) (fun vb hvb=>by cases hvb)
     injection hvb with hvb
     subst hvb
     refine hK _ _ (qqU hE hc pure n q ops Q rest (fun o' ho'=>hm o' (by simp[ho'])) hok G' _ _ w' e s' (hg.mono hp.le) ⟨hp.inv,qcO (hf.tmps.mono hp.le) hd hv,by rw[qcw];exact hf.size,by rw[qbR];exact hf.defers⟩ hr (hQ.mono (s1:=⟨_,h1⟩) hp))
    ·rename_i va h1 hop
     simp only[Option.some.injEq,Prod.mk.injEq] at hr
     obtain⟨rfl,rfl⟩:=hr
     refine qvn hE hc hf.inv hg hf.tmps pure q o hop K Q (fun vb hvb=>by cases hvb) (fun vb hvb G' w' v hp hv=>?_)
     injection hvb with hvb
     subst hvb
     exact hQ G' _ a w' hp ⟨hp.inv,hf.tmps.mono hp.le,hf.size,hf.defers⟩ ⟨v,rfl,hv⟩
    ·cases hr
   ·rename_i hw
    have hwt:=qcU hf.tmps ops o hw
    refine wpList_step fun K hK=>?_
    rw[if_neg (by rw[hwt];simp)]
    exact hK _ _ (qqU hE hc pure n q ops Q rest (fun o' ho'=>hm o' (by simp[ho'])) hok G ⟨upd s.tm o.dst (.tuple []),s.h⟩ _ w e s' hg ⟨hf.inv,qcO hf.tmps hd qfl,by rw[qcw];exact hf.size,by rw[qbR];exact hf.defers⟩ hr (hQ.mono (s1:=⟨_,s.h⟩) (Post.refl hf.inv)))
   ·cases hr
variable {E:Env} {G:Ghost} {h:Heap} {w w':World}
def qf6 (l:List Nat) (n:Nat) (G G0:Ghost):Ghost :=
 { fix := G0.fix
   blk:=fun i=>if i<n then G.blk i else match l[i-n]? with | some j=>G0.blk j | none=>none
   tl:=fun i m=>if i<n then G.tl i m else match l[i-n]? with | some j=>G0.tl j m | none=>none }
theorem qo0 {l:List Nat} {n i j:Nat} (e:qi4 l n i=some j):n≤j∧l[j-n]? = some i:=by
 unfold qi4 at e
 obtain⟨p,hp,rfl⟩:=Option.map_eq_some_iff.1 e
 refine⟨by omega,?_⟩
 rw[Nat.add_sub_cancel_left]
 exact qcl hp
theorem qmI (l:List Nat) (n:Nat) (G G0:Ghost):RenOk G0 (qf6 l n G G0) (qi4 l n):=by
 refine⟨fun _ _ _ e=>e,fun i j e=>?_,fun i j m e=>?_⟩ <;>
  obtain⟨h1,h2⟩:=qo0 e<;>simp only[qf6,if_neg (Nat.not_lt.2 h1),h2]
theorem qoZ {l:List Nat} {h h2:Heap} {i:Nat} {o:AObj} (e:(qsY l h h2)[i]? = some o) :
  (i<h.length∧h[i]? = some o)∨(h.length≤i∧∃ j,l[i-h.length]? = some j∧o=qfp (qi4 l h.length) ((h2[j]?).getD .gone)):=by
 unfold qsY at e
 by_cases hi:i<h.length
 ·rw[List.getElem?_append_left hi] at e
  exact .inl ⟨hi,e⟩
 ·rw[List.getElem?_append_right (by omega),List.getElem?_map] at e
  obtain⟨j,hj,rfl⟩:=Option.map_eq_some_iff.1 e
  exact .inr ⟨by omega,j,hj,rfl⟩
theorem qvx (hi:Inv E G h w) {l:List Nat} (hnd:l.Nodup) {G0:Ghost} {h2:Heap} (hp:Post E G.bare [] w G0 h2 w') :
  Post E G h w (qf6 l h.length G G0) (qsY l h h2) w':=by
 have hle:G.le (qf6 l h.length G G0):=by
  refine⟨fun b o v e=>hp.le.fix b o v e,fun i b e=>?_,fun i m x e=>?_⟩
  ·have:i<h.length:=by
    rcases Nat.lt_or_ge i h.length with hx | hx
    ·exact hx
    ·rw[(hi.dom i hx).1] at e
     cases e
   simp only[qf6,if_pos this,e]
  ·have:i<h.length:=by
    rcases Nat.lt_or_ge i h.length with hx | hx
    ·exact hx
    ·rw[(hi.dom i hx).2 m] at e
     cases e
   simp only[qf6,if_pos this,e]
 have hblk:∀ b,b<w.heap.size→w'.heap[b]? = w.heap[b]? := fun b hb=>hp.block b hb (qfP _ b)
 have hfx:∀ b,b<w.heap.size→∀ q,G0.fix b q=G.fix b q:=by
  intro b hb q
  cases hx:G.fix b q with
  | some v=>exact hp.le.fix b q v hx
  | none =>
    cases hy:G0.fix b q with
    | none=>rfl
    | some v =>
      rcases hp.fixed b q (by rw[hy];simp) with h1 | h1 | h1
      ·exact absurd hx h1
      ·exact absurd h1 (qfP _ b)
      ·omega
 have howns:∀ {i:Nat} {o:AObj} {b:Nat},(qsY l h h2)[i]? = some o→qcz (qf6 l h.length G G0) i o b →
   (i<h.length∧h[i]? = some o∧qcz G i o b)∨(h.length≤i∧∃ j o0,l[i-h.length]? = some j∧h2[j]? = some o0∧qcz G0 j o0 b):=by
  intro i o b e ho
  rcases qoZ e with ⟨hlt,e'⟩ | ⟨hge,j,hj,rfl⟩
  ·refine .inl ⟨hlt,e',?_⟩
   cases o with
   | gone=>exact ho.elim
   | box cs=>simpa only[qcz,qf6,if_pos hlt] using ho
   | map es=>simpa only[qcz,qf6,if_pos hlt] using ho
   | tail n sz=>simpa only[qcz,qf6,if_pos hlt] using ho
   | vec cs sz=>simpa only[qcz,qf6,if_pos hlt] using ho
  ·refine .inr ⟨hge,j,?_⟩
   cases hx:h2[j]? with
   | none =>
     rw[hx] at ho
     exact ho.elim
   | some o0 =>
     rw[hx] at ho
     exact⟨o0,hj,rfl,(qed (G:=G0) (i:=j) (by simp only[qf6,if_neg (Nat.not_lt.2 hge),hj]) (fun m=>by simp only[qf6,if_neg (Nat.not_lt.2 hge),hj])).1 ho⟩
 have hnew:∀ {j:Nat} {o0:AObj} {b:Nat},h2[j]? = some o0→qcz G0 j o0 b→w.heap.size≤b:=fun e ho=>by
  rcases hp.owned _ ⟨_,_,e,ho⟩ with h1 | h1
  ·exact absurd h1 (qfP _ _)
  ·exact h1
 refine⟨hle,⟨hp.inv.fix,hp.inv.one,fun i o e=>?_,fun i o i' o' b e e' ho ho'=>?_,fun i hi'=>?_,hp.inv.tab⟩,hp.size,fun b hb _=>hblk b hb,fun b q e=>?_,fun b ho=>?_,hp.os,hp.tape,hp.output⟩
 ·rcases qoZ e with ⟨hlt,e'⟩ | ⟨hge,j,hj,rfl⟩
  ·exact (hi.obj i o e').keep hle (fun b hb=>hblk b (hi.owns_lt e' hb)) (fun b hb q=>hfx b (hi.owns_lt e' hb) q) (fun m=>by simp only[qf6,if_pos hlt])
  ·cases hx:h2[j]? with
   | none=>exact trivial
   | some o0=>exact qlB (qmI l h.length G G0) (fun _ _=>rfl) (by simp only[qf6,if_neg (Nat.not_lt.2 hge),hj]) (fun m=>by simp only[qf6,if_neg (Nat.not_lt.2 hge),hj]) (hp.inv.obj j o0 hx)
 ·rcases howns e ho with ⟨a0,a1,a2⟩ | ⟨a0,j,o0,a1,a2,a3⟩<;>rcases howns e' ho' with ⟨b0,b1,b2⟩ | ⟨b0,j',o0',b1,b2,b3⟩
  ·exact hi.sep i o i' o' b a1 b1 a2 b2
  ·have:=hi.owns_lt a1 a2
   have:=hnew b2 b3
   omega
  ·have:=hi.owns_lt b1 b2
   have:=hnew a2 a3
   omega
  ·have:=hp.inv.sep j o0 j' o0' b a2 b2 a3 b3
   subst this
   have h1:=qdS hnd a1
   have h3:=qdS hnd b1
   rw[h1] at h3
   injection h3 with h3
   omega
 ·have hlen:h.length+l.length≤i:=by simpa[qsY] using hi'
  have hx:l[i-h.length]? = none:=List.getElem?_eq_none (by omega)
  refine⟨by simp only[qf6,if_neg (show ¬ i<h.length by omega),hx],fun m=>by simp only[qf6,if_neg (show ¬ i<h.length by omega),hx]⟩
 ·rcases hp.fixed b q e with h1 | h1 | h1
  ·exact .inl h1
  ·exact absurd h1 (qfP _ b)
  ·exact .inr (.inr h1)
 ·obtain⟨i,o,e,ho⟩:=ho
  rcases howns e ho with ⟨a0,a1,a2⟩ | ⟨a0,j,o0,a1,a2,a3⟩
  ·exact .inl ⟨i,o,a1,a2⟩
  ·exact .inr (hnew a2 a3)
theorem qxz {call:CallT} (hc:qbX E call):qbX E (qoY call):=by
 intro G h w f k args vs r h' hf hr ha hi hg
 unfold qoY at hr
 split at hr
 case isFalse=>cases hr
 rename_i hd
 split at hr
 case h_2=>cases hr
 rename_i v h2 hcall
 simp only[Option.some.injEq,Prod.mk.injEq] at hr
 obtain⟨rfl,rfl⟩:=hr
 have ha2:RepL E G.bare (args.map wipe) vs.toList:=RepL.data (G:=G) (G':=G.bare) (fun _ _ _ h=>h) ha.wipes hd
 refine (hc G.bare [] w f k _ vs _ _ hf hcall ha2 hi.bare hg.bare).mono fun e w' ⟨G0,hp,x,he,hx⟩=>?_
 exact⟨_,qvx hi (qey 0 (qa9 v) [] .nil (fun i hi=>by cases hi)).1 hp,x,he,hx.ren (qmI _ _ G G0)⟩
theorem qyG (hE:EnvOk E) {call:CallT} (hc:qbX E call) (hi:Inv E G h w) (hg:GlobOk E G) {tm:Tmps} {a:Act} (ht:RelT E G tm a) (pure:Nat→Bool) (o:Oper) {r:ARes} {h':Heap}
  (hr:qjV pure call (cOp E o.op) tm h=some (r,h')) (next:Act→World→Prop) (Q:Exit→Act→World→Prop)
  (hv:∀ va,r=.val va→∀ G' w' v,Post E G h w G' h' w'→Rep E G' va v→next (a.put o.dst v) w')
  (hp:∀ va,r=.panic va→∀ G' w' v,Post E G h w G' h' w'→Rep E G' va v→Q (.panic [{ v,recovered:=false }]) a w'):o.wp E.P a w next Q:=by
 by_cases hk:∃ k args,cOp E o.op=.pcall k args
 case neg =>
  by_cases hap:∃ sz bytes x y,cOp E o.op=.append sz bytes x y∧qgs (opd tm x)=true
  ·obtain⟨sz,bytes,x,y,hq,hx⟩:=hap
   rw[hq] at hr
   simp only[qjV,hx,if_true] at hr
   split at hr
   case h_2=>cases hr
   rename_i v h1 hv1
   simp only[Option.some.injEq,Prod.mk.injEq] at hr
   obtain⟨rfl,rfl⟩:=hr
   obtain⟨n,w',G',u,h2,h3,h4,h5⟩:=qvo hi hg ht o hq hv1
   unfold Oper.wp
   rw[h2]
   rcases h3 with rfl | ⟨rfl,rfl⟩
   ·exact hv v rfl G' w' u h4 h5
   ·exact hv v rfl G' w' undef h4 h5
  refine qvp hE hc hi hg ht pure o ?_ next Q hv hp
  generalize hq:cOp E o.op=ao at hr hk hap
  cases ao with
  | pcall k args=>exact absurd ⟨k,args,rfl⟩ hk
  | append sz bytes x y =>
    simp only[qjV] at hr
    rw[if_neg fun hx=>hap ⟨sz,bytes,x,y,rfl,hx⟩] at hr
    exact hr
  | _=>exact hr
 obtain⟨k,args,hq⟩:=hk
 rw[hq] at hr
 simp only[qjV] at hr
 obtain⟨c,f,ho,hcf⟩:∃ c f,o.op=.call c∧c.callee=.value f:=by
  cases hop:o.op with
  | call c =>
    cases hcal:c.callee with
    | value f'=>exact⟨c,f',rfl,hcal⟩
    | invoke r m=>rw[hop] at hq;simp only[cOp,qgg,hcal] at hq;cases hq
    | builtin b =>
      rw[hop] at hq
      cases b<;>simp only[cOp,qgg,hcal] at hq<;>(repeat' (first | split at hq | cases hq))
      all_goals (unfold qhz at hq;repeat' (first | split at hq | cases hq))
  | build t ps=>rw[hop] at hq;simp only[cOp] at hq;rcases qc6 (E:=E) t ps with hc | ⟨z,qs,hc⟩<;>rw[hc] at hq<;>cases hq
  | buildSlice t n ps=>rw[hop] at hq;simp only[cOp] at hq;rcases qbW (E:=E) t n ps with hc | ⟨z,qs,hc⟩<;>rw[hc] at hq<;>cases hq
  | makeFunc fn x y=>rw[hop] at hq;cases fn<;>simp only[cOp] at hq<;>(repeat' (first | split at hq | cases hq))
  | makeMap t x=>rw[hop] at hq;cases x<;>cases hq
  | _ =>
    rw[hop] at hq
    simp only[cOp] at hq
    first
     | (cases hq;done)
     | (first | unfold qqq at hq | unfold qkH at hq | unfold qqp at hq | unfold qkG at hq | unfold qkB at hq | unfold qet at hq | unfold qdu at hq | unfold qkC at hq | unfold qhB at hq | unfold qc7 at hq | unfold qqr at hq | skip
        repeat' (first | split at hq | cases hq))
 rw[ho] at hq
 simp only[cOp,qgg,hcf] at hq
 have hfo:qcb E f=.val (.func k [] [])∧args=qhC E c.args:=by
  unfold qjs at hq
  split at hq
  ·rename_i k' hf
   split at hq
   ·injection hq with h1 h2
    subst h1
    exact⟨hf,h2.symm⟩
   ·cases hq
  ·cases hq
 obtain⟨hfv,rfl⟩:=hfo
 have hf:=qeA hg ht f
 rw[hfv] at hf
 simp only[opd] at hf
 generalize hqq:a.eval f=vf at hf
 cases hf with
 | @func f0 _ _ _ va vb hk hla hlb hra hrb =>
   obtain⟨fn,hfn,hname,hbody⟩:=hE.fn f0 k hk
   have hargs:=qhd hg ht c.args
   have hva:va = #[]:=by simpa using hla
   have hvb:vb = #[]:=by simpa using hlb
   subst hva hvb
   have hall:RepL E G ((qhC E c.args).map (opd tm)) ((#[]++c.args.map a.eval) ++ #[]).toList:=by simpa using hargs
   have hcalls:=qxz hc G h w f0 k _ _ r h' hk hr hall hi hg
   have hrun:(execOp a.eval o).run E.P w=.ok (.enter f0 ((#[]++c.args.map a.eval) ++ #[])) w:=by
    simp[execOp,ho,resolve,hcf,hqq,Deferred.ofValue,invoke,qiT hfn hname hbody]
   unfold Oper.wp
   rw[hrun,Oper.upon_enter]
   refine hcalls.mono fun e w' ⟨G',hpo,hres⟩=>?_
   cases r with
   | val v =>
     obtain⟨x,rfl,hx⟩:=hres
     exact hv v rfl G' w' x hpo hx
   | panic v =>
     obtain⟨x,rfl,hx⟩:=hres
     exact hp v rfl G' w' x hpo hx
theorem qqT (hE:EnvOk E) {call:CallT} (hc:qbX E call) (pure:Nat→Bool) (n:Nat) (ops:Array Oper) (Q:Exit→Act→World→Prop) :
  ∀ (l:List Oper),(∀ o∈l,o∈ops.toList)→qez n ops=true→∀ (G:Ghost) (s:St) (a:Act) (w:World) (e:AExit) (s':St),GlobOk E G→Fr E G n s a w →
   qeE pure call (l.map (qfu E ops)) s=some (e,s')→Owed E G n s w e s' Q→wpList E.P ops Q l a w
 | [],_,_,G,s,a,w,e,s',hg,hf,hr,hQ => by
   simp only[List.map_nil,qeE,Option.some.injEq,Prod.mk.injEq] at hr
   obtain⟨rfl,rfl⟩:=hr
   exact wpList_nil (hQ G .normal a w (Post.refl hf.inv) hf rfl)
 | o :: rest,hm,hok,G,s,a,w,e,s',hg,hf,hr,hQ => by
   have hd:∀ k,o.dst=some k→k<a.tmps.size:=by
    intro k hk
    have h1:=List.all_eq_true.1 hok o (hm o (by simp))
    have h3:k<n:=by simpa[hk] using h1
    exact Nat.lt_of_lt_of_le h3 hf.size
   simp only[List.map_cons,qeE] at hr
   split at hr
   ·rename_i hw
    have hwt:=qcU hf.tmps ops o hw
    refine wpList_step fun K hK=>?_
    rw[if_pos hwt]
    split at hr
    ·rename_i va h1 hop
     refine qyG hE hc hf.inv hg hf.tmps pure o hop K Q (fun vb hvb G' w' v hp hv=>?_) (fun vb hvb=>by cases hvb)
     injection hvb with hvb
     subst hvb
     refine hK _ _ (qqT hE hc pure n ops Q rest (fun o' ho'=>hm o' (by simp[ho'])) hok G' _ _ w' e s' (hg.mono hp.le) ⟨hp.inv,qcO (hf.tmps.mono hp.le) hd hv,by rw[qcw];exact hf.size,by rw[qbR];exact hf.defers⟩ hr (hQ.mono (s1:=⟨_,h1⟩) hp))
    ·rename_i va h1 hop
     simp only[Option.some.injEq,Prod.mk.injEq] at hr
     obtain⟨rfl,rfl⟩:=hr
     refine qyG hE hc hf.inv hg hf.tmps pure o hop K Q (fun vb hvb=>by cases hvb) (fun vb hvb G' w' v hp hv=>?_)
     injection hvb with hvb
     subst hvb
     exact hQ G' _ a w' hp ⟨hp.inv,hf.tmps.mono hp.le,hf.size,hf.defers⟩ ⟨v,rfl,hv⟩
    ·cases hr
   ·rename_i hw
    have hwt:=qcU hf.tmps ops o hw
    refine wpList_step fun K hK=>?_
    rw[if_neg (by rw[hwt];simp)]
    exact hK _ _ (qqT hE hc pure n ops Q rest (fun o' ho'=>hm o' (by simp[ho'])) hok G ⟨upd s.tm o.dst (.tuple []),s.h⟩ _ w e s' hg ⟨hf.inv,qcO hf.tmps hd qfl,by rw[qcw];exact hf.size,by rw[qbR];exact hf.defers⟩ hr (hQ.mono (s1:=⟨_,s.h⟩) (Post.refl hf.inv)))
   ·cases hr
end Go.Abs
