/-
  PARTS OF A PROOF, joined: an abstract machine for quiet code, its evaluation, and what the seat's functions answer on it. Conditions: none.
-/
import Derived.Test.YtpchghpipgpkfaaDoorAbsI
import Derived.Laws.MakeOwn
set_option linter.unusedVariables false
namespace Go.Abs
variable {E:Env} {G:Ghost} {h:Heap} {w:World}
def Gives (E:Env) (G:Ghost) (h:Heap) (w:World) (s:Sem Next) (va:AVal) (h':Heap):Prop :=
 ∃ n w' G' v,s.run E.P w=.ok n w'∧(n=.value v∨(n=.skip∧v=undef))∧Post E G h w G' h' w'∧Rep E G' va v
theorem Gives.val {s:Sem Value} {va:AVal} {v:Value} (hi:Inv E G h w) (hr:s.run E.P w=.ok v w) (hv:Rep E G va v):Gives E G h w (do pure (Next.value (← s))) va h :=
 ⟨_,w,G,v,qtn hr,.inl rfl,Post.refl hi,hv⟩
theorem Gives.valTo {s:Sem Value} {va:AVal} {v:Value} {w':World} {G':Ghost} {h':Heap} (hr:s.run E.P w=.ok v w') (hp:Post E G h w G' h' w') (hv:Rep E G' va v):Gives E G h w (do pure (Next.value (← s))) va h' :=
 ⟨_,w',G',v,qtn hr,.inl rfl,hp,hv⟩
theorem Gives.unit {s:Sem Unit} {w':World} {G':Ghost} {h':Heap} (hr:s.run E.P w=.ok () w') (hp:Post E G h w G' h' w'):Gives E G h w (do s;pure Next.skip) (.tuple []) h' :=
 ⟨_,w',G',undef,qCC hr,.inr ⟨rfl,rfl⟩,hp,.tuple rfl fun i c v e=>by simp at e⟩
theorem qa4 {x:Option AVal} {h h':Heap} {va:AVal} (hr:qaa x h=some (.val va,h')):x=some va∧h'=h:=by
 unfold qaa at hr
 split at hr
 ·simp only[Option.some.injEq,Prod.mk.injEq,ARes.val.injEq] at hr
  exact⟨by rw[hr.1],hr.2.symm⟩
 ·cases hr
theorem qfX {x:Option Heap} {h':Heap} {va:AVal} (hr:qay x=some (.val va,h')):x=some h'∧va=.tuple []:=by
 unfold qay at hr
 split at hr
 ·simp only[Option.some.injEq,Prod.mk.injEq,ARes.val.injEq] at hr
  exact⟨by rw[hr.2],hr.1.symm⟩
 ·cases hr
theorem qyL {tm:Tmps} {a:Act} (hg:GlobOk E G) (ht:RelT E G tm a) (o:Option Operand):RepO E G ((o.map (qcb E)).map (opd tm)) (o.map a.eval):=by
 cases o with
 | none=>exact⟨fun _=>rfl,fun v e=>by cases e⟩
 | some x=>exact⟨(fun e=>by cases e),fun v e=>⟨_,rfl,by simp at e;rw[← e];exact qeA hg ht x⟩⟩
theorem qiT {P : Program} {w : World} {f : FuncId} {fn : Func} (hf : P.funcs[f]? = some fn) (hn : (fn.name == "runtime.NumGoroutine") = false) (hb : fn.body.isSome = true) (args : Array Value) :
  (callFunc f args).run P w=.ok (.enter f args) w:=by
 have hb':fn.body.isNone=false:=by cases hq:fn.body with | none=>rw[hq] at hb;cases hb | some c=>rfl
 unfold callFunc
 rw[Sem.run_bind,run_program,Result.andThen_ok,hf]
 simp only[hn,hb']
 rfl
theorem qc6 (t:TypeId) (ps:Array (Nat × Operand)):qms E t ps=.stuck∨∃ z qs,qms E t ps=.build z qs:=by
 unfold qms
 repeat' split
 all_goals first | exact .inl rfl | exact .inr ⟨_,_,rfl⟩
theorem qbW (t:TypeId) (n:Nat) (ps:Array (Nat × Operand)):qdt E t n ps=.stuck∨∃ z qs,qdt E t n ps=.buildSlice z qs:=by
 unfold qdt
 repeat' split
 all_goals first | exact .inl rfl | exact .inr ⟨_,_,rfl⟩
theorem qs2 {v:AVal} (h:leaf v=true):qcK v=true:=by cases v<;>first | rfl | (simp[leaf] at h)
theorem qhx {v:AVal} (h:leaf v=true):acells v=[v]:=by cases v<;>first | rfl | (simp[leaf] at h)
theorem qBL (hi:Inv E G h w) (hg:GlobOk E G) {tm:Tmps} {a:Act} (ht:RelT E G tm a) (pure:Nat→Bool) (call:CallT) (o:Oper) (hnc:∀ c f,o.op=.call c→c.callee≠.value f) {va:AVal} {h':Heap}
  (hr:aOp pure call (cOp E o.op) tm h=some (.val va,h')):Gives E G h w (execOp a.eval o) va h':=by
 obtain⟨dst,op,type,pos,after,guard⟩:=o
 have hO:=fun x=>qeA hg ht x
 cases op with
 | move x =>
   simp only[cOp,aOp,Option.some.injEq,Prod.mk.injEq,ARes.val.injEq] at hr
   obtain⟨rfl,rfl⟩:=hr
   exact⟨_,w,G,_,rfl,.inl rfl,Post.refl hi,hO x⟩
 | assign x =>
   simp only[cOp,aOp,Option.some.injEq,Prod.mk.injEq,ARes.val.injEq] at hr
   obtain⟨rfl,rfl⟩:=hr
   exact⟨_,w,G,_,rfl,.inl rfl,Post.refl hi,hO x⟩
 | pick c x y =>
   simp only[cOp,aOp] at hr
   split at hr
   ·rename_i b hb
    simp only[Option.some.injEq,Prod.mk.injEq,ARes.val.injEq] at hr
    obtain⟨rfl,rfl⟩:=hr
    have hc:=hO c
    rw[hb] at hc
    generalize hq:a.eval c=vc at hc
    cases hc with
    | bool b =>
      refine⟨.value (if b then a.eval x else a.eval y),w,G,_,?_,.inl rfl,Post.refl hi,?_⟩
      ·simp[execOp,hq,asBool]
      ·cases b
       ·exact hO y
       ·exact hO x
   ·cases hr
 | alloc t =>
   simp only[cOp] at hr
   split at hr
   ·rename_i i hn
    split at hr
    ·rename_i z hz
     split at hr
     ·rename_i hk
      simp only[aOp,Option.some.injEq,Prod.mk.injEq,ARes.val.injEq] at hr
      obtain⟨rfl,rfl⟩:=hr
      have hp:=qr9 hi (acells (ofValue z)) z.cells t ((qdz E G z).cells (qkc hk))
      refine Gives.valTo (v:=.pointer (some ⟨w.heap.size,0,none⟩)) ?_ hp (.ptr (by simp[Ghost.withBlk]))
      simp[Instr.alloc,qgB hn hz,newVar,newRow]
     ·cases hr
    ·cases hr
   ·cases hr
 | box t x =>
   simp only[cOp,aOp] at hr
   split at hr
   ·cases hr
   ·rename_i hj
    simp only[Option.some.injEq,Prod.mk.injEq,ARes.val.injEq] at hr
    obtain⟨rfl,rfl⟩:=hr
    have hp:=qr9 hi (acells (opd tm (qcb E x))) (a.eval x).cells t ((hO x).cells hj)
    refine Gives.valTo (v:=.pointer (some ⟨w.heap.size,0,none⟩)) ?_ hp (.ptr (by simp[Ghost.withBlk]))
    simp[Instr.box,newVar,newRow]
 | build t ps =>
   simp only[cOp] at hr
   rcases qc6 (E:=E) t ps with hc | ⟨z,qs,hc⟩
   ·rw[hc] at hr;cases hr
   ·rw[hc] at hr
    simp only[aOp] at hr
    obtain⟨h1,rfl⟩:=qa4 hr
    obtain⟨cs,hf,rfl⟩:=Option.map_eq_some_iff.1 h1
    obtain⟨v,h2,h3⟩:=qt0 (w:=w) hg ht hc hf
    exact Gives.val hi h2 h3
 | buildSlice t n ps =>
   simp only[cOp] at hr
   rcases qbW (E:=E) t n ps with hc | ⟨sz,qs,hc⟩
   ·rw[hc] at hr;cases hr
   ·rw[hc] at hr
    simp only[aOp] at hr
    split at hr
    ·rename_i hl
     simp only[Option.some.injEq,Prod.mk.injEq,ARes.val.injEq] at hr
     obtain⟨rfl,rfl⟩:=hr
     obtain⟨v,w',G',h2,h3,h4⟩:=ql3 hi hg ht hc hl
     exact Gives.valTo h2 h3 h4
    ·cases hr
 | load t x =>
   simp only[cOp,qqq] at hr
   split at hr
   ·rename_i d i hd hn
    split at hr
    ·rename_i ha
     simp only[aOp] at hr
     obtain⟨h1,rfl⟩:=qa4 hr
     obtain⟨cs,hf,rfl⟩:=Option.map_eq_some_iff.1 h1
     obtain⟨v,h2,h3⟩:=qpc hi (hO x) hd hn ha hf
     exact Gives.val hi h2 h3
    ·rename_i ha
     simp only[aOp] at hr
     obtain⟨h1,rfl⟩:=qa4 hr
     obtain⟨v,h2,h3⟩:=qpb hi (hO x) hd (by simpa using ha) h1
     exact Gives.val hi h2 h3
   ·cases hr
 | store t x y =>
   simp only[cOp,qkH] at hr
   split at hr
   ·rename_i i hn
    simp only[aOp] at hr
    obtain⟨h1,rfl⟩:=qfX hr
    obtain⟨w',h2,h3⟩:=qwb hi (hO x) (hO y) hn h1
    exact Gives.unit h2 h3
   ·cases hr
 | nilCheck x =>
   simp only[cOp,aOp] at hr
   have hx:=hO x
   split at hr
   ·rename_i p hp
    simp only[Option.some.injEq,Prod.mk.injEq,ARes.val.injEq] at hr
    obtain⟨rfl,rfl⟩:=hr
    rw[hp] at hx
    generalize hq:a.eval x=vx at hx
    cases hx with
    | ptr hb=>exact⟨_,w,G,_,by simp only[execOp,hq];rfl,.inl rfl,Post.refl hi,.ptr hb⟩
   ·rename_i cs n hp
    simp only[Option.some.injEq,Prod.mk.injEq,ARes.val.injEq] at hr
    obtain⟨rfl,rfl⟩:=hr
    rw[hp] at hx
    generalize hq:a.eval x=vx at hx
    cases hx with
    | vptr vs hl hf hrr=>exact⟨_,w,G,_,by simp only[execOp,hq];rfl,.inl rfl,Post.refl hi,.vptr vs hl hf hrr⟩
   ·rename_i f p q hp
    simp only[Option.some.injEq,Prod.mk.injEq,ARes.val.injEq] at hr
    obtain⟨rfl,rfl⟩:=hr
    rw[hp] at hx
    generalize hq:a.eval x=vx at hx
    cases hx with
    | func hk hla hlb ha hb=>exact⟨_,w,G,_,by simp only[execOp,hq];rfl,.inl rfl,Post.refl hi,.func hk hla hlb ha hb⟩
   ·cases hr
 | binOp op t x y u =>
   simp only[cOp,aOp] at hr
   obtain⟨h1,rfl⟩:=qa4 hr
   obtain⟨v,h2,h3⟩:=qyU op t x y (hO x) (hO y) h1
   exact Gives.val hi h2 h3
 | unOp op t x =>
   simp only[cOp,aOp] at hr
   obtain⟨h1,rfl⟩:=qa4 hr
   obtain⟨v,h2,h3⟩:=qB0 op (hO x) h1
   exact Gives.val hi h2 h3
 | convert src dst x =>
   simp only[cOp,qqp] at hr
   have hx:=hO x
   split at hr
   ·rename_i ds k hs hd
    simp only[aOp] at hr
    split at hr
    ·rename_i k' n hp
     simp only[Option.some.injEq,Prod.mk.injEq,ARes.val.injEq] at hr
     obtain⟨rfl,rfl⟩:=hr
     rw[hp] at hx
     generalize hq:a.eval x=vx at hx
     cases hx with
     | int k' n =>
       refine Gives.val hi (v:=.int k (k.wrap n)) ?_ (.int _ _)
       rw[hq]
       simp[convert,run_underlying hs,run_underlying hd,Conv.intToInt]
    ·cases hr
   ·rename_i hs hd
    simp only[aOp] at hr
    split at hr
    ·rename_i s hp
     simp only[Option.some.injEq,Prod.mk.injEq,ARes.val.injEq] at hr
     obtain⟨rfl,rfl⟩:=hr
     rw[hp] at hx
     generalize hq:a.eval x=vx at hx
     cases hx with
     | str s =>
       refine Gives.val hi (v:=.string s) ?_ (.str _)
       rw[hq]
       simp[convert,run_underlying hs,run_underlying hd]
    ·cases hr
   ·cases hr
 | makeInterface t x =>
   simp only[cOp] at hr
   split at hr
   ·cases hr
   ·rename_i d k hni hd hk
    simp only[aOp,Option.some.injEq,Prod.mk.injEq,ARes.val.injEq] at hr
    obtain⟨rfl,rfl⟩:=hr
    refine Gives.val hi (v:=.iface t (a.eval x)) ?_ (.iface hk (hO x))
    cases d<;>first | exact (hni _ rfl).elim | simp[Instr.makeInterface,run_underlying hd]
   ·cases hr
 | makeFunc fn first cap =>
   cases fn with
   | func f =>
     simp only[cOp] at hr
     split at hr
     ·rename_i k hk
      simp only[aOp,Option.some.injEq,Prod.mk.injEq,ARes.val.injEq] at hr
      obtain⟨rfl,rfl⟩:=hr
      have h1:=qhd hg ht first
      have h2:=qhd hg ht cap
      refine Gives.val hi (v:=.func (.func f) (first.map a.eval) (cap.map a.eval)) rfl (.func hk (by simpa using h1.len) (by simpa using h2.len) (fun i c v e e'=>h1.rep i c v e (by simpa using e')) (fun i c v e e'=>h2.rep i c v e (by simpa using e')))
     ·cases hr
   | _=>cases hr
 | makeSlice t l c =>
   simp only[cOp] at hr
   unfold qqr at hr
   split at hr
   ·rename_i e htu
    split at hr
    ·rename_i i hn
     split at hr
     ·rename_i z hz
      split at hr
      ·rename_i hc
       obtain⟨c1,c2,c3,c4⟩:=hc
       simp only[aOp] at hr
       split at hr
       ·rename_i kl na kc nb hl hcc
        split at hr
        ·rename_i hab
         obtain⟨h0,h1,h2⟩:=hab
         simp only[Option.some.injEq,Prod.mk.injEq,ARes.val.injEq] at hr
         obtain⟨rfl,rfl⟩:=hr
         have rl:=hO l
         have rc:=hO c
         rw[hl] at rl
         rw[hcc] at rc
         generalize hvl:a.eval l=vl at rl
         generalize hvc:a.eval c=vc at rc
         cases rl
         cases rc
         have hbb:(i.bytes:Int)*nb≤281474976710656:=by
          have q1:(i.bytes:Int)≤4096:=by omega
          have q2:(i.bytes:Int)*nb≤4096*1073741824:=Int.mul_le_mul q1 h2 (by omega) (by omega)
          omega
         have hrun:=run_make (P:=E.P) w t e i z htu hn hz kl kc na nb h0 h1 hbb (by omega)
         have hz1:RepL E G [ofValue z] z.cells.toList:=by
          have:=(qdz E G z).cells (qkc (qs2 c4))
          rwa [qhx c4] at this
         obtain⟨zc,hzc⟩:∃ zc,z.cells = #[zc]:=by
          have hsz:=c2
          generalize z.cells=zz at hsz
          obtain⟨ll⟩:=zz
          match ll,hsz with
          | [x],_=>exact⟨x,rfl⟩
         have hrz:Rep E G (ofValue z) zc:=by
          rw[hzc] at hz1
          exact hz1.rep 0 _ _ rfl rfl
         have hmade:∀ (n j:Nat) (v:Value),(madeCells z.cells n).toList[j]? = some v→v=zc:=by
          intro n j v e
          rw[hzc] at e
          unfold madeCells at e
          rw[Array.getElem?_toList,Array.getElem?_map] at e
          obtain⟨q,_,rfl⟩:=Option.map_eq_some_iff.1 e
          have:q % (#[zc]:Array Value).size=0:=by simp[Nat.mod_one]
          rw[this]
          rfl
         have hsz:(madeCells z.cells (nb.toNat*i.size)).size=nb.toNat*1:=by rw[size_madeCells,c1]
         have hL:(madeCells z.cells (nb.toNat*i.size)).toList.length=nb.toNat*1:=by rw[← hsz];exact Array.length_toList
         have hp:=qjG hi (List.replicate na.toNat (ofValue z)) (madeCells z.cells (nb.toNat*i.size)) e nb.toNat na.toNat 1 hsz (by rw[List.length_replicate,hsz];omega)
          ⟨by rw[List.length_take,hL,List.length_replicate];omega,fun j c v e1 e2=>by
           rw[List.getElem?_take] at e2
           split at e2
           ·rw[hmade _ j v e2]
            rw[List.getElem?_replicate] at e1
            split at e1
            ·injection e1 with e1
             rw[← e1]
             exact hrz
            ·cases e1
           ·cases e2⟩
         refine Gives.valTo (v:=.slice (some ⟨w.heap.size,0,none⟩) na.toNat nb.toNat) ?_ hp (.vec (cap:=nb.toNat) (sz:=1) (b:=w.heap.size) (by simp[Ghost.withVec]) (by simp[Ghost.withVec]) (by omega))
         rw[hvl,hvc]
         exact hrun
        ·cases hr
       ·cases hr
      ·cases hr
     ·cases hr
    ·cases hr
   ·cases hr
 | makeMap t r =>
   cases r with
   | none =>
     simp only[cOp,aOp,Option.some.injEq,Prod.mk.injEq,ARes.val.injEq] at hr
     obtain⟨rfl,rfl⟩:=hr
     refine Gives.valTo (v:=.map (some w.heap.size)) ?_ (qxY hi) (.map (by simp[Ghost.withBlk]))
     simp[Instr.makeMap]
   | some r=>cases hr
 | slice t x lo hb mx =>
   simp only[cOp] at hr
   unfold qkG at hr
   split at hr
   ·rename_i hd
    split at hr
    ·rename_i hm
     simp only[aOp] at hr
     obtain⟨h1,rfl⟩:=qa4 hr
     have hmn:mx=none:=by simpa using hm
     subst hmn
     obtain⟨v,h2,h3⟩:=qpL (w:=w) (hO x) hd (qyL hg ht lo) (qyL hg ht hb) h1
     exact Gives.val hi h2 h3
    ·cases hr
   ·rename_i e hd
    split at hr
    ·rename_i j hn
     split at hr
     ·rename_i hj
      simp only[aOp] at hr
      obtain⟨h1,rfl⟩:=qa4 hr
      have hx:=hO x
      generalize hav:opd tm (qcb E x)=av at hx h1
      cases av with
      | list xs own =>
        obtain⟨v,h2,h3⟩:=qn8 hi hx hd hn hj (qyL hg ht lo) (qyL hg ht hb) (qyL hg ht mx) h1
        exact Gives.val hi h2 h3
      | ref id off len =>
        obtain⟨v,h2,h3⟩:=qpK hi hx hd hn (qyL hg ht lo) (qyL hg ht hb) (qyL hg ht mx) h1
        exact Gives.val hi h2 h3
      | _=>simp[qdo] at h1
     ·cases hr
    ·cases hr
   ·cases hr
 | fieldAddr s x k =>
   simp only[cOp,qkB] at hr
   split at hr
   ·rename_i fs hd
    split at hr
    ·rename_i f hf
     split at hr
     ·rename_i i hn
      split at hr
      ·cases hr
      ·rename_i h0
       simp only[aOp] at hr
       obtain⟨h1,rfl⟩:=qa4 hr
       obtain⟨v,h2,h3⟩:=quz (w:=w) (hO x) hd hf hn h0 h1
       exact Gives.val hi h2 h3
     ·cases hr
    ·cases hr
   ·cases hr
 | field s x k =>
   simp only[cOp,qet] at hr
   split at hr
   ·rename_i fs hd
    split at hr
    ·rename_i f hf
     split at hr
     ·rename_i d i hdt hn
      split at hr
      ·rename_i ha
       simp only[aOp] at hr
       obtain⟨h1,rfl⟩:=qa4 hr
       obtain⟨v,h2,h3⟩:=qjx (w:=w) (hO x) hd hf hdt hn (r:=va) (by rw[if_pos ha];exact h1)
       exact Gives.val hi h2 h3
      ·rename_i ha
       simp only[aOp] at hr
       obtain⟨h1,rfl⟩:=qa4 hr
       obtain⟨v,h2,h3⟩:=qjx (w:=w) (hO x) hd hf hdt hn (r:=va) (by rw[if_neg ha];exact h1)
       exact Gives.val hi h2 h3
     ·cases hr
    ·cases hr
   ·cases hr
 | indexAddr t x y =>
   simp only[cOp,qdu] at hr
   split at hr
   ·rename_i e hd
    split at hr
    ·rename_i j hn
     simp only[aOp] at hr
     obtain⟨h1,rfl⟩:=qa4 hr
     obtain⟨v,h2,h3⟩:=qnF (w:=w) (hO x) (hO y) hd hn h1
     exact Gives.val hi h2 h3
    ·cases hr
   ·rename_i n e hd
    split at hr
    ·rename_i j hn
     simp only[aOp] at hr
     obtain⟨h1,rfl⟩:=qa4 hr
     obtain⟨v,h2,h3⟩:=qoP (w:=w) (hO x) (hO y) hd hn h1
     exact Gives.val hi h2 h3
    ·cases hr
   ·cases hr
 | index t x y =>
   simp only[cOp,qkC] at hr
   split at hr
   ·rename_i hd
    simp only[aOp] at hr
    obtain⟨h1,rfl⟩:=qa4 hr
    obtain⟨v,h2,h3⟩:=qoQ (w:=w) (hO x) (hO y) hd h1
    exact Gives.val hi h2 h3
   ·rename_i n e hd
    split at hr
    ·rename_i d j hde hn
     split at hr
     ·rename_i hc
      simp only[aOp] at hr
      obtain⟨h1,rfl⟩:=qa4 hr
      obtain⟨v,h2,h3⟩:=qoO (w:=w) (hO x) (hO y) hd hde hn hc.1 hc.2 h1
      exact Gives.val hi h2 h3
     ·cases hr
    ·cases hr
   ·cases hr
 | lookup t m k ok =>
   simp only[cOp,qhB] at hr
   split at hr
   ·rename_i kt et hd
    split at hr
    ·rename_i kk i hkk hn
     split at hr
     ·rename_i z hz
      simp only[aOp] at hr
      obtain⟨h1,rfl⟩:=qa4 hr
      obtain⟨d,hdd,_⟩:=qe8 hkk
      rw[hdd] at hkk
      obtain⟨v,h2,h3⟩:=qs3 hi (hO m) (hO k) hd hdd hkk hn hz ok h1
      exact Gives.val hi h2 h3
     ·cases hr
    ·cases hr
   ·cases hr
 | mapUpdate t m k v =>
   simp only[cOp,qc7] at hr
   split at hr
   ·rename_i kt et hd
    split at hr
    ·rename_i kk hkk
     simp only[aOp] at hr
     obtain⟨h1,rfl⟩:=qfX hr
     obtain⟨d,hdd,_⟩:=qe8 hkk
     rw[hdd] at hkk
     obtain⟨w',h2,h3⟩:=qiy hi (hO m) (hO k) (hO v) hd hdd hkk h1
     exact Gives.unit h2 h3
    ·cases hr
   ·cases hr
 | insert t m k v =>
   simp only[cOp,qc7] at hr
   split at hr
   ·rename_i kt et hd
    split at hr
    ·rename_i kk hkk
     simp only[aOp] at hr
     obtain⟨h1,rfl⟩:=qfX hr
     obtain⟨d,hdd,_⟩:=qe8 hkk
     rw[hdd] at hkk
     obtain⟨w',h2,h3⟩:=qiy hi (hO m) (hO k) (hO v) hd hdd hkk h1
     exact Gives.unit h2 h3
    ·cases hr
   ·cases hr
 | extract x i =>
   simp only[cOp,aOp] at hr
   have hx:=hO x
   split at hr
   ·rename_i vs hp
    obtain⟨h1,rfl⟩:=qa4 hr
    rw[hp] at hx
    generalize hq:a.eval x=vx at hx
    cases hx with
    | @tuple _ us hl hrr =>
      have hlt:i<us.size:=by rw[hl];exact (List.getElem?_eq_some_iff.1 h1).1
      have hu:us[i]? = some us[i]:=Array.getElem?_eq_getElem hlt
      refine Gives.val hi (v:=us[i]) ?_ (hrr i va _ h1 hu)
      rw[hq]
      simp[Instr.extract,hu]
   ·cases hr
 | call c =>
   obtain⟨callee,args,ats⟩:=c
   have hA:=qhd hg ht args
   cases callee with
   | value f=>exact absurd rfl (hnc _ f rfl)
   | invoke r m=>cases hr
   | builtin b =>
     cases b with
     | len =>
       simp only[cOp,qgg] at hr
       split at hr
       ·rename_i t x ht1 hx1
        split at hr
        ·rename_i k hk
         simp only[aOp] at hr
         obtain⟨h1,rfl⟩:=qa4 hr
         have hats:ats = #[t]:=by rw[← Array.toArray_toList (xs:=ats),ht1]
         have hargs:args = #[x]:=by rw[← Array.toArray_toList (xs:=args),hx1]
         subst hats hargs
         obtain⟨v,h2,h3⟩:=qAD hi (hO x) type hk h1
         exact⟨.value v,w,G,v,by simp[execOp,resolve,invoke,builtin,h2],.inl rfl,Post.refl hi,h3⟩
        ·cases hr
       ·cases hr
     | append =>
       simp only[cOp,qgg] at hr
       split at hr
       ·rename_i t u x y ht1 hx1
        have hats:ats = #[t,u]:=by rw[← Array.toArray_toList (xs:=ats),ht1]
        have hargs:args = #[x,y]:=by rw[← Array.toArray_toList (xs:=args),hx1]
        subst hats hargs
        unfold qhz at hr
        split at hr
        ·rename_i e e2 htu htu2
         split at hr
         ·rename_i i hn
          split at hr
          ·rename_i z hz
           split at hr
           ·rename_i hc
            obtain⟨c1,c2,c3,c4,rfl⟩:=hc
            simp only[aOp] at hr
            split at hr
            ·rename_i v' h1' hap
             simp only[Option.some.injEq,Prod.mk.injEq,ARes.val.injEq] at hr
             obtain⟨rfl,rfl⟩:=hr
             obtain⟨v,w',G',h2,h3,h4⟩:=qiR hi type htu hn hz c1 c2 c3 c4 (hO x) (hO y) hap
             exact⟨.value v,w',G',v,by simp[execOp,resolve,invoke,builtin,h2],.inl rfl,h3,h4⟩
            ·cases hr
           ·cases hr
          ·cases hr
         ·cases hr
        ·cases hr
       ·cases hr
     | max =>
       simp only[cOp,qgg,aOp] at hr
       obtain⟨h1,rfl⟩:=qa4 hr
       obtain⟨v,h2,h3⟩:=qmS (w:=w) true ats type hA h1
       exact⟨.value v,w,G,v,by simp at h2;simp[execOp,resolve,invoke,builtin,h2],.inl rfl,Post.refl hi,h3⟩
     | min =>
       simp only[cOp,qgg,aOp] at hr
       obtain⟨h1,rfl⟩:=qa4 hr
       obtain⟨v,h2,h3⟩:=qmS (w:=w) false ats type hA h1
       exact⟨.value v,w,G,v,by simp at h2;simp[execOp,resolve,invoke,builtin,h2],.inl rfl,Post.refl hi,h3⟩
     | _=>cases hr
 | _=>cases hr
theorem qvo (hi:Inv E G h w) (hg:GlobOk E G) {tm:Tmps} {a:Act} (ht:RelT E G tm a) (o:Oper) {sz bytes:Nat} {x y:Opd} (ho:cOp E o.op=.append sz bytes x y) {va:AVal} {h':Heap}
  (hr:qd2 h sz (opd tm x) (opd tm y)=some (va,h')):Gives E G h w (execOp a.eval o) va h':=by
 obtain⟨dst,op,type,pos,after,guard⟩:=o
 have hO:=fun x=>qeA hg ht x
 cases op with
 | call c =>
   obtain⟨callee,args,ats⟩:=c
   cases callee with
   | value f =>
     simp only[cOp,qgg] at ho
     unfold qjs at ho
     repeat' (first | split at ho | cases ho)
   | invoke r m=>cases ho
   | builtin b =>
     cases b with
     | append =>
       simp only[cOp,qgg] at ho
       split at ho
       ·rename_i t u x' y' ht1 hx1
        have hats:ats = #[t,u]:=by rw[← Array.toArray_toList (xs:=ats),ht1]
        have hargs:args = #[x',y']:=by rw[← Array.toArray_toList (xs:=args),hx1]
        subst hats hargs
        unfold qhz at ho
        split at ho
        ·rename_i e e2 htu htu2
         split at ho
         ·rename_i i hn
          split at ho
          ·rename_i z hz
           split at ho
           ·rename_i hc
            obtain⟨c1,c2,c3,c4,rfl⟩:=hc
            simp only[AOp.append.injEq] at ho
            obtain⟨rfl,rfl,rfl,rfl⟩:=ho
            obtain⟨v,w',G',h2,h3,h4⟩:=qqi hi type htu hn hz c1 c2 c3 c4 (hO x') (hO y') hr
            exact⟨.value v,w',G',v,by simp[execOp,resolve,invoke,builtin,h2],.inl rfl,h3,h4⟩
           ·cases ho
          ·cases ho
         ·cases ho
        ·cases ho
       ·cases ho
     | _=>simp only[cOp,qgg] at ho;repeat' (first | split at ho | cases ho)
 | build t ps=>simp only[cOp] at ho;rcases qc6 (E:=E) t ps with hc | ⟨z,qs,hc⟩<;>rw[hc] at ho<;>cases ho
 | buildSlice t n ps=>simp only[cOp] at ho;rcases qbW (E:=E) t n ps with hc | ⟨z,qs,hc⟩<;>rw[hc] at ho<;>cases ho
 | makeFunc fn x y=>cases fn<;>simp only[cOp] at ho<;>(repeat' (first | split at ho | cases ho))
 | makeMap t x=>cases x<;>cases ho
 | _ =>
   simp only[cOp] at ho
   first
    | (cases ho;done)
    | (first | unfold qqq at ho | unfold qkH at ho | unfold qqp at ho | unfold qkG at ho | unfold qkB at ho | unfold qet at ho | unfold qdu at ho | unfold qkC at ho | unfold qhB at ho | unfold qc7 at ho | unfold qqr at ho | skip
       repeat' (first | split at ho | cases ho))
end Go.Abs
namespace Go.Abs
variable {E:Env} {G:Ghost} {h:Heap} {w:World}
theorem qgk (sz:Nat):∀ (m:Nat) (cs:List AVal),(qju sz m cs).length=m
 | 0,_=>rfl
 | m+1,cs=>by rw[qju,List.length_cons,qgk sz m]
theorem qhE (sz:Nat):∀ (m:Nat) (cs:List AVal),m*sz=cs.length→(qju sz m cs).flatMap acells=cs∧∀ x∈qju sz m cs,(acells x).length=sz
 | 0,cs,h => by
   have:cs=[]:=List.eq_nil_of_length_eq_zero (by rw[← h,Nat.zero_mul])
   subst this
   exact⟨rfl,fun x hx=>by cases hx⟩
 | m + 1,cs,h => by
   rw[Nat.succ_mul] at h
   obtain⟨h1,h2⟩:=qhE sz m (cs.drop sz) (by rw[List.length_drop];omega)
   refine⟨?_,fun x hx=>?_⟩
   ·rw[qju,List.flatMap_cons,h1]
    exact List.take_append_drop sz cs
   ·rcases List.mem_cons.1 hx with rfl | hx
    ·show (cs.take sz).length=sz
     rw[List.length_take]
     omega
    ·exact h2 x hx
theorem qmK:∀ {cs:List AVal},cs.all leaf=true→cs.flatMap acells=cs
 | [],_=>rfl
 | c :: cs,h => by
   rw[List.all_cons,Bool.and_eq_true] at h
   rw[List.flatMap_cons,qhx h.1,qmK h.2]
   rfl
open Classical in
noncomputable def qdn (G:Ghost) (h:Heap) (w:World):Ghost :=
 { G with fix := fun b o => match G.fix b o with
   | some v=>some v
   | none=>if Own G h b then (match w.cell? ⟨b,o,none⟩ with | some v=>if v.oneCell'=true then some v else none | none=>none) else none }
theorem qp0 {b o:Nat} {v:Value} (e:G.fix b o=some v):(qdn G h w).fix b o=some v:=by
 simp only[qdn,e]
theorem qhS {b o:Nat} {v:Value} (e:(qdn G h w).fix b o=some v):G.fix b o=some v∨(Own G h b∧w.cell? ⟨b,o,none⟩=some v∧v.oneCell'=true):=by
 simp only[qdn] at e
 split at e
 ·rename_i x hx
  exact .inl (by rw[hx,e])
 ·split at e
  ·rename_i ho
   split at e
   ·rename_i x hx
    split at e
    ·rename_i h1
     injection e with e
     subst e
     exact .inr ⟨ho,hx,h1⟩
    ·cases e
   ·cases e
  ·cases e
theorem qpZ {b:Nat} (hn:∀ q,G.fix b q=none) (ho:Own G h b) {o:Nat} {v:Value} (hc:w.cell? ⟨b,o,none⟩=some v) (h1:v.oneCell'=true):(qdn G h w).fix b o=some v:=by
 simp only[qdn,hn o,ho,if_true,hc,h1]
theorem qkj:G.le (qdn G h w):=⟨fun b o v e=>qp0 e,fun _ _ e=>e,fun _ _ _ e=>e⟩
theorem qhg {v:AVal} (hl:∀ cs,v≠.agg cs) (n:Nat):acells (qaV h n v)=[qaV h n v]:=by
 have hv:acells (wipe v)=[wipe v]:=by cases v<;>first | rfl | exact absurd rfl (hl _)
 cases n with
 | zero =>
   rw[qaV]
   split
   ·exact hv
   ·rfl
 | succ n =>
   rw[qaV]
   split
   ·exact hv
   ·unfold qcx
    cases v with
    | agg cs=>exact absurd rfl (hl _)
    | ptr a=>(try dsimp only);cases a<;>(try dsimp only)<;>repeat' (first | rfl | split)
    | vec a b=>dsimp only;split<;>repeat' (first | rfl | split)
    | list xs o=>dsimp only;split<;>repeat' (first | rfl | split)
    | _=>rfl
theorem qkp {v:AVal} (hl:leaf v=true) (n:Nat):acells (qaV h n v)=[qaV h n v] :=
 qhg (fun cs hx=>by rw[hx] at hl;simp[leaf] at hl) n
theorem qwp {cs:List AVal} (hl:cs.all leaf=true) (n:Nat):(cs.map (qaV h n)).flatMap acells=cs.map (qaV h n):=by
 induction cs with
 | nil=>rfl
 | cons c cs ih =>
   rw[List.all_cons,Bool.and_eq_true] at hl
   rw[List.map_cons,List.flatMap_cons,qkp hl.1,ih hl.2]
   rfl
theorem qwo (n:Nat) (ih:∀ m,m≤n→∀ {a:AVal} {v:Value},Rep E G a v→Rep E (qdn G h w) (qaV h m a) v) (x:AVal) {vs:List Value}
  (hr:∀ (i:Nat) (c:AVal) (v:Value),(acells x)[i]? = some c→vs[i]? = some v→Rep E G c v) (i:Nat) (c:AVal) (v:Value) (e:(acells (qaV h n x))[i]? = some c) (e':vs[i]? = some v):Rep E (qdn G h w) c v:=by
 by_cases hd:qaH x=true
 ·have hv:qaV h n x=wipe x:=by cases n<;>rw[qaV,if_pos hd]
  rw[hv] at e
  by_cases hagg:∃ cs,x=.agg cs
  ·obtain⟨cs,rfl⟩:=hagg
   have e2:(cs.map wipeCell)[i]? = some c:=e
   rw[List.getElem?_map] at e2
   obtain⟨c0,h0,rfl⟩:=Option.map_eq_some_iff.1 e2
   exact ((hr i c0 v h0 e').wipeCell).mono qkj
  ·have hx1:acells x=[x]:=by cases x<;>first | rfl | exact absurd ⟨_,rfl⟩ hagg
   have hx2:acells (wipe x)=[wipe x]:=by cases x<;>first | rfl | exact absurd ⟨_,rfl⟩ hagg
   rw[hx1] at hr
   rw[hx2] at e
   cases i with
   | zero =>
     simp at e
     rw[← e]
     exact ((hr 0 x v rfl e').wipe).mono qkj
   | succ i=>simp at e
 ·by_cases hagg:∃ cs,x=.agg cs
  ·obtain⟨cs,rfl⟩:=hagg
   cases n with
   | zero =>
     rw[qaV,if_neg hd] at e
     have:c=.junk:=by
      cases i with
      | zero=>simp[acells] at e;exact e.symm
      | succ i=>simp[acells] at e
     rw[this]
     exact .junk v
   | succ n =>
     rw[qaV,if_neg hd] at e
     have e2:(cs.map (qaV h n))[i]? = some c:=e
     rw[List.getElem?_map] at e2
     obtain⟨c0,h0,rfl⟩:=Option.map_eq_some_iff.1 e2
     exact ih n (by omega) (hr i c0 v h0 e')
  ·have hna:∀ cs,x≠.agg cs:=fun cs hx=>hagg ⟨cs,hx⟩
   have hx1:acells x=[x]:=by cases x<;>first | rfl | exact absurd rfl (hna _)
   rw[qhg hna] at e
   rw[hx1] at hr
   cases i with
   | zero =>
     simp at e
     rw[← e]
     exact ih n (Nat.le_refl _) (hr 0 x v rfl e')
   | succ i=>simp at e
theorem qne (n:Nat) (ih:∀ m,m≤n→∀ {a:AVal} {v:Value},Rep E G a v→Rep E (qdn G h w) (qaV h m a) v):∀ (xs:List AVal),(∀ x∈xs,(acells (qaV h n x)).length=(acells x).length)→∀ {vs:List Value},
  (∀ (i:Nat) (c:AVal) (v:Value),(xs.flatMap acells)[i]? = some c→vs[i]? = some v→Rep E G c v)→((xs.map (qaV h n)).flatMap acells).length=(xs.flatMap acells).length ∧
   ∀ (i:Nat) (c:AVal) (v:Value),((xs.map (qaV h n)).flatMap acells)[i]? = some c→vs[i]? = some v→Rep E (qdn G h w) c v
 | [],_,vs,hr=>⟨rfl,fun i c v e=>by simp at e⟩
 | x :: xs,hlen,vs,hr => by
   have hx:=hlen x (by simp)
   obtain⟨h1,h2⟩:=qne n ih xs (fun y hy=>hlen y (by simp[hy])) (vs:=vs.drop (acells x).length) (fun i c v e e'=>by
    rw[List.getElem?_drop] at e'
    refine hr _ c v ?_ e'
    rw[List.flatMap_cons,List.getElem?_append_right (by omega),Nat.add_sub_cancel_left]
    exact e)
   refine⟨by simp only[List.map_cons,List.flatMap_cons,List.length_append,hx,h1],fun i c v e e'=>?_⟩
   rw[List.map_cons,List.flatMap_cons] at e
   by_cases hi:i<(acells (qaV h n x)).length
   ·rw[List.getElem?_append_left hi] at e
    refine qwo n ih x (vs:=vs) (fun i c v e e'=>hr i c v ?_ e') i c v e e'
    rw[List.flatMap_cons,List.getElem?_append_left (List.getElem?_eq_some_iff.1 e).1]
    exact e
   ·rw[List.getElem?_append_right (by omega)] at e
    refine h2 _ c v e ?_
    rw[List.getElem?_drop,← e']
    congr 1
    omega
theorem Rep.view (hi:Inv E G h w):∀ (n:Nat) {a:AVal} {v:Value},Rep E G a v→Rep E (qdn G h w) (qaV h n a) v:=by
 have hle:G.le (qdn G h w):=qkj
 intro n
 induction n using Nat.strongRecOn with
 | ind n0 ih0 =>
 intro a v hr
 cases n0 with
 | zero =>
   rw[qaV]
   split
   ·exact hr.wipe.mono hle
   ·exact .junk _
 | succ n =>
   have ihs:∀ m,m≤n→∀ {a:AVal} {v:Value},Rep E G a v→Rep E (qdn G h w) (qaV h m a) v:=fun m hm {a v} hr=>ih0 m (by omega) hr
   have ih:∀ {a:AVal} {v:Value},Rep E G a v→Rep E (qdn G h w) (qaV h n a) v:=fun {a v} hr=>ih0 n (by omega) hr
   rw[qaV]
   split
   ·exact hr.wipe.mono hle
   ·have hmap:∀ {cs:List AVal} {vs:List Value},(∀ (i:Nat) (c:AVal) (v:Value),cs[i]? = some c→vs[i]? = some v→Rep E G c v)→∀ (i:Nat) (c:AVal) (v:Value),(cs.map (qaV h n))[i]? = some c→vs[i]? = some v→Rep E (qdn G h w) c v:=by
     intro cs vs hrr i c v e e'
     rw[List.getElem?_map] at e
     obtain⟨c0,h0,rfl⟩:=Option.map_eq_some_iff.1 e
     exact ih (hrr i c0 v h0 e')
    have hmapA:∀ {cs:List AVal} {vs:Array Value},(∀ (i:Nat) (c:AVal) (v:Value),cs[i]? = some c→vs[i]? = some v→Rep E G c v)→∀ (i:Nat) (c:AVal) (v:Value),(cs.map (qaV h n))[i]? = some c→vs[i]? = some v→Rep E (qdn G h w) c v:=by
     intro cs vs hrr i c v e e'
     rw[List.getElem?_map] at e
     obtain⟨c0,h0,rfl⟩:=Option.map_eq_some_iff.1 e
     exact ih (hrr i c0 v h0 e')
    unfold qcx
    split
    ·-- a pointer
     rename_i kk off _
     split
     ·rename_i cs hcs
      split
      ·rename_i hlf
       cases hr with
       | ptr hb =>
         rename_i b
         obtain⟨b',vs,t,h1,h2,h3,h4⟩:=hi.obj _ _ hcs
         have hbb:b'=b:=by rw[hb] at h1;injection h1 with h1;exact h1.symm
         subst hbb
         have hown:Own G h b':=⟨_,_,hcs,h1⟩
         refine .vptr_at (o:=0) vs.toList (by simpa using h3.len) (fun i v e=>?_) (hmap h3.rep) (Nat.zero_add _).symm
         rw[Nat.zero_add]
         have hil:i<cs.length:=by have:=(List.getElem?_eq_some_iff.1 e).1;have:=h3.len;omega
         refine qpZ h4 hown ?_ ((h3.rep i _ v (List.getElem?_eq_getElem hil) e).oneCell ((List.all_eq_true.1 hlf) _ (List.getElem_mem hil)))
         unfold World.cell?
         rw[h2]
         dsimp only
         rw[if_neg (by simp)]
         simpa using e
      ·exact .junk _
     ·exact .junk _
    ·-- a slice that grows
     rename_i kk m _
     split
     ·rename_i cs sz hcs
      split
      ·rename_i hlf
       cases hr with
       | @vec _ _ cap szr b hb ht hn =>
         obtain⟨b',cap',vs,t,h1,h2,h3,h4,h5,h6,h7⟩:=hi.obj _ _ hcs
         have hbb:b'=b:=by rw[hb] at h1;injection h1 with h1;exact h1.symm
         subst hbb
         have hown:Own G h b':=⟨_,_,hcs,h1⟩
         have hfx:∀ (i:Nat) (v:Value),(vs.toList.take cs.length)[i]? = some v→(qdn G h w).fix b' i=some v:=by
          intro i v e
          have hil:i<cs.length:=by
           have:=(List.getElem?_eq_some_iff.1 e).1
           rw[List.length_take] at this
           omega
          refine qpZ h6 hown ?_ ((h5.rep i _ v (List.getElem?_eq_getElem hil) e).oneCell ((List.all_eq_true.1 hlf) _ (List.getElem_mem hil)))
          unfold World.cell?
          rw[h2]
          dsimp only
          rw[if_neg (by simp)]
          rw[List.getElem?_take_of_lt hil] at e
          simpa using e
         have hat:∀ xs:List AVal,xs≠[]→∃ b1 o,some (⟨b',0,none⟩:Addr)=some ⟨b1,o,none⟩∧∀ (i:Nat) (v:Value),(vs.toList.take cs.length)[i]? = some v→(qdn G h w).fix b1 (o+i)=some v:=fun xs _=>⟨b',0,rfl,fun i v e=>by rw[Nat.zero_add];exact hfx i v e⟩
         have hfl:=qwp (h:=h) hlf n
         split
         ·rename_i hc
          obtain⟨_,rfl⟩:=hc
          refine .list 1 (vs.toList.take cs.length) (by simp) hn (fun x hx=>?_) (hat _) (by rw[hfl];simpa using h5.len) (fun i c v e e'=>by rw[hfl] at e;exact hmap h5.rep i c v e e') trivial
          obtain⟨c,hc,rfl⟩:=List.mem_map.1 hx
          rw[qkp ((List.all_eq_true.1 hlf) c hc)]
          rfl
         ·split
          ·rename_i hc
           obtain⟨_,hc⟩:=hc
           obtain⟨g1,g2⟩:=qhE sz m (cs.map (qaV h n)) (by simpa using hc)
           refine .list sz (vs.toList.take cs.length) (qgk sz m _).symm hn g2 (hat _) (by rw[g1];simpa using h5.len) (fun i c v e e'=>by rw[g1] at e;exact hmap h5.rep i c v e e') trivial
          ·exact .junk _
      ·exact .junk _
     ·exact .junk _
    ·-- a slice that nobody writes
     rename_i xs own _
     split
     ·rename_i hd
      cases hr with
      | list sz vs hn hcap hsz ha hl hrr ho =>
        refine .list sz vs hn hcap hsz (fun hx=>?_) hl (fun i c v e e'=>(hrr i c v e e').mono hle) trivial
        obtain⟨b,o,e,hf⟩:=ha hx
        exact⟨b,o,e,fun i v hv=>hle.fix _ _ _ (hf i v hv)⟩
     ·split
      ·rename_i hlen
       cases hr with
       | list sz vs hn hcap hsz ha hl hrr ho =>
         have hlf:∀ x∈xs,(acells (qaV h n x)).length=(acells x).length:=by
          intro x hx
          obtain⟨i,hi2,rfl⟩:=List.getElem_of_mem hx
          have:=congrArg (fun l=>l[i]?) hlen
          simpa[hi2] using this
         have hcell:=qne (E:=E) (G:=G) (w:=w) n ihs xs hlf hrr
         refine .list sz vs (by simpa using hn) hcap (fun y hy=>?_) (fun hx=>?_) (by rw[hcell.1];exact hl) hcell.2 trivial
         ·obtain⟨x,hx,rfl⟩:=List.mem_map.1 hy
          rw[hlf x hx]
          exact hsz x hx
         ·obtain⟨b,o,e,hf⟩:=ha (fun hx0=>hx (by rw[hx0];rfl))
          exact⟨b,o,e,fun i v hv=>hle.fix _ _ _ (hf i v hv)⟩
      ·exact .junk _
    ·cases hr with
     | agg hl hrr=>exact .agg (by simpa using hl) (hmapA hrr)
    ·cases hr with
     | tuple hl hrr=>exact .tuple (by simpa using hl) (hmapA hrr)
    ·cases hr with
     | func hk hla hlb ha hb=>exact .func hk (by simpa using hla) (by simpa using hlb) (hmapA ha) (hmapA hb)
    ·exact .junk _
theorem Rep.viewV (hi:Inv E G h w) {a:AVal} {v:Value} (hr:Rep E G a v):Rep E (qdn G h w) (viewV h a) v:=hr.view hi _
theorem qlV (hi:Inv E G h w):Post E G h w (qdn G h w) (h.map fun _=>.gone) w:=by
 have hgone:∀ {i:Nat} {o:AObj},(h.map fun _=>AObj.gone)[i]? = some o→o=.gone:=by
  intro i o e
  rw[List.getElem?_map] at e
  obtain⟨o0,_,rfl⟩:=Option.map_eq_some_iff.1 e
  rfl
 refine⟨qkj,⟨fun b o v e=>?_,fun b o v e=>?_,fun i o e=>by rw[hgone e];trivial,fun i o i' o' b e e' ho=>by rw[hgone e] at ho;exact ho.elim,fun i hl=>hi.dom i (by simpa using hl),hi.tab.keep (fun b o v e=>qp0 e) fun _ _=>rfl⟩,
  Nat.le_refl _,fun _ _ _=>rfl,fun b o e=>?_,fun b ho=>?_,rfl,rfl,rfl⟩
 ·rcases qhS e with h1 | h1
  ·exact hi.fix b o v h1
  ·exact h1.2.1
 ·rcases qhS e with h1 | h1
  ·exact hi.one b o v h1
  ·exact h1.2.2
 ·cases hx:(qdn G h w).fix b o with
  | none=>exact absurd hx e
  | some v =>
    rcases qhS hx with h1 | h1
    ·exact .inl (by rw[h1];simp)
    ·exact .inr (.inl h1.1)
 ·obtain⟨i,o,e,ho⟩:=ho
  rw[hgone e] at ho
  exact ho.elim
end Go.Abs
namespace Go.Abs
variable {E:Env} {G:Ghost} {w:World}
structure RenOk (G G':Ghost) (ρ:Nat→Option Nat):Prop where
 fix:∀ b o v,G.fix b o=some v→G'.fix b o=some v
 blk:∀ i j,ρ i=some j→G'.blk j=G.blk i
 tl:∀ i j n,ρ i=some j→G'.tl j n=G.tl i n
theorem Rep.renC {G':Ghost} {ρ:Nat→Option Nat} (hρ:RenOk G G' ρ) {a:AVal} {v:Value} (h:Rep E G a v):Rep E G' (renC ρ a) v:=by
 unfold Abs.renC
 split
 ·rename_i hd
  exact h.data hρ.fix hd
 ·split
  ·rename_i xs id _
   split
   ·rename_i hd
    cases h with
    | list sz vs hn hcap hsz ha hl hr ho =>
      have hlist:Rep E G' (.list xs none) (.slice _ _ _):=Rep.data hρ.fix (Rep.list (own:=none) sz vs hn hcap hsz ha hl hr trivial) (by simp[qaH,hd])
      split
      ·rename_i j hj
       cases hlist with
       | list sz' vs' hn' hcap' hsz' ha' hl' hr' ho' =>
         obtain⟨b,hA,ht⟩:=ho
         refine .list sz vs hn hcap hsz (fun hx=>?_) hl (fun i c v e e'=>?_) ⟨b,hA,?_⟩
         ·obtain⟨b,o,e,hff⟩:=ha hx
          exact⟨b,o,e,fun i v hv=>hρ.fix _ _ _ (hff i v hv)⟩
         ·refine (hr i c v e e').data hρ.fix ?_
          have hm:c∈xs.flatMap acells:=List.mem_of_getElem? e
          obtain⟨x,hx,hcx⟩:=List.mem_flatMap.1 hm
          obtain⟨k,hk⟩:=List.getElem?_of_mem hx
          exact qjD (qcg hd hk) hcx
         ·rw[hρ.tl _ _ _ hj]
          exact ht
      ·exact hlist
   ·exact .junk v
  ·rename_i id off _
   split
   ·rename_i j hj
    cases h with
    | ptr hb=>exact .ptr (by rw[hρ.blk _ _ hj];exact hb)
   ·exact .junk v
  ·rename_i id off len _
   split
   ·rename_i j hj
    cases h with
    | ref hb hcap=>exact .ref (by rw[hρ.blk _ _ hj];exact hb) hcap
   ·exact .junk v
  ·rename_i id n _
   split
   ·rename_i j hj
    cases h with
    | vec hb ht hn=>exact .vec (by rw[hρ.blk _ _ hj];exact hb) (by rw[hρ.tl _ _ _ hj];exact ht) hn
   ·exact .junk v
  ·rename_i id _
   split
   ·rename_i j hj
    cases h with
    | map hb=>exact .map (by rw[hρ.blk _ _ hj];exact hb)
   ·exact .junk v
  ·exact .junk v
theorem Rep.ren {G':Ghost} {ρ:Nat→Option Nat} (hρ:RenOk G G' ρ) {a:AVal} {v:Value} (h:Rep E G a v):Rep E G' (ren ρ a) v:=by
 unfold Abs.ren
 split
 ·rename_i hd
  exact h.data hρ.fix hd
 ·split
  ·rename_i cs _
   cases h with
   | agg hl hr =>
     refine .agg (by simpa using hl) fun i c v e e'=>?_
     rw[List.getElem?_map] at e
     obtain⟨c0,hc0,rfl⟩:=Option.map_eq_some_iff.1 e
     exact (hr i c0 v hc0 e').renC hρ
  ·rename_i cs _
   cases h with
   | tuple hl hr =>
     refine .tuple (by simpa using hl) fun i c v e e'=>?_
     rw[List.getElem?_map] at e
     obtain⟨c0,hc0,rfl⟩:=Option.map_eq_some_iff.1 e
     exact (hr i c0 v hc0 e').renC hρ
  ·rename_i f a b _
   cases h with
   | func hk hla hlb ha hb =>
     refine .func hk (by simpa using hla) (by simpa using hlb) (fun i c v e e'=>?_) (fun i c v e e'=>?_)
     ·rw[List.getElem?_map] at e
      obtain⟨c0,hc0,rfl⟩:=Option.map_eq_some_iff.1 e
      exact (ha i c0 v hc0 e').renC hρ
     ·rw[List.getElem?_map] at e
      obtain⟨c0,hc0,rfl⟩:=Option.map_eq_some_iff.1 e
      exact (hb i c0 v hc0 e').renC hρ
  ·exact h.renC hρ
theorem qey (n:Nat):∀ (l acc:List Nat),acc.Nodup→(∀ i∈acc,n≤i)→(qdR n l acc).Nodup∧∀ i∈qdR n l acc,n≤i
 | [],acc,h1,h2=>⟨h1,h2⟩
 | i :: l,acc,h1,h2 => by
   rw[qdR]
   split
   ·rename_i hi
    refine qey n l _ ?_ ?_
    ·rw[List.nodup_append]
     exact⟨h1,by simp,fun a ha b hb=>by rw[List.mem_singleton.1 hb];exact fun hx=>hi.2 (hx ▸ ha)⟩
    ·intro j hj
     rcases List.mem_append.1 hj with h | h
     ·exact h2 j h
     ·rw[List.mem_singleton.1 h];exact hi.1
   ·exact qey n l acc h1 h2
theorem qxQ (k:Nat) (r:ARes) (h2:Heap):(qpi k r h2).Nodup∧∀ i∈qpi k r h2,k≤i:=by
 unfold qpi
 exact qey k _ [] .nil (fun i hi=>by cases hi)
theorem qfg {i:Nat}:∀ {l:List Nat} {k j:Nat},qaC i l k=some j→k≤j∧l[j-k]? = some i
 | [],k,j,h=>by cases h
 | x :: xs,k,j,h => by
   rw[qaC] at h
   split at h
   ·rename_i hx
    injection h with h
    subst h
    exact⟨Nat.le_refl _,by simp[hx]⟩
   ·obtain⟨h1,h2⟩:=qfg h
    refine⟨by omega,?_⟩
    have:j-k=(j-(k+1))+1:=by omega
    rw[this,List.getElem?_cons_succ]
    exact h2
theorem quY (ρ:Nat→Option Nat) {a b:AVal} {r:Bool} (h:qc2 a b=some r):qc2 (ren ρ a) (ren ρ b)=some r:=by
 unfold qc2 at h
 split at h
 ·simpa[ren,qaH,qc2] using h
 ·simpa[ren,qaH,qc2] using h
 ·simpa[ren,qaH,qc2] using h
 ·cases h
theorem qlB {G':Ghost} {ρ:Nat→Option Nat} (hρ:RenOk G G' ρ) (hfix:∀ b o,G'.fix b o=G.fix b o) {i j:Nat} (hb:G'.blk j=G.blk i) (ht:∀ m,G'.tl j m=G.tl i m) {o:AObj} (h:ObjOk E G w i o):ObjOk E G' w j (qfp ρ o):=by
 cases o with
 | gone=>trivial
 | box cs =>
   obtain⟨b,vs,t,h1,h2,h3,h4⟩:=h
   refine⟨b,vs,t,by rw[hb];exact h1,h2,⟨by simpa using h3.len,fun k c v e e'=>?_⟩,fun o=>by rw[hfix];exact h4 o⟩
   rw[List.getElem?_map] at e
   obtain⟨c0,hc0,rfl⟩:=Option.map_eq_some_iff.1 e
   exact (h3.rep k c0 v hc0 e').ren hρ
 | map es =>
   obtain⟨b,vs,clk,es',h1,h2,hp,hkd,h3,hst,h4⟩:=h
   refine⟨b,vs,clk,es'.map fun e=>(ren ρ e.1,ren ρ e.2),by rw[hb];exact h1,h2,hp.map _,?_,⟨by simpa using h3.len,fun k c v e e'=>?_⟩,hst,fun o=>by rw[hfix];exact h4 o⟩
   ·unfold qkk
    rw[List.pairwise_map]
    exact List.Pairwise.imp (fun {a b} hab=>quY ρ hab) hkd
   rw[List.getElem?_map] at e
   obtain⟨c0,hc0,rfl⟩:=Option.map_eq_some_iff.1 e
   exact⟨(h3.rep k c0 v hc0 e').1.ren hρ,(h3.rep k c0 v hc0 e').2.ren hρ⟩
 | tail n sz =>
   obtain⟨b,cap,vs,t,h1,h2,h3,h4,h5,h6⟩:=h
   exact⟨b,cap,vs,t,by rw[ht];exact h1,h2,h3,h4,fun o ho=>by rw[hfix];exact h5 o ho,fun m hm=>by rw[ht];exact h6 m hm⟩
 | vec cs sz =>
   obtain⟨b,cap,vs,t,h1,h2,h3,h4,h5,h6,h7⟩:=h
   refine⟨b,cap,vs,t,by rw[hb];exact h1,h2,h3,by simpa using h4,?_,fun o=>by rw[hfix];exact h6 o,fun m x e=>by rw[ht] at e;exact h7 m x e⟩
   rw[List.length_map]
   exact⟨by simpa using h5.len,fun k c v e e'=>by
    rw[List.getElem?_map] at e
    obtain⟨c0,hc0,rfl⟩:=Option.map_eq_some_iff.1 e
    exact (h5.rep k c0 v hc0 e').ren hρ⟩
theorem qed {G':Ghost} {ρ:Nat→Option Nat} {i j b:Nat} (hb:G'.blk j=G.blk i) (ht:∀ m,G'.tl j m=G.tl i m) {o:AObj}:qcz G' j (qfp ρ o) b↔qcz G i o b:=by
 cases o with
 | gone=>exact Iff.rfl
 | box cs=>simp only[qfp,qcz,hb]
 | map es=>simp only[qfp,qcz,hb]
 | tail n sz=>simp only[qfp,qcz,ht]
 | vec cs sz=>simp only[qfp,qcz,hb]
theorem qm0 {i:Nat}:∀ {l:List Nat} {k:Nat},qaC i l k=none→i∉l
 | [],k,h=>by simp
 | x :: xs,k,h => by
   rw[qaC] at h
   split at h
   ·cases h
   ·rename_i hx
    have:=qm0 h
    simp only[List.mem_cons,not_or]
    exact⟨fun e=>hx e.symm,this⟩
theorem qdS {l:List Nat} (hnd:l.Nodup) {i j:Nat} (e:l[j]? = some i):qaC i l 0=some j:=by
 cases hp:qaC i l 0 with
 | none=>exact absurd (List.mem_of_getElem? e) (qm0 hp)
 | some q =>
   have h2:=(qfg hp).2
   rw[Nat.sub_zero] at h2
   obtain⟨hq,eq⟩:=List.getElem?_eq_some_iff.1 h2
   obtain⟨hj,ej⟩:=List.getElem?_eq_some_iff.1 e
   have:=(List.getElem_inj hnd).1 (eq.trans ej.symm)
   rw[this]
theorem qcl {l:List Nat} {i j:Nat} (h:qaC i l 0=some j):l[j]? = some i:=by simpa using (qfg h).2
def qlZ (l:List Nat) (G:Ghost):Ghost where
 fix:=G.fix
 blk j:=match l[j]? with | some i=>G.blk i | none=>none
 tl j:=match l[j]? with | some i=>G.tl i | none=>fun _=>none
theorem qwc (l:List Nat) (G:Ghost):RenOk G (qlZ l G) (fun i=>qaC i l 0) where
 fix b o v h:=h
 blk i j h:=by simp only[qlZ,qcl h]
 tl i j n h:=by simp only[qlZ,qcl h]
def qhY (l nl:List Nat) (n:Nat) (G G2:Ghost):Ghost where
 fix:=G2.fix
 blk i:=if i<n then (match qaC i l 0 with | some j=>G2.blk j | none=>G.blk i) else match nl[i-n]? with | some j=>G2.blk j | none=>none
 tl i:=if i<n then (match qaC i l 0 with | some j=>G2.tl j | none=>G.tl i) else match nl[i-n]? with | some j=>G2.tl j | none=>fun _=>none
theorem qjq {l nl:List Nat} {n i j:Nat} (hall:∀ i∈l,i<n) (hnd:l.Nodup) (h:qc1 l nl n j=some i):(i<n∧qaC i l 0=some j)∨(n≤i∧nl[i-n]? = some j):=by
 unfold qc1 at h
 split at h
 ·exact .inl ⟨hall i (List.mem_of_getElem? h),qdS hnd h⟩
 ·obtain⟨p,hp,rfl⟩:=Option.map_eq_some_iff.1 h
  refine .inr ⟨by omega,?_⟩
  rw[Nat.add_sub_cancel_left]
  exact qcl hp
theorem qdL {l nl:List Nat} {n:Nat} {G G2:Ghost} {i j:Nat} (hi:i<n) (hj:qaC i l 0=some j):(qhY l nl n G G2).blk i=G2.blk j∧∀ m,(qhY l nl n G G2).tl i m=G2.tl j m:=by
 simp only[qhY,if_pos hi,hj]
 exact⟨trivial,fun _=>trivial⟩
theorem qeZ {l nl:List Nat} {n:Nat} {G G2:Ghost} {i j:Nat} (hi:n≤i) (hj:nl[i-n]? = some j):(qhY l nl n G G2).blk i=G2.blk j∧∀ m,(qhY l nl n G G2).tl i m=G2.tl j m:=by
 simp only[qhY,if_neg (Nat.not_lt.2 hi),hj]
 exact⟨trivial,fun _=>trivial⟩
theorem qhZ {l nl:List Nat} {n:Nat} {G G2:Ghost} {i:Nat} (hi:i<n) (hj:qaC i l 0=none):(qhY l nl n G G2).blk i=G.blk i∧∀ m,(qhY l nl n G G2).tl i m=G.tl i m:=by
 simp only[qhY,if_pos hi,hj]
 exact⟨trivial,fun _=>trivial⟩
theorem qno {l nl:List Nat} {n:Nat} (hall:∀ i∈l,i<n) (hnd:l.Nodup) (G G2:Ghost):RenOk G2 (qhY l nl n G G2) (qc1 l nl n) where
 fix b o v h:=h
 blk j i h:=by
  rcases qjq hall hnd h with ⟨h1,h2⟩ | ⟨h1,h2⟩
  ·exact (qdL h1 h2).1
  ·exact (qeZ h1 h2).1
 tl j i m h:=by
  rcases qjq hall hnd h with ⟨h1,h2⟩ | ⟨h1,h2⟩
  ·exact (qdL h1 h2).2 m
  ·exact (qeZ h1 h2).2 m
theorem qwO {l nl:List Nat} {n:Nat} {G G2:Ghost} (hdom:∀ i,n≤i→G.blk i=none∧∀ m,G.tl i m=none) (hle:(qlZ l G).le G2):G.le (qhY l nl n G G2) where
 fix b o v h:=hle.fix b o v h
 blk i b h:=by
  have hi:i<n:=by
   rcases Nat.lt_or_ge i n with hx | hx
   ·exact hx
   ·rw[(hdom i hx).1] at h
    cases h
  cases hj:qaC i l 0 with
  | some j =>
    rw[(qdL hi hj).1]
    exact hle.blk j b (by simp only[qlZ,qcl hj];exact h)
  | none=>rw[(qhZ hi hj).1];exact h
 tl i m x h:=by
  have hi:i<n:=by
   rcases Nat.lt_or_ge i n with hx | hx
   ·exact hx
   ·rw[(hdom i hx).2 m] at h
    cases h
  cases hj:qaC i l 0 with
  | some j =>
    rw[(qdL hi hj).2 m]
    exact hle.tl j m x (by simp only[qlZ,qcl hj];exact h)
  | none=>rw[(qhZ hi hj).2 m];exact h
theorem qn3 (args:List AVal) (h:Heap):(qbP args h).Nodup:=by
 have g:∀ (l:List Nat),l.Nodup→(grow h l).Nodup:=fun l hl=>(qey 0 _ l hl (fun _ _=>Nat.zero_le _)).1
 exact g _ (g _ (g _ (qey 0 _ [] List.nodup_nil (fun _ _=>Nat.zero_le _)).1))
theorem qfY {l:List Nat} {h:Heap} {j:Nat} {o:AObj} (e:(qc5 l h)[j]? = some o):∃ i,l[j]? = some i∧(o=.gone∨∃ o0,h[i]? = some o0∧o=qfp (fun i=>qaC i l 0) o0):=by
 unfold qc5 at e
 rw[List.getElem?_map] at e
 obtain⟨i,hi,rfl⟩:=Option.map_eq_some_iff.1 e
 refine⟨i,hi,?_⟩
 cases hx:h[i]? with
 | none=>exact .inl rfl
 | some o0=>exact .inr ⟨o0,rfl,rfl⟩
theorem Inv.sub {h:Heap} (hi:Inv E G h w) {l:List Nat} (hnd:l.Nodup):Inv E (qlZ l G) (qc5 l h) w where
 fix:=hi.fix
 one:=hi.one
 tab:=hi.tab
 obj j o e:=by
  obtain⟨i,h1,rfl | ⟨o0,h2,rfl⟩⟩:=qfY e
  ·trivial
  ·exact qlB (qwc l G) (fun _ _=>rfl) (by simp only[qlZ,h1]) (fun m=>by simp only[qlZ,h1]) (hi.obj i o0 h2)
 sep j o j' o' b e e' ho ho':=by
  obtain⟨i,h1,rfl | ⟨o0,h2,rfl⟩⟩:=qfY e
  ·exact ho.elim
  ·obtain⟨i',h1',rfl | ⟨o0',h2',rfl⟩⟩:=qfY e'
   ·exact ho'.elim
   ·have a1:=(qed (G:=G) (i:=i) (by simp only[qlZ,h1]) (fun m=>by simp only[qlZ,h1])).1 ho
    have a2:=(qed (G:=G) (i:=i') (by simp only[qlZ,h1']) (fun m=>by simp only[qlZ,h1'])).1 ho'
    have:=hi.sep i o0 i' o0' b h2 h2' a1 a2
    subst this
    have p1:=qdS hnd h1
    rw[qdS hnd h1'] at p1
    injection p1 with p1
    exact p1.symm
 dom j hj:=by
  have:l[j]? = none:=List.getElem?_eq_none (by simpa[qc5] using hj)
  simp only[qlZ,this]
  exact⟨trivial,fun _=>trivial⟩
theorem qvs {h:Heap} {l:List Nat} {b:Nat} (ho:Own (qlZ l G) (qc5 l h) b):∃ (i j:Nat) (o0:AObj),l[j]? = some i∧h[i]? = some o0∧qcz G i o0 b:=by
 obtain⟨j,o,e,ho⟩:=ho
 obtain⟨i,h1,rfl | ⟨o0,h2,rfl⟩⟩:=qfY e
 ·exact ho.elim
 ·exact⟨i,j,o0,h1,h2,(qed (G:=G) (i:=i) (by simp only[qlZ,h1]) (fun m=>by simp only[qlZ,h1])).1 ho⟩
theorem qlu {l nl:List Nat} {h h2:Heap} {i:Nat} {o:AObj} (e:(qfQ l nl h h2)[i]? = some o) :
  (i<h.length∧∃ j,qaC i l 0=some j∧(o=.gone∨∃ o0,h2[j]? = some o0∧o=qfp (qc1 l nl h.length) o0))∨(i<h.length∧qaC i l 0=none∧h[i]? = some o) ∨
   (h.length≤i∧∃ j,nl[i-h.length]? = some j∧(o=.gone∨∃ o0,h2[j]? = some o0∧o=qfp (qc1 l nl h.length) o0)):=by
 unfold qfQ at e
 by_cases hlt:i<h.length
 ·rw[List.getElem?_append_left (by simpa using hlt),List.getElem?_map] at e
  obtain⟨i',hi',rfl⟩:=Option.map_eq_some_iff.1 e
  have:i'=i:=by
   rw[List.getElem?_range hlt] at hi'
   injection hi' with hi'
   exact hi'.symm
  subst this
  cases hp:qaC i' l 0 with
  | some j =>
    refine .inl ⟨hlt,j,rfl,?_⟩
    dsimp only
    cases hx:h2[j]? with
    | none=>exact .inl rfl
    | some o0=>exact .inr ⟨o0,rfl,rfl⟩
  | none =>
    refine .inr (.inl ⟨hlt,rfl,?_⟩)
    dsimp only
    rw[List.getElem?_eq_getElem hlt]
    rfl
 ·rw[List.getElem?_append_right (by simp;omega),List.length_map,List.length_range,List.getElem?_map] at e
  obtain⟨j,hj,rfl⟩:=Option.map_eq_some_iff.1 e
  refine .inr (.inr ⟨by omega,j,hj,?_⟩)
  cases hx:h2[j]? with
  | none=>exact .inl rfl
  | some o0=>exact .inr ⟨o0,rfl,rfl⟩
theorem qvv {h:Heap} (hi:Inv E G h w) {l nl:List Nat} (hnd:l.Nodup) (hall:∀ i∈l,i<h.length) (hnd2:nl.Nodup) (hall2:∀ j∈nl,l.length≤j) {G2:Ghost} {h2:Heap} {w':World} (hp:Post E (qlZ l G) (qc5 l h) w G2 h2 w') :
  Post E G h w (qhY l nl h.length G G2) (qfQ l nl h h2) w':=by
 have hle:=qwO (nl:=nl) hi.dom hp.le
 have hsub:∀ b,Own (qlZ l G) (qc5 l h) b→Own G h b:=fun b ho=>by
  obtain⟨i,j,o0,_,h2,h3⟩:=qvs ho
  exact⟨i,o0,h2,h3⟩
 have hoth:∀ {i:Nat} {o:AObj} {b:Nat},qaC i l 0=none→h[i]? = some o→qcz G i o b→b<w.heap.size∧¬ Own (qlZ l G) (qc5 l h) b:=by
  intro i o b hn e ho
  refine⟨hi.own_lt ⟨i,o,e,ho⟩,fun hx=>?_⟩
  obtain⟨i',j,o0,h1,h3,h4⟩:=qvs hx
  have:=hi.sep i o i' o0 b e h3 ho h4
  subst this
  rw[qdS hnd h1] at hn
  cases hn
 have hfx:∀ b,b<w.heap.size→¬ Own (qlZ l G) (qc5 l h) b→∀ q,G2.fix b q=G.fix b q:=by
  intro b hb hno q
  cases hx:G.fix b q with
  | some v=>exact hp.le.fix b q v hx
  | none =>
    cases hy:G2.fix b q with
    | none=>rfl
    | some v =>
      rcases hp.fixed b q (by rw[hy];simp) with h1 | h1 | h1
      ·exact absurd hx h1
      ·exact absurd h1 hno
      ·omega
 have hrk:=qno (nl:=nl) hall hnd G G2
 have howns:∀ {i:Nat} {o:AObj} {b:Nat},(qfQ l nl h h2)[i]? = some o→qcz (qhY l nl h.length G G2) i o b →
   (∃ j o0,((i<h.length∧qaC i l 0=some j)∨(h.length≤i∧nl[i-h.length]? = some j))∧h2[j]? = some o0∧qcz G2 j o0 b)∨(qaC i l 0=none∧h[i]? = some o∧qcz G i o b):=by
  intro i o b e ho
  obtain⟨hlt,j,hj,rfl | ⟨o0,h3,rfl⟩⟩ | ⟨hlt,hn,h3⟩ | ⟨hge,j,hj,rfl | ⟨o0,h3,rfl⟩⟩:=qlu e
  ·exact ho.elim
  ·exact .inl ⟨j,o0,.inl ⟨hlt,hj⟩,h3,(qed (G:=G2) (i:=j) (qdL hlt hj).1 (qdL hlt hj).2).1 ho⟩
  ·refine .inr ⟨hn,h3,?_⟩
   have h4:=qhZ (l:=l) (nl:=nl) (n:=h.length) (G:=G) (G2:=G2) hlt hn
   cases o with
   | gone=>exact ho.elim
   | box cs=>simpa only[qcz,h4.1] using ho
   | map es=>simpa only[qcz,h4.1] using ho
   | tail n sz=>simpa only[qcz,h4.2] using ho
   | vec cs sz=>simpa only[qcz,h4.1] using ho
  ·exact ho.elim
  ·exact .inl ⟨j,o0,.inr ⟨hge,hj⟩,h3,(qed (G:=G2) (i:=j) (qeZ hge hj).1 (qeZ hge hj).2).1 ho⟩
 have hsame:∀ {i i' j:Nat},((i<h.length∧qaC i l 0=some j)∨(h.length≤i∧nl[i-h.length]? = some j))→((i'<h.length∧qaC i' l 0=some j)∨(h.length≤i'∧nl[i'-h.length]? = some j))→i=i':=by
  intro i i' j h3 h4
  rcases h3 with ⟨a1,a2⟩ | ⟨a1,a2⟩<;>rcases h4 with ⟨b1,b2⟩ | ⟨b1,b2⟩
  ·have p1:=qcl a2
   rw[qcl b2] at p1
   injection p1 with p1
   exact p1.symm
  ·have p1:=(List.getElem?_eq_some_iff.1 (qcl a2)).1
   have p2:=hall2 j (List.mem_of_getElem? b2)
   omega
  ·have p1:=(List.getElem?_eq_some_iff.1 (qcl b2)).1
   have p2:=hall2 j (List.mem_of_getElem? a2)
   omega
  ·have p1:=qdS hnd2 a2
   rw[qdS hnd2 b2] at p1
   injection p1 with p1
   omega
 refine⟨hle,⟨hp.inv.fix,hp.inv.one,fun i o e=>?_,fun i o i' o' b e e' ho ho'=>?_,fun i hi'=>?_,hp.inv.tab⟩,hp.size,fun b hb hno=>hp.block b hb (fun hx=>hno (hsub b hx)),fun b q e=>?_,fun b ho=>?_,hp.os,hp.tape,hp.output⟩
 ·obtain⟨hlt,j,hj,rfl | ⟨o0,h3,rfl⟩⟩ | ⟨hlt,hn,h3⟩ | ⟨hge,j,hj,rfl | ⟨o0,h3,rfl⟩⟩:=qlu e
  ·trivial
  ·exact qlB hrk (fun _ _=>rfl) (qdL hlt hj).1 (qdL hlt hj).2 (hp.inv.obj j o0 h3)
  ·exact (hi.obj i o h3).keep hle (fun b hb=>hp.block b (hoth hn h3 hb).1 (hoth hn h3 hb).2) (fun b hb q=>hfx b (hoth hn h3 hb).1 (hoth hn h3 hb).2 q) (fun m=>(qhZ hlt hn).2 m)
  ·trivial
  ·exact qlB hrk (fun _ _=>rfl) (qeZ hge hj).1 (qeZ hge hj).2 (hp.inv.obj j o0 h3)
 ·rcases howns e ho with ⟨j,o0,a1,a2,a3⟩ | ⟨a1,a2,a3⟩
  ·rcases howns e' ho' with ⟨j',o0',b1,b2,b3⟩ | ⟨b1,b2,b3⟩
   ·have:=hp.inv.sep j o0 j' o0' b a2 b2 a3 b3
    subst this
    exact hsame a1 b1
   ·obtain⟨c1,c2⟩:=hoth b1 b2 b3
    rcases hp.owned b ⟨j,o0,a2,a3⟩ with h5 | h5
    ·exact absurd h5 c2
    ·omega
  ·obtain⟨c1,c2⟩:=hoth a1 a2 a3
   rcases howns e' ho' with ⟨j',o0',b1,b2,b3⟩ | ⟨b1,b2,b3⟩
   ·rcases hp.owned b ⟨j',o0',b2,b3⟩ with h5 | h5
    ·exact absurd h5 c2
    ·omega
   ·exact hi.sep i o i' o' b a2 b2 a3 b3
 ·have hlen:h.length+nl.length≤i:=by simpa[qfQ] using hi'
  have hx:nl[i-h.length]? = none:=List.getElem?_eq_none (by omega)
  simp only[qhY,if_neg (show ¬ i<h.length by omega),hx]
  exact⟨trivial,fun _=>trivial⟩
 ·rcases hp.fixed b q e with h5 | h5 | h5
  ·exact .inl h5
  ·exact .inr (.inl (hsub b h5))
  ·exact .inr (.inr h5)
 ·obtain⟨i,o,e,ho⟩:=ho
  rcases howns e ho with ⟨j,o0,a1,a2,a3⟩ | ⟨a1,a2,a3⟩
  ·rcases hp.owned b ⟨j,o0,a2,a3⟩ with h5 | h5
   ·exact .inl (hsub b h5)
   ·exact .inr h5
  ·exact .inl ⟨i,o,a2,a3⟩
end Go.Abs
