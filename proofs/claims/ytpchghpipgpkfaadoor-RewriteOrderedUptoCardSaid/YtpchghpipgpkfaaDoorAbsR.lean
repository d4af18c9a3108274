/-
  Loops over maps and strings: what all orders agree on, the program does. Conditions: none.
-/
import Derived.Test.YtpchghpipgpkfaaDoorAbsP
import Derived.LoopN
import Derived.Maps.RangeRun
set_option linter.unusedVariables false
namespace Go.Abs
open Go.ChangeMaps (setBlock)
variable {E:Env} {G:Ghost} {h:Heap} {w:World}
def Free (G:Ghost) (h:Heap) (w:World) (b:Nat):Prop:=b<w.heap.size∧¬ Own G h b∧∀ o,G.fix b o=none
theorem Free.post {G':Ghost} {h':Heap} {w':World} {b:Nat} (hf:Free G h w b) (hp:Post E G h w G' h' w'):Free G' h' w' b∧w'.heap[b]? = w.heap[b]? := by
 obtain⟨h1,h2,h3⟩:=hf
 refine⟨⟨Nat.lt_of_lt_of_le h1 hp.size,fun ho=>?_,fun o=>?_⟩,hp.block b h1 h2⟩
 ·rcases hp.owned b ho with h4 | h4
  ·exact h2 h4
  ·omega
 ·by_cases hx:G'.fix b o=none
  ·exact hx
  ·rcases hp.fixed b o hx with h4 | h4 | h4
   ·exact absurd (h3 o) h4
   ·exact absurd h4 h2
   ·omega
theorem qch (w:World) {b k:Nat} (O:Obj) (hk:k≠b):(setBlock w b O).heap[k]? = w.heap[k]? := by
 simp[setBlock,Array.getElem?_setIfInBounds_ne (Ne.symm hk)]
theorem qfV (w:World) {b:Nat} (O:Obj) (hk:b<w.heap.size):(setBlock w b O).heap[b]? = some O:=by
 simp[setBlock,hk]
theorem qbM (w:World) (b:Nat) (O:Obj):(setBlock w b O).heap.size=w.heap.size:=by simp[setBlock]
theorem qn5 (w:World) (b:Nat) (O:Obj) (hb:w.heap[b]? = some O):setBlock w b O=w:=by
 have:w.heap.setIfInBounds b O=w.heap:=by
  refine Array.ext_getElem? fun i=>?_
  by_cases hi:i=b
  ·subst hi
   rw[hb]
   have:=(Array.getElem?_eq_some_iff.1 hb).1
   simp[this]
  ·rw[Array.getElem?_setIfInBounds_ne (Ne.symm hi)]
 unfold setBlock
 rw[this]
theorem qmf (w:World) (b:Nat) (O O':Obj):setBlock (setBlock w b O) b O'=setBlock w b O':=by
 simp[setBlock]
theorem qka (hi:Inv E G h w) {b:Nat} (hf:Free G h w b) (O:Obj):Inv E G h (setBlock w b O):=by
 obtain⟨h1,h2,h3⟩:=hf
 refine⟨fun b' o v e=>?_,hi.one,fun id o e=>?_,hi.sep,hi.dom,hi.tab.write (fun _ _ _ e=>e) (fun k hk=>qch w O hk) (fun hx=>absurd (h3 0) hx)⟩
 ·have hne:b'≠b:=fun hx=>by rw[hx,h3] at e;cases e
  have:=hi.fix b' o v e
  simp only[World.cell?] at this ⊢
  rw[qch w O hne]
  exact this
 ·exact (hi.obj id o e).keep (.refl G) (fun b' hb=>qch w O fun hx=>h2 ⟨id,o,e,hx ▸ hb⟩) (fun _ _ _=>rfl) fun _=>rfl
theorem Free.set {b r:Nat} (hf:Free G h w b) (O:Obj):Free G h (setBlock w r O) b:=⟨by rw[qbM];exact hf.1,hf.2⟩
theorem qvw {G1:Ghost} {h1:Heap} {wa:World} (hp:Post E G1 h1 wa G h w) {r:Nat} (hf:Free G h w r) (O:Obj):Post E G1 h1 (setBlock wa r O) G h (setBlock w r O) where
 le:=hp.le
 inv:=qka hp.inv hf O
 size:=by rw[qbM,qbM];exact hp.size
 block:=fun b hb hn=>by
  rw[qbM] at hb
  by_cases hx:b=r
  ·subst hx
   rw[qfV _ _ hb,qfV _ _ hf.1]
  ·rw[qch _ _ hx,qch _ _ hx]
   exact hp.block b hb hn
 fixed:=fun b o e=>by rw[qbM];exact hp.fixed b o e
 owned:=fun b e=>by rw[qbM];exact hp.owned b e
 os:=hp.os
 tape:=hp.tape
 output:=hp.output
theorem qps {β:Type} (key:β→Nat):∀ {Z:List β} {p:β},Z.Pairwise (fun a b=>key a≠key b)→p∈Z→Z.Perm (p::Z.filter fun q=>key q != key p)
 | [],p,_,hp=>by cases hp
 | z :: Z,p,hz,hp => by
   rw[List.pairwise_cons] at hz
   rcases List.mem_cons.1 hp with rfl | hp
   ·have h1:(Z.filter fun q=>key q != key p)=Z:=List.filter_eq_self.2 fun q hq=>by simpa using Ne.symm (hz.1 q hq)
    rw[List.filter_cons_of_neg (by simp),h1]
   ·have h1:=hz.1 p hp
    rw[List.filter_cons_of_pos (by simpa using h1)]
    exact ((qps key hz.2 hp).cons z).trans (.swap _ _ _)
abbrev Pairs:=List ((AVal × AVal) × MapEntry)
def qnI (seen:Array Nat) (Z:Pairs):Pairs:=Z.filter fun p => !seen.contains p.2.born
inductive Src where
 | str (s:ByteArray)
 | nilMap
 | map (mb:Nat) (vs:Array MapEntry) (clk:Nat) (Z:Pairs)
def Src.isStr:Src→Bool
 | .str _=>true
 | _=>false
def SrcOk (E:Env) (G:Ghost) (h:Heap) (w:World) (r:Nat) (src:Src):Prop :=
 Free G h w r∧match src with
 | .map mb vs clk Z=>mb≠r∧Free G h w mb∧w.heap[mb]? = some (.map vs clk)∧qnj vs.toList clk∧Z.map (·.2)=vs.toList∧∀ p∈Z,Rep E G p.1.1 p.2.key∧Rep E G p.1.2 p.2.val
 | _=>True
def qmi (src:Src) (O:Obj) (rem:List (AVal × AVal)):Prop :=
 match src with
 | .str s=>∃ p n,O=.stringIter s p∧rem=qgC s n p∧s.size≤p+n
 | .nilMap=>O=.mapIter none 0 #[] 0∧rem=[]
 | .map mb vs clk Z=>∃ seen:Array Nat,O=.mapIter (some mb) clk seen clk∧rem.Perm ((qnI seen Z).map (·.1))
theorem SrcOk.post {G':Ghost} {h':Heap} {w':World} {r:Nat} {src:Src} (hs:SrcOk E G h w r src) (hp:Post E G h w G' h' w'):SrcOk E G' h' w' r src:=by
 obtain⟨h1,h2⟩:=hs
 refine⟨(h1.post hp).1,?_⟩
 cases src with
 | str s=>trivial
 | nilMap=>trivial
 | map mb vs clk Z =>
   obtain⟨a0,a,c,d,e,f⟩:=h2
   exact⟨a0,(a.post hp).1,by rw[(a.post hp).2];exact c,d,e,fun p hpz=>⟨(f p hpz).1.mono hp.le,(f p hpz).2.mono hp.le⟩⟩
theorem SrcOk.set {r:Nat} {src:Src} (hs:SrcOk E G h w r src) (O:Obj):SrcOk E G h (setBlock w r O) r src:=by
 obtain⟨h1,h2⟩:=hs
 refine⟨h1.set O,?_⟩
 cases src with
 | str s=>trivial
 | nilMap=>trivial
 | map mb vs clk Z =>
   obtain⟨a0,a,c,d,e,f⟩:=h2
   exact⟨a0,a.set O,by rw[qch _ _ a0];exact c,d,e,f⟩
theorem SrcOk.drew {r:Nat} {src:Src} (hs:SrcOk E G h w r src):SrcOk E G h w.drew r src:=hs
theorem qoN {str:Bool} {rem rem' es:List (AVal × AVal)} {e:AVal × AVal} (h1:if str=true then rem=e::rem' else rem.Perm (e::rem')) (h2:qcC str rem' es):qcC str rem (e::es):=by
 unfold qcC at h2 ⊢
 split
 ·rename_i hs
  rw[if_pos hs] at h1 h2
  rw[h1,h2]
 ·rename_i hs
  rw[if_neg hs] at h1 h2
  exact (h2.cons e).trans h1.symm
theorem qsL (s:ByteArray) (i:Nat):1≤(Utf8.decode s i).2:=by
 unfold Utf8.decode
 simp only[]
 repeat' split
 all_goals simp
theorem qxR {r:Nat} {src:Src} {O0:Obj} {rem:List (AVal × AVal)} (hs:SrcOk E G h w r src) (hO:w.heap[r]? = some O0) (hl:qmi src O0 rem) (ty:TypeId) :
  (rem=[]∧(Instr.next (.pointer (some ⟨r,0,none⟩)) src.isStr ty).run E.P w=.ok (.tuple #[.bool false]) w) ∨
  ∃ (e:AVal × AVal) (kv vv:Value) (rem':List (AVal × AVal)) (w1:World) (O:Obj),(if src.isStr=true then rem=e::rem' else rem.Perm (e::rem'))∧(w1=w∨w1=w.drew) ∧
   (Instr.next (.pointer (some ⟨r,0,none⟩)) src.isStr ty).run E.P w=.ok (.tuple #[.bool true,kv,vv]) (setBlock w1 r O)∧Rep E G e.1 kv∧Rep E G e.2 vv∧qmi src O rem' ∧
   (src.isStr=false→∀ G' h' w',Post E G h (setBlock w1 r O) G' h' w'→(Instr.entry (.pointer (some ⟨r,0,none⟩))).run E.P w'=.ok (.tuple #[kv,vv]) w'):=by
 obtain⟨h1,h2⟩:=hs
 cases src with
 | str s =>
   obtain⟨p,n,rfl,b,c⟩:=hl
   simp only[Src.isStr,if_true]
   by_cases hp:p<s.size
   ·right
    cases n with
    | zero=>omega
    | succ n =>
      rw[qgC,if_pos hp] at b
      refine⟨_,goInt p,.int .i32 (Utf8.decode s p).1,_,w,.stringIter s (p+(Utf8.decode s p).2),b,.inl rfl,?_,.int _ _,.int _ _,⟨_,n,rfl,rfl,?_⟩,fun hx=>by cases hx⟩
      ·simp[Instr.next,getObj,setObj,Sem.run_bind,Sem.run,hO,hp,Result.andThen,setBlock]
      ·have:=qsL s p
       omega
   ·left
    refine⟨?_,?_⟩
    ·rw[b]
     cases n with
     | zero=>rfl
     | succ n=>rw[qgC,if_neg hp]
    ·simp[Instr.next,getObj,Sem.run_bind,Sem.run,hO,hp,Result.andThen]
 | nilMap =>
   obtain⟨rfl,b⟩:=hl
   left
   refine⟨b,?_⟩
   simp[Src.isStr,Instr.next,getObj,Sem.run_bind,Sem.run,hO,Result.andThen]
 | map mb vs clk Z =>
   obtain⟨seen,rfl,g⟩:=hl
   obtain⟨a0,a,c,d,e,f⟩:=h2
   simp only[Src.isStr,Bool.false_eq_true,if_false]
   have hleft:(leftOf vs seen).toList=(qnI seen Z).map (·.2):=by
    unfold leftOf qnI
    rw[Array.toList_filter,← e,List.filter_map]
    rfl
   rcases run_next_at (P:=E.P) w ty r mb clk clk seen vs clk hO c d.1 (Nat.le_refl _) with ⟨n0,hrun⟩ | ⟨en,hen,w1,hw1,hrun⟩
   ·left
    refine⟨?_,hrun⟩
    have h3:(leftOf vs seen).toList=[]:=by
     have:(leftOf vs seen).toList.length=0:=by simpa using n0
     exact List.eq_nil_of_length_eq_zero this
    rw[hleft,List.map_eq_nil_iff] at h3
    rw[h3] at g
    exact g.eq_nil
   ·right
    rw[hleft] at hen
    obtain⟨pp,hpp,rfl⟩:=List.mem_map.1 hen
    have hppz:pp∈Z:=(List.mem_filter.1 hpp).1
    have hzp:Z.Pairwise fun a b=>a.2.born≠b.2.born:=by
     have:=d.2
     rw[← e,List.pairwise_map] at this
     exact this
    have hperm:=qps (fun p:(AVal × AVal) × MapEntry=>p.2.born) (hzp.filter _) hpp
    have hl2:((qnI seen Z).filter fun q=>q.2.born != pp.2.born)=qnI (seen.push pp.2.born) Z:=by
     unfold qnI
     rw[List.filter_filter]
     refine List.filter_congr fun q _=>?_
     rw[Array.contains_push]
     by_cases hq:q.2.born=pp.2.born
     ·have h1:(q.2.born==pp.2.born)=true:=by simpa using hq
      simp only[bne,h1,Bool.not_true,Bool.false_and,Bool.or_true]
     ·have h1:(q.2.born==pp.2.born)=false:=by simpa using hq
      simp only[bne,h1,Bool.not_false,Bool.true_and,Bool.or_false]
    unfold qnI at hl2
    rw[hl2] at hperm
    have hrl:r<w1.heap.size:=by rcases hw1 with rfl | rfl<;>exact h1.1
    have hfr:∀ {b:Nat},Free G h w b→Free G h w1 b:=fun hx=>by rcases hw1 with rfl | rfl<;>exact hx
    have hc1:w1.heap[mb]? = some (.map vs clk):=by rcases hw1 with rfl | rfl<;>exact c
    refine⟨pp.1,pp.2.key,pp.2.val,(qnI (seen.push pp.2.born) Z).map (·.1),w1,.mapIter (some mb) clk (seen.push pp.2.born) clk,g.trans (hperm.map _),hw1,hrun,(f pp hppz).1,(f pp hppz).2,⟨_,rfl,.refl _⟩,fun _ G' h' w' hp=>?_⟩
    have q1:=(((hfr h1).set (.mapIter (some mb) clk (seen.push pp.2.born) clk) (r:=r)).post hp).2
    have q2:=(((hfr a).set (.mapIter (some mb) clk (seen.push pp.2.born) clk) (r:=r)).post hp).2
    rw[qfV _ _ hrl] at q1
    rw[qch _ _ a0,hc1] at q2
    refine run_entry_at w' r mb clk seen vs clk pp.2 q1 q2 ?_ ?_
    ·rw[← e]
     exact List.mem_map.2 ⟨pp,hppz,rfl⟩
    ·have:=d.2
     rw[List.nodup_iff_pairwise_ne,List.pairwise_map]
     exact this
theorem qqV (hE:EnvOk E) {call:CallT} (hc:qbX E call) (pure:Nat→Bool) (n:Nat) (ops:Array Oper) (Q:Exit→Act→World→Prop) (tail:List Oper) :
  ∀ (l:List Oper),(∀ o∈l,o∈ops.toList)→qez n ops=true→∀ (G:Ghost) (s:St) (a:Act) (w:World) (s':St),GlobOk E G→Fr E G n s a w →
   qcq pure call (l.map (qfu E ops)) s=some (.normal,s')→(∀ G' a' w',Post E G s.h w G' s'.h w'→Fr E G' n s' a' w'→wpList E.P ops Q tail a' w')→wpList E.P ops Q (l++tail) a w
 | [],_,_,G,s,a,w,s',hg,hf,hr,hQ => by
   simp only[List.map_nil,qcq,Option.some.injEq,Prod.mk.injEq,true_and] at hr
   subst hr
   exact hQ G a w (Post.refl hf.inv) hf
 | o :: rest,hm,hok,G,s,a,w,s',hg,hf,hr,hQ => by
   have hd:∀ k,o.dst=some k→k<a.tmps.size:=by
    intro k hk
    have h1:=List.all_eq_true.1 hok o (hm o (by simp))
    have h3:k<n:=by simpa[hk] using h1
    exact Nat.lt_of_lt_of_le h3 hf.size
   simp only[List.map_cons,qcq] at hr
   rw[List.cons_append]
   split at hr
   ·rename_i hw
    have hwt:=qcU hf.tmps ops o hw
    refine wpList_step fun K hK=>?_
    rw[if_pos hwt]
    split at hr
    ·rename_i va h1 hop
     refine qvp hE hc hf.inv hg hf.tmps pure o hop K Q (fun vb hvb G' w' v hp hv=>?_) (fun vb hvb=>by cases hvb)
     injection hvb with hvb
     subst hvb
     exact hK _ _ (qqV hE hc pure n ops Q tail rest (fun o' ho'=>hm o' (by simp[ho'])) hok G' _ _ w' s' (hg.mono hp.le) ⟨hp.inv,qcO (hf.tmps.mono hp.le) hd hv,by rw[qcw];exact hf.size,by rw[qbR];exact hf.defers⟩ hr
      (fun G2 a2 w2 p2 f2=>hQ G2 a2 w2 (Post.trans (h':=h1) hp p2) f2))
    ·cases hr
    ·cases hr
   ·rename_i hw
    have hwt:=qcU hf.tmps ops o hw
    refine wpList_step fun K hK=>?_
    rw[if_neg (by rw[hwt];simp)]
    exact hK _ _ (qqV hE hc pure n ops Q tail rest (fun o' ho'=>hm o' (by simp[ho'])) hok G ⟨upd s.tm o.dst (.tuple []),s.h⟩ _ w s' hg ⟨hf.inv,qcO hf.tmps hd qfl,by rw[qcw];exact hf.size,by rw[qbR];exact hf.defers⟩ hr hQ)
   ·cases hr
theorem qgQ {e:AExit} {e':Exit} {G':Ghost} (hx:qni E G' e e') (hn:e≠.normal):e'≠.normal:=by
 cases e with
 | normal=>exact absurd rfl hn
 | exit id=>intro h;rw[h] at hx;cases hx
 | ret=>intro h;rw[h] at hx;cases hx
 | panic v=>obtain⟨x,h1,_⟩:=hx;intro h;rw[h] at h1;cases h1
theorem qod {e':Exit} (hn:e'≠.normal) {next:Act→World→Prop} {Q:Exit→Act→World→Prop} {a:Act} {w:World} (h:Q e' a w):Exit.then next Q e' a w:=by
 cases e'<;>first | exact absurd rfl hn | exact h
def qjX (j:Nat) (r2:Option (Array Oper)) (B:Code):Code:=match r2 with | none=>B | some r2=>.seq (.region j r2 false) B
def qoi (E:Env) (n:Nat) (k:RangeK) (r2:Option (Array Oper)):Prop :=
 match r2 with
 | none=>k.de=none∧k.r2=[]
 | some r2=>∃ e r2' de,r2.toList=e::r2'∧e.op=.entry (.tmp k.it)∧e.guard=none∧e.dst=some de∧k.de=some de∧k.r2=r2'.map (qfu E r2)∧qez n r2=true∧k.str=false
abbrev RunOk (E:Env) (n:Nat) (B:Code) (run:St→Option (AExit × St)):Prop :=
 ∀ (Q:Exit→Act→World→Prop) (G:Ghost) (s:St) (a:Act) (w:World) (e:AExit) (s':St),GlobOk E G→Fr E G n s a w→run s=some (e,s')→Owed E G n s w e s' Q→B.wp E.P Q a w
theorem qwP (hE:EnvOk E) {call:CallT} (hc:qbX E call) (pure:Nat→Bool) (n:Nat) (k:RangeK) (j:Nat) (r2:Option (Array Oper)) (hk:qoi E n k r2) {B:Code} {runB:St→Option (AExit × St)} (hB:RunOk E n B runB)
  {s1:St} {a:Act} (hg:GlobOk E G) (hf:Fr E G n s1 a w) {e:AVal × AVal} {kv vv:Value} (hk1:Rep E G e.1 kv) (hk2:Rep E G e.2 vv)
  (hent:k.str=false→(Instr.entry (a.tmps.getD k.it undef)).run E.P w=.ok (.tuple #[kv,vv]) w) {x:AExit} {s':St}
  (hr:qlN runB (qcq pure call k.r2 ⟨upd s1.tm k.de (.tuple [e.1,e.2]),s1.h⟩)=some (x,s')) {Q:Exit→Act→World→Prop} (hQ:Owed E G n s1 w x s' Q):(qjX j r2 B).wp E.P Q a w:=by
 unfold qlN at hr
 cases r2 with
 | none =>
   obtain⟨h1,h2⟩:=hk
   rw[h1,h2] at hr
   exact hB Q G s1 a w x s' hg hf hr hQ
 | some r2 =>
   obtain⟨o,r2',de,h1,h2,h3,h4,h5,h6,h7,h8⟩:=hk
   refine wp_seq (wp_region_list ?_)
   rw[h1]
   have hrun:=hent h8
   have hd:de<a.tmps.size:=by
    have h9:=List.all_eq_true.1 h7 o (by rw[h1];simp)
    have h10:de<n:=by simpa[h4] using h9
    exact Nat.lt_of_lt_of_le h10 hf.size
   refine wpList_plain h3 fun K hK=>?_
   unfold Oper.wp
   simp only[execOp,h2,Act.eval]
   rw[qtn hrun]
   refine hK _ _ ?_
   rw[h5,h6] at hr
   cases hx:qcq pure call (r2'.map (qfu E r2)) ⟨upd s1.tm (some de) (.tuple [e.1,e.2]),s1.h⟩ with
   | none=>rw[hx] at hr;cases hr
   | some q =>
     obtain⟨x1,s2⟩:=q
     rw[hx] at hr
     refine qlr hE hc pure n r2 _ r2' (fun o' ho'=>by rw[h1];simp[ho']) h7 G ⟨upd s1.tm (some de) (.tuple [e.1,e.2]),s1.h⟩ _ w x1 s2 hg
      ⟨hf.inv,by rw[← h4];exact qcO hf.tmps (fun k hk=>by rw[h4] at hk;injection hk with hk;rw[← hk];exact hd) (.tupleL (RepL.cons hk1 (RepL.one hk2))),by rw[qcw];exact hf.size,by rw[qbR];exact hf.defers⟩ hx fun G' e' a' w' hp hf' hrel=>?_
     by_cases hn:x1=.normal
     ·subst hn
      have he:e'=.normal:=hrel
      subst he
      exact hB Q G' s2 a' w' x s' (hg.mono hp.le) hf' hr (hQ.mono (s1:=s2) hp)
     ·have:(x,s')=(x1,s2):=by
       cases x1<;>first | exact absurd rfl hn | (simp only[Option.some.injEq] at hr;exact hr.symm)
      injection this with q1 q2
      subst q1 q2
      exact qod (qgQ hrel hn) (hQ G' e' a' w' hp hf' hrel)
def qre (E:Env) (n:Nat) (k:RangeK) (r1:Array Oper) (c:Operand):Prop :=
 ∃ o r1',r1.toList=o::r1'∧o.op=.next (.tmp k.it) k.str∧o.guard=none∧o.dst=some k.dn∧k.r1=r1'.map (qfu E r1)∧k.c=qcb E c∧qez n r1=true
theorem qoX {n i r:Nat} {k:RangeK} {s:St} {a:Act} (hf:Fr E G n s a w) (hit:qrN i k s=true) (hb:G.blk i=some r):a.tmps.getD k.it undef=.pointer (some ⟨r,0,none⟩):=by
 unfold qrN at hit
 have hrep:=hf.tmps k.it
 split at hit
 ·rename_i i' o hp
  simp only[Bool.and_eq_true,beq_iff_eq] at hit
  obtain⟨rfl,rfl⟩:=hit
  rw[hp] at hrep
  generalize a.tmps.getD k.it undef=v at hrep
  cases hrep with
  | ptr hb' =>
    rw[hb] at hb'
    injection hb' with hb'
    rw[hb']
 ·cases hit
theorem qrv {n:Nat} {s:St} {a:Act} (hg:GlobOk E G) (hf:Fr E G n s a w) {c:Operand} {b:Bool} (h:opd s.tm (qcb E c)=.bool b):a.eval c=.bool b:=by
 have hb:=qeA hg hf.tmps c
 rw[h] at hb
 generalize a.eval c=v at hb
 cases hb
 rfl
theorem qyY (hE:EnvOk E) {call:CallT} (hc:qbX E call) (pure:Nat→Bool) (n i r:Nat) (k:RangeK) (r1:Array Oper) (c:Operand) (hh:qre E n k r1 c) (i1 j:Nat) (r2:Option (Array Oper)) (hk:qoi E n k r2)
  {B:Code} {runB:St→Option (AExit × St)} (hB:RunOk E n B runB) {s:St} {a:Act} (hg:GlobOk E G) (hf:Fr E G n s a w) {src:Src} (hstr:k.str=src.isStr) (hs:SrcOk E G s.h w r src) {O0:Obj} (hO:w.heap[r]? = some O0)
  {rem:List (AVal × AVal)} (hl:qmi src O0 rem) (hit:qrN i k s=true) (hb:G.blk i=some r) {Q:Exit→Act→World→Prop}
  (hEnd:rem=[]→∃ s1,qb2 (qcq pure call) i k s=some (.normal,s1)∧∀ G' a' w',Post E G s.h w G' s1.h w'→Fr E G' n s1 a' w'→Q (.exit k.id) a' w')
  (hRnd:∀ e rem',(if src.isStr=true then rem=e::rem' else rem.Perm (e::rem'))→∃ x s',qbr (qcq pure call) i k runB e s=some (x,s') ∧
   ∀ O G' e' a' w',qmi src O rem'→Post E G s.h (setBlock w r O) G' s'.h w'→Fr E G' n s' a' w'→qni E G' x e'→Q e' a' w') :
  (Code.seq (.region i1 r1 false) (.seq (.cond c .skip (.exit k.id)) (.block k.id2 (qjX j r2 B)))).wp E.P Q a w:=by
 obtain⟨o,r1',h1,h2,h3,h4,h5,h6,h7⟩:=hh
 have hd:k.dn<a.tmps.size:=by
  have h9:=List.all_eq_true.1 h7 o (by rw[h1];simp)
  have h10:k.dn<n:=by simpa[h4] using h9
  exact Nat.lt_of_lt_of_le h10 hf.size
 have hd':∀ q,o.dst=some q→q<a.tmps.size:=fun q hq=>by rw[h4] at hq;injection hq with hq;rw[← hq];exact hd
 have hev:=qoX hf hit hb
 refine wp_seq (wp_region_list ?_)
 rw[h1]
 refine wpList_plain h3 fun K hK=>?_
 unfold Oper.wp
 simp only[execOp,h2,Act.eval,hev,hstr]
 rcases qxR hs hO hl o.type with ⟨hrem,hrun⟩ | ⟨e,kv,vv,rem',w1,O,hord,hw1,hrun,hk1,hk2,hl',hent⟩
 ·rw[qtn hrun]
  refine hK _ _ ?_
  obtain⟨s1,hend,hq⟩:=hEnd hrem
  unfold qb2 at hend
  rw[if_pos hit] at hend
  cases hx:qcq pure call k.r1 ⟨upd s.tm (some k.dn) (.tuple [.bool false]),s.h⟩ with
  | none=>rw[hx] at hend;cases hend
  | some y =>
    obtain⟨x1,s2⟩:=y
    rw[hx] at hend
    cases x1 with
    | normal =>
      dsimp only at hend
      split at hend
      ·rename_i hcv
       simp only[Option.some.injEq,Prod.mk.injEq,true_and] at hend
       subst hend
       rw[h5] at hx
       refine qlr hE hc pure n r1 _ r1' (fun o' ho'=>by rw[h1];simp[ho']) h7 G ⟨upd s.tm (some k.dn) (.tuple [.bool false]),s.h⟩ _ w .normal s2 hg
        ⟨hf.inv,by rw[← h4];exact qcO hf.tmps hd' (.tupleL (RepL.one (.bool false))),by rw[qcw];exact hf.size,by rw[qbR];exact hf.defers⟩ hx fun G' e' a' w' hp hf' hrel=>?_
       have he:e'=.normal:=hrel
       subst he
       rw[h6] at hcv
       refine wp_seq (wp_cond_false (qrv (hg.mono hp.le) hf' hcv) (wp_exit ?_))
       exact hq G' a' w' hp hf'
      ·cases hend
    | _=>cases hend
 ·rw[qtn hrun]
  refine hK _ _ ?_
  obtain⟨x,s',hrr,hq⟩:=hRnd e rem' hord
  unfold qbr at hrr
  rw[if_pos hit] at hrr
  have hi1:Inv E G s.h w1:=by
   rcases hw1 with rfl | rfl
   ·exact hf.inv
   ·exact hf.inv.drew
  have hs1:SrcOk E G s.h w1 r src:=by rcases hw1 with rfl | rfl<;>exact hs
  have hi2:=qka hi1 hs1.1 O
  have hpost:Post E G s.h (setBlock w r O) G s.h (setBlock w1 r O):=by
   rcases hw1 with rfl | rfl
   ·exact Post.refl hi2
   ·exact Post.drew (qka hf.inv hs.1 O)
  cases hx:qcq pure call k.r1 ⟨upd s.tm (some k.dn) (.tuple [.bool true,e.1,e.2]),s.h⟩ with
  | none=>rw[hx] at hrr;cases hrr
  | some y =>
    obtain⟨x1,s2⟩:=y
    rw[hx] at hrr
    cases x1 with
    | normal =>
      dsimp only at hrr
      split at hrr
      case isFalse=>cases hrr
      rename_i hit2
      split at hrr
      ·rename_i hcv
       rw[h5] at hx
       refine qlr hE hc pure n r1 _ r1' (fun o' ho'=>by rw[h1];simp[ho']) h7 G ⟨upd s.tm (some k.dn) (.tuple [.bool true,e.1,e.2]),s.h⟩ _ (setBlock w1 r O) .normal s2 hg
        ⟨hi2,by rw[← h4];exact qcO hf.tmps hd' (.tupleL (RepL.cons (.bool true) (RepL.cons hk1 (RepL.one hk2)))),by rw[qcw];exact hf.size,by rw[qbR];exact hf.defers⟩ hx fun G' e' a' w' hp hf' hrel=>?_
       have he:e'=.normal:=hrel
       subst he
       rw[h6] at hcv
       refine wp_seq (wp_cond_true (qrv (hg.mono hp.le) hf' hcv) (wp_skip (wp_block ?_)))
       unfold qdU at hrr
       cases hz:qlN runB (qcq pure call k.r2 ⟨upd s2.tm k.de (.tuple [e.1,e.2]),s2.h⟩) with
       | none=>rw[hz] at hrr;cases hrr
       | some z =>
         obtain⟨x3,s3⟩:=z
         rw[hz] at hrr
         refine qwP hE hc pure n k j r2 hk hB (hg.mono hp.le) hf' (hk1.mono hp.le) (hk2.mono hp.le) (fun hfs=>?_) hz fun G2 e2 a2 w2 hp2 hf2 hrel2=>?_
         ·rw[qoX hf' hit2 (hp.le.blk _ _ hb)]
          exact hent (by rw[← hstr];exact hfs) G' s2.h w' hp
         ·have hq2:=fun e3=>hq O G2 e3 a2 w2 hl'
          have hp3:=(hpost.trans hp).trans hp2
          cases x3 with
          | exit id' =>
            have he:e2=.exit id':=hrel2
            subst he
            simp only[Exit.inBlock]
            dsimp only at hrr
            split at hrr
            ·rename_i hid
             rw[if_pos hid]
             simp only[Option.some.injEq,Prod.mk.injEq] at hrr
             obtain⟨rfl,rfl⟩:=hrr
             exact hq2 .normal hp3 hf2 rfl
            ·rename_i hid
             rw[if_neg hid]
             simp only[Option.some.injEq,Prod.mk.injEq] at hrr
             obtain⟨rfl,rfl⟩:=hrr
             exact hq2 _ hp3 hf2 rfl
          | normal =>
            simp only[Option.some.injEq,Prod.mk.injEq] at hrr
            obtain⟨rfl,rfl⟩:=hrr
            have he:e2=.normal:=hrel2
            subst he
            exact hq2 _ hp3 hf2 rfl
          | ret =>
            simp only[Option.some.injEq,Prod.mk.injEq] at hrr
            obtain⟨rfl,rfl⟩:=hrr
            have he:e2=.ret:=hrel2
            subst he
            exact hq2 _ hp3 hf2 rfl
          | panic v =>
            simp only[Option.some.injEq,Prod.mk.injEq] at hrr
            obtain⟨rfl,rfl⟩:=hrr
            obtain⟨xx,rfl,hv⟩:=hrel2
            exact hq2 _ hp3 hf2 ⟨xx,rfl,hv⟩
      ·cases hrr
    | _=>cases hrr
theorem qv2 (hE:EnvOk E) {call:CallT} (hc:qbX E call) (pure:Nat→Bool) (n i r:Nat) (k:RangeK) (r1:Array Oper) (c:Operand) (hh:qre E n k r1 c) (i1 j:Nat) (r2:Option (Array Oper)) (hk:qoi E n k r2)
  {B:Code} {runB:St→Option (AExit × St)} (hB:RunOk E n B runB) {src:Src} (hstr:k.str=src.isStr) {G1:Ghost} {hid:Heap} {wA:World} (hlen:hid.length=i+1) (hb:G1.blk i=some r) (hi1:Inv E G1 hid wA) (hs1:SrcOk E G1 hid wA r src)
  (hg1:GlobOk E G1) (F:Option (AExit × St)→Option (AExit × St)) (hF:F none=none) (res:AExit × St) {Q1:Exit→Act→World→Prop}
  (hDone:∀ y s2,F (some (y,s2))=some res→∀ O G' e' a' w',Post E G1 hid (setBlock wA r O) G' s2.h w'→Fr E G' n s2 a' w'→qni E G' y e'→Q1 e' a' w') :
  ∀ (N:Nat) (rem:List (AVal × AVal)) (G:Ghost) (s:St) (a:Act) (w:World) (O0:Obj),rem.length<N→Fr E G n s a w→Post E G1 hid (setBlock wA r O0) G s.h w→w.heap[r]? = some O0→qmi src O0 rem →
   (∀ es',qcC k.str rem es'→F (qbs (qcq pure call) i k runB es' s)=some res) →
   Code.rounds E.P (Code.seq (.region i1 r1 false) (.seq (.cond c .skip (.exit k.id)) (.block k.id2 (qjX j r2 B)))) (Exit.inBlock k.id Q1) N a w:=by
 intro N
 induction N with
 | zero=>intro rem G s a w O0 hlt;omega
 | succ N ih =>
   intro rem G s a w O0 hlt hf hp hO hl hall
   rw[rounds_succ]
   have hgc:=quJ (qka hi1 hs1.1 O0) hf hp (hg1.mono hp.le) k.kr
   rw[hlen] at hgc
   obtain⟨G2,hp2,hf2,hg2⟩:=hgc
   have hrun0:∀ es',qcC k.str rem es'→qbs (qcq pure call) i k runB es' s≠none:=fun es' he hx=>by
    have:=hall es' he
    rw[hx,hF] at this
    cases this
   have hitOk:qrN i k (gc (i+1) k.kr s)=true:=by
    obtain⟨es',he⟩:=qb7 k.str rem
    have h0:=hrun0 es' he
    by_cases hx:qrN i k (gc (i+1) k.kr s)=true
    ·exact hx
    ·exfalso
     apply h0
     cases es' with
     | nil=>unfold qbs qb2;rw[if_neg hx]
     | cons e es' =>
       unfold qbs qbr
       rw[if_neg hx]
       rfl
   have hs2:SrcOk E G2 (gc (i+1) k.kr s).h w r src:=(hs1.set O0).post hp2
   refine qyY hE hc pure n i r k r1 c hh i1 j r2 hk hB hg2 hf2 hstr hs2 hO hl hitOk (hp2.le.blk _ _ hb) (fun hrem=>?_) fun e rem' hord=>?_
   ·subst hrem
    have hnil:qcC k.str [] []:=by unfold qcC;split<;>first | rfl | exact .refl _
    have h0:=hall [] hnil
    rw[qbs] at h0
    cases hx:qb2 (qcq pure call) i k (gc (i+1) k.kr s) with
    | none=>rw[hx,hF] at h0;cases h0
    | some y =>
      obtain⟨x,s1⟩:=y
      have hxn:x=.normal:=by
       unfold qb2 at hx
       rw[if_pos hitOk] at hx
       split at hx
       ·split at hx
        ·injection hx with hx
         injection hx with hx _
         exact hx.symm
        ·cases hx
       ·cases hx
      subst hxn
      rw[hx] at h0
      refine⟨s1,rfl,fun G' a' w' hp' hf'=>?_⟩
      show Exit.inBlock k.id Q1 (.exit k.id) a' w'
      simp only[Exit.inBlock,if_true]
      exact hDone _ _ h0 O0 G' .normal a' w' (hp2.trans hp') hf' rfl
   ·rw[← hstr] at hord
    have hnext:∀ es',qcC k.str rem' es'→F (qbs (qcq pure call) i k runB (e::es') s)=some res:=fun es' he=>hall _ (qoN hord he)
    obtain⟨es0,hes0⟩:=qb7 k.str rem'
    have h0:=hnext es0 hes0
    rw[qbs] at h0
    cases hx:qbr (qcq pure call) i k runB e (gc (i+1) k.kr s) with
    | none=>rw[hx] at h0;simp only[qdU] at h0;rw[hF] at h0;cases h0
    | some y =>
      obtain⟨x,s'⟩:=y
      refine⟨x,s',rfl,fun O G' e' a' w' hl' hp' hf' hrel=>?_⟩
      have hpb:=qvw hp2 hs2.1 O
      rw[qmf] at hpb
      have hp3:=hpb.trans hp'
      have hlt':rem'.length<N:=by
       have:rem.length=rem'.length+1:=by
        split at hord
        ·rw[hord];rfl
        ·rw[hord.length_eq];rfl
       omega
      cases x with
      | normal =>
        have he:e'=.normal:=hrel
        subst he
        have hwr:w'.heap[r]? = some O:=by
         have h5:=((hs2.1.set O (r:=r)).post hp').2
         rw[h5]
         exact qfV _ _ hs2.1.1
        refine ih rem' G' s' a' w' O hlt' hf' hp3 hwr hl' fun es' he=>?_
        have h1:=hnext es' he
        rw[qbs,hx] at h1
        exact h1
      | exit id' =>
        have he:e'=.exit id':=hrel
        subst he
        rw[hx] at h0
        show Exit.inBlock k.id Q1 (.exit id') a' w'
        simp only[Exit.inBlock]
        simp only[qdU] at h0
        split at h0
        ·rename_i hid
         rw[if_pos hid]
         exact hDone _ _ h0 O G' .normal a' w' hp3 hf' rfl
        ·rename_i hid
         rw[if_neg hid]
         exact hDone _ _ h0 O G' _ a' w' hp3 hf' rfl
      | ret =>
        have he:e'=.ret:=hrel
        subst he
        rw[hx] at h0
        exact hDone _ _ h0 O G' .ret a' w' hp3 hf' rfl
      | panic v =>
        obtain⟨xx,rfl,hv⟩:=hrel
        rw[hx] at h0
        exact hDone _ _ h0 O G' _ a' w' hp3 hf' ⟨xx,rfl,hv⟩
theorem qj9 {m:AVal} {h:Heap} {i:Nat} {o:AObj} (e:(ql9 m h)[i]? = some o):o=.gone∨(h[i]? = some o∧∀ q,m=.map (some q)→i≠q):=by
 unfold ql9 at e
 split at e
 ·rename_i q
  rcases qbk e with ⟨hi,e⟩ | ⟨_,rfl⟩
  ·rcases qgr e with ⟨hne,e⟩ | ⟨_,rfl,_⟩
   ·exact .inr ⟨e,fun q' hq=>by injection hq with hq;injection hq with hq;rw[← hq];exact hne⟩
   ·exact .inl rfl
  ·exact .inl rfl
 ·rename_i hm
  rcases qbk e with ⟨hi,e⟩ | ⟨_,rfl⟩
  ·exact .inr ⟨e,fun q' hq=>absurd hq (hm q')⟩
  ·exact .inl rfl
theorem qk5 (m:AVal) (h:Heap):(ql9 m h).length=h.length+1:=by
 unfold ql9
 split<;>simp
theorem qk6 (hi:Inv E G h w) (r:Nat) {i:Nat} {o:AObj} (he:h[i]? = some o) {b:Nat}:qcz (G.withBlk h.length r) i o b↔qcz G i o b:=by
 have hne:i≠h.length:=fun hx=>by
  have:=(List.getElem?_eq_some_iff.1 he).1
  omega
 cases o<;>simp only[qcz,Ghost.withBlk,if_neg hne]
theorem qit (hi:Inv E G h w) (r:Nat) (m:AVal) {b:Nat} (ho:Own (G.withBlk h.length r) (ql9 m h) b):∃ i o,h[i]? = some o∧qcz G i o b∧∀ q,m=.map (some q)→i≠q:=by
 obtain⟨i,o,e,ho⟩:=ho
 rcases qj9 e with rfl | ⟨e',hne⟩
 ·exact ho.elim
 ·exact⟨i,o,e',(qk6 hi r e').1 ho,hne⟩
theorem qep (hi:Inv E G h w) (r:Nat):G.le (G.withBlk h.length r):=by
 refine⟨fun _ _ _ e=>e,fun id b e=>?_,fun _ _ _ e=>e⟩
 have:id≠h.length:=fun hx=>by
  have:=(hi.dom id (by omega)).1
  rw[e] at this
  cases this
 simpa[Ghost.withBlk,this] using e
theorem qxo (hi:Inv E G h w) (m:AVal) (O:Obj):Inv E (G.withBlk h.length w.heap.size) (ql9 m h) (w.alloc O):=by
 refine⟨fun b o v e=>?_,hi.one,fun id o e=>?_,fun id o id' o' b e e' ho ho'=>?_,fun id hid=>?_,hi.tab.keep (fun _ _ _ e=>e) fun b hb=>heap_alloc_old w O hb⟩
 ·have e':G.fix b o=some v:=e
  rw[World.cell?_alloc_lt w _ ⟨b,_,none⟩ (hi.fix_lt (b:=b) (by rw[e'];simp))]
  exact hi.fix b o v e'
 ·rcases qj9 e with rfl | ⟨e',_⟩
  ·trivial
  ·exact (hi.obj id o e').keep (qep hi _) (fun b hb=>heap_alloc_old w O (hi.owns_lt e' hb)) (fun _ _ _=>rfl) fun _=>rfl
 ·rcases qj9 e with rfl | ⟨e1,_⟩
  ·exact ho.elim
  ·rcases qj9 e' with rfl | ⟨e2,_⟩
   ·exact ho'.elim
   ·exact hi.sep id o id' o' b e1 e2 ((qk6 hi _ e1).1 ho) ((qk6 hi _ e2).1 ho')
 ·rw[qk5] at hid
  have h1:=hi.dom id (by omega)
  have hne:id≠h.length:=by omega
  exact⟨by simp only[Ghost.withBlk,if_neg hne];exact h1.1,h1.2⟩
theorem qfJ (hi:Inv E G h w) (m:AVal) (O:Obj):Free (G.withBlk h.length w.heap.size) (ql9 m h) (w.alloc O) w.heap.size:=by
 refine⟨by simp,fun ho=>?_,fun o=>?_⟩
 ·obtain⟨i,o,e,ho,_⟩:=qit hi _ m ho
  have:=hi.owns_lt e ho
  omega
 ·cases hx:G.fix w.heap.size o with
  | none=>exact hx
  | some v=>exact absurd (hi.fix_lt (b:=w.heap.size) (o:=o) (by rw[hx];simp)) (Nat.lt_irrefl _)
theorem qis (hi:Inv E G h w) {q mb:Nat} {es:List (AVal × AVal)} (he:h[q]? = some (.map es)) (hb:G.blk q=some mb) (O:Obj):Free (G.withBlk h.length w.heap.size) (ql9 (.map (some q)) h) (w.alloc O) mb:=by
 have hlt:=hi.owns_lt he (b:=mb) hb
 refine⟨by simp;omega,fun ho=>?_,fun o=>?_⟩
 ·obtain⟨i,o,e,ho,hne⟩:=qit hi _ _ ho
  exact hne q rfl (hi.sep i o q _ mb e he ho hb)
 ·obtain⟨_,_,_,_,_,_,_,_,h9⟩:=qi8 hi he hb
  exact h9 o
theorem qrb (hi:Inv E G h w) (m:AVal) (hm:∀ q,m=.map (some q)→∃ es,h[q]? = some (.map es)) {O O':Obj} {G':Ghost} {h':Heap} {w':World}
  (hp:Post E (G.withBlk h.length w.heap.size) (ql9 m h) (setBlock (w.alloc O) w.heap.size O') G' h' w'):Post E G h w G' (qcG m h h') w':=by
 have hle:G.le G':=(qep hi _).trans hp.le
 have hsz:w.heap.size+1≤w'.heap.size:=by
  have:=hp.size
  rw[qbM] at this
  simpa using this
 have hfree:∀ {q es mb},m=.map (some q)→h[q]? = some (.map es)→G.blk q=some mb→Free G' h' w' mb∧w'.heap[mb]? = w.heap[mb]? := fun {q es mb} hq he hb=>by
  subst hq
  have hf:=(qis hi he hb O).set O' (r:=w.heap.size)
  have h1:=hf.post hp
  have hlt:=hi.owns_lt he (b:=mb) hb
  refine⟨h1.1,?_⟩
  rw[h1.2,qch _ _ (by omega),heap_alloc_old w O hlt]
 have hlen:(qcG m h h').length=h'.length:=by
  unfold qcG
  split<;>simp
 have hget:∀ {i o},(qcG m h h')[i]? = some o→(h'[i]? = some o∧∀ q,m=.map (some q)→i≠q)∨∃ es,m=.map (some i)∧h[i]? = some (.map es)∧o=.map es:=fun {i o} e=>by
  unfold qcG at e
  split at e
  ·rename_i q
   obtain⟨es,he⟩:=hm q rfl
   rcases qgr e with ⟨hne,e⟩ | ⟨rfl,rfl,_⟩
   ·exact .inl ⟨e,fun q' hq=>by injection hq with hq;injection hq with hq;rw[← hq];exact hne⟩
   ·exact .inr ⟨es,rfl,he,by rw[he];rfl⟩
  ·rename_i hmm
   exact .inl ⟨e,fun q' hq=>absurd hq (hmm q')⟩
 have hown:∀ {b},Own G' (qcG m h h') b→Own G h b∨w.heap.size≤b:=fun {b} ho=>by
  obtain⟨i,o,e,ho⟩:=ho
  rcases hget e with ⟨e',_⟩ | ⟨es,hq,he,rfl⟩
  ·rcases hp.owned b ⟨i,o,e',ho⟩ with h1 | h1
   ·obtain⟨i2,o2,e2,ho2,_⟩:=qit hi _ m h1
    exact .inl ⟨i2,o2,e2,ho2⟩
   ·rw[qbM] at h1
    simp at h1
    exact .inr (by omega)
  ·obtain⟨mb,_,_,_,hb,_⟩:=hi.obj i _ he
   have h2:G'.blk i=some b:=ho
   rw[hle.blk _ _ hb] at h2
   injection h2 with h2
   subst h2
   exact .inl ⟨i,_,he,hb⟩
 refine⟨hle,⟨hp.inv.fix,hp.inv.one,fun id o e=>?_,fun id o id' o' b e e' ho ho'=>?_,fun id hid=>hp.inv.dom id (by omega),hp.inv.tab⟩,by omega,fun b hb hn=>?_,fun b o e=>?_,fun b ho=>hown ho,hp.os,hp.tape,hp.output⟩
 ·rcases hget e with ⟨e',_⟩ | ⟨es,hq,he,rfl⟩
  ·exact hp.inv.obj id o e'
  ·obtain⟨mb,vs,clk,es',hb,h1,h2,h3,h4,h5,h6⟩:=hi.obj id _ he
   have hf:=hfree hq he hb
   exact⟨mb,vs,clk,es',hle.blk _ _ hb,by rw[hf.2];exact h1,h2,h3,⟨h4.len,fun i e v e1 e2=>⟨(h4.rep i e v e1 e2).1.mono hle,(h4.rep i e v e1 e2).2.mono hle⟩⟩,h5,hf.1.2.2⟩
 ·have hno:∀ {i j es oj},m=.map (some i)→h[i]? = some (.map es)→qcz G' i (.map es) b→h'[j]? = some oj→qcz G' j oj b→False:=fun {i j es oj} hq he ho ej hoj=>by
   obtain⟨mb,_,_,_,hb,_⟩:=hi.obj i _ he
   have h2:G'.blk i=some b:=ho
   rw[hle.blk _ _ hb] at h2
   injection h2 with h2
   subst h2
   exact (hfree hq he hb).1.2.1 ⟨j,oj,ej,hoj⟩
  rcases hget e with ⟨e1,_⟩ | ⟨es,hq,he,rfl⟩
  ·rcases hget e' with ⟨e2,_⟩ | ⟨es',hq',he',rfl⟩
   ·exact hp.inv.sep id o id' o' b e1 e2 ho ho'
   ·exact (hno hq' he' ho' e1 ho).elim
  ·rcases hget e' with ⟨e2,_⟩ | ⟨es',hq',he',rfl⟩
   ·exact (hno hq he ho e2 ho').elim
   ·rw[hq] at hq'
    injection hq' with hq'
    injection hq'
 ·have h1:=hp.block b (by rw[qbM];simp;omega) (fun ho=>by
   obtain⟨i,o,e,ho,_⟩:=qit hi _ m ho
   exact hn ⟨i,o,e,ho⟩)
  rw[h1,qch _ _ (by omega),heap_alloc_old w O hb]
 ·rcases hp.fixed b o e with h1 | h1 | h1
  ·exact .inl h1
  ·obtain⟨i,o,e,ho,_⟩:=qit hi _ m h1
   exact .inr (.inl ⟨i,o,e,ho⟩)
  ·rw[qbM] at h1
   simp at h1
   exact .inr (.inr (by omega))
theorem qnE {n:Nat} {s:St} (hi:Inv E G s.h w) (hg:GlobOk E G) {keep:List Nat} {x3 e:AExit} {s3 s':St} (hgc:gcE s.h.length keep (x3,s3)=(e,s')) {Q:Exit→Act→World→Prop} (hQ:Owed E G n s w e s' Q):Owed E G n s w x3 s3 Q:=by
 intro G' e' a' w' hp hf' hrel
 cases x3 with
 | panic v =>
   simp only[gcE,Prod.mk.injEq] at hgc
   obtain⟨rfl,rfl⟩:=hgc
   exact hQ G' e' a' w' hp hf' hrel
 | normal =>
   simp only[gcE,Prod.mk.injEq] at hgc
   obtain⟨rfl,rfl⟩:=hgc
   obtain⟨G2,h1,h2,_⟩:=quJ hi hf' hp (hg.mono hp.le) keep
   exact hQ G2 e' a' w' h1 h2 hrel
 | ret =>
   simp only[gcE,Prod.mk.injEq] at hgc
   obtain⟨rfl,rfl⟩:=hgc
   obtain⟨G2,h1,h2,_⟩:=quJ hi hf' hp (hg.mono hp.le) keep
   exact hQ G2 e' a' w' h1 h2 hrel
 | exit id =>
   simp only[gcE,Prod.mk.injEq] at hgc
   obtain⟨rfl,rfl⟩:=hgc
   obtain⟨G2,h1,h2,_⟩:=quJ hi hf' hp (hg.mono hp.le) keep
   exact hQ G2 e' a' w' h1 h2 hrel
def qkb (E:Env) (t:TypeId) (str:Bool):Bool :=
 match E.P.underlying t with
 | some .string=>str
 | some (.map _ _) => !str
 | _=>false
def qBk (E:Env) (n:Nat) (k:RangeK) (ops:Array Oper):Prop :=
 ∃ pre o t mo,ops.toList=pre++[o]∧o.op=.range t mo∧o.guard=none∧o.dst=some k.it∧k.pre=pre.map (qfu E ops)∧k.m=qcb E mo∧qkb E t k.str=true∧qez n ops=true
theorem qvB (hi:Inv E G h w) {am:AVal} {m:Value} (hm:Rep E G am m) {str:Bool} {es:List (AVal × AVal)} (hes:qcR str am h=some es) {t:TypeId} (ht:qkb E t str=true) :
  (∀ q,am=.map (some q)→∃ es,h[q]? = some (.map es))∧∃ src O,str=src.isStr∧(Instr.range t m).run E.P w=.ok (.pointer (some ⟨w.heap.size,0,none⟩)) (w.alloc O)∧qmi src O es ∧
   SrcOk E (G.withBlk h.length w.heap.size) (ql9 am h) (w.alloc O) w.heap.size src:=by
 unfold qkb at ht
 cases str with
 | true =>
   cases am with
   | str s =>
     simp only[qcR,Option.some.injEq] at hes
     subst hes
     cases hm with
     | str =>
       refine⟨(fun q hq=>by cases hq),.str s,.stringIter s 0,rfl,?_,⟨0,s.size,rfl,rfl,by omega⟩,qfJ hi _ _,trivial⟩
       split at ht
       ·rename_i hd
        simp[Instr.range,run_underlying hd]
       ·cases ht
       ·cases ht
   | _=>simp[qcR] at hes
 | false =>
   have hd:∃ a b,E.P.underlying t=some (.map a b):=by
    split at ht
    ·cases ht
    ·rename_i a b hd
     exact⟨a,b,hd⟩
    ·cases ht
   obtain⟨ta,tb,hd⟩:=hd
   unfold qcR at hes
   cases am with
   | map q =>
     cases q with
     | none =>
       simp only[qpe,Option.some.injEq] at hes
       subst hes
       cases hm with
       | mapNil =>
         refine⟨(fun q hq=>by cases hq),.nilMap,.mapIter none 0 #[] 0,rfl,?_,⟨rfl,rfl⟩,qfJ hi _ _,trivial⟩
         simp[Instr.range,run_underlying hd]
     | some q =>
       simp only[qpe] at hes
       split at hes
       ·rename_i es0 he
        injection hes with hes
        subst hes
        cases hm with
        | @map _ mb hb =>
          obtain⟨vs,clk,es',h1,hpm,hkd,h2,hst,h3⟩:=qi8 hi he hb
          have hlt:=hi.owns_lt he (b:=mb) hb
          refine⟨fun q' hq=>⟨es0,by injection hq with hq;injection hq with hq;rw[← hq];exact he⟩,.map mb vs clk (es'.zip vs.toList),.mapIter (some mb) clk #[] clk,rfl,run_range_map w t ta tb mb vs clk hd h1,⟨#[],rfl,?_⟩,qfJ hi _ _,by omega,qis hi he hb _,?_,hst,?_,?_⟩
          ·have h5:qnI #[] (es'.zip vs.toList)=es'.zip vs.toList:=List.filter_eq_self.2 fun p _=>by simp
           rw[h5,List.map_fst_zip (by rw[h2.len];exact Nat.le_refl _)]
           exact hpm.symm
          ·rw[heap_alloc_old w _ hlt]
           exact h1
          ·exact List.map_snd_zip (by rw[h2.len];exact Nat.le_refl _)
          ·intro p hp
           obtain⟨i,hi'⟩:=List.getElem?_of_mem hp
           rw[List.getElem?_zip_eq_some] at hi'
           have h6:=h2.rep i p.1 p.2 hi'.1 hi'.2
           exact⟨h6.1.mono (qep hi _),h6.2.mono (qep hi _)⟩
       ·cases hes
   | _=>simp[qpe] at hes
theorem qsa (hE:EnvOk E) {call:CallT} (hc:qbX E call) (pure:Nat→Bool) (n:Nat) (k:RangeK) (ops r1:Array Oper) (c:Operand) (r2:Option (Array Oper)) (i0 i1 j:Nat) (hpre:qBk E n k ops) (hh:qre E n k r1 c) (hk:qoi E n k r2)
  {B REST:Code} {runB runC:St→Option (AExit × St)} (hB:RunOk E n B runB) (hC:RunOk E n REST runC) {s:St} {a:Act} {e:AExit} {s':St} (hg:GlobOk E G) (hf:Fr E G n s a w)
  (hr:qlx (qcq pure call) k runB runC s=some (e,s')) {Q:Exit→Act→World→Prop} (hQ:Owed E G n s w e s' Q) :
  (Code.seq (.seq (.region i0 ops false) (.block k.id (.loop (.seq (.region i1 r1 false) (.seq (.cond c .skip (.exit k.id)) (.block k.id2 (qjX j r2 B))))))) REST).wp E.P Q a w:=by
 obtain⟨pre,o,t,mo,h1,h2,h3,h4,h5,h6,h7,h8⟩:=hpre
 rw[qfi] at hr
 cases hx:qcq pure call k.pre s with
 | none=>rw[hx] at hr;cases hr
 | some y =>
   obtain⟨x1,s1⟩:=y
   rw[hx] at hr
   cases x1 with
   | normal =>
     dsimp only at hr
     split at hr
     case h_2=>cases hr
     rename_i es hes
     have hall:=(qcZ (qb7 _ _)).1 hr
     rw[h5] at hx
     refine wp_seq (wp_seq (wp_region_list ?_))
     rw[h1]
     refine qqV hE hc pure n ops _ [o] pre (fun o' ho'=>by rw[h1];simp[ho']) h8 G s a w s1 hg hf hx fun G1 a1 w1 hp1 hf1=>?_
     have hg1:=hg.mono hp1.le
     have hd:k.it<a1.tmps.size:=by
      have h9:=List.all_eq_true.1 h8 o (by rw[h1];simp)
      have h10:k.it<n:=by simpa[h4] using h9
      exact Nat.lt_of_lt_of_le h10 hf1.size
     have hm:=qeA hg1 hf1.tmps mo
     rw[← h6] at hm
     obtain⟨hmq,src,O,hstr,hrun,hiter,hsrc⟩:=qvB hf1.inv hm hes h7
     refine wpList_plain h3 fun K hK=>?_
     unfold Oper.wp
     simp only[execOp,h2]
     rw[qtn hrun]
     refine hK _ _ (wpList_nil ?_)
     have hi2:=qxo hf1.inv (opd s1.tm k.m) O
     have hg2:=hg1.mono (qep hf1.inv w1.heap.size)
     have hO:(w1.alloc O).heap[w1.heap.size]? = some O:=heap_alloc_new w1 _
     have hblk:(G1.withBlk s1.h.length w1.heap.size).blk s1.h.length=some w1.heap.size:=by simp[Ghost.withBlk]
     refine wp_block (wp_loop_rounds (es.length+1) ?_)
     refine qv2 hE hc pure n s1.h.length w1.heap.size k r1 c hh i1 j r2 hk hB hstr (qk5 _ _) hblk hi2 hsrc hg2
      (fun x=>(match x with
       | some (.normal,s2)=>runC ⟨s2.tm,qcG (opd s1.tm k.m) s1.h s2.h⟩
       | some (e,s2)=>some (e,⟨s2.tm,qcG (opd s1.tm k.m) s1.h s2.h⟩)
       | none=>none).map (gcE s.h.length k.keep)) rfl (e,s') ?_ (es.length+1) es (G1.withBlk s1.h.length w1.heap.size) ⟨upd s1.tm (some k.it) (.ptr (some (s1.h.length,0))),ql9 (opd s1.tm k.m) s1.h⟩ _ (w1.alloc O) O (Nat.lt_succ_self _) ?_ ?_ hO hiter hall
     ·intro y s2 hF O' G2 e' a2 w2 hp2 hf2 hrel
      have hp3:=qrb hf1.inv (opd s1.tm k.m) hmq hp2
      have hf3:Fr E G2 n ⟨s2.tm,qcG (opd s1.tm k.m) s1.h s2.h⟩ a2 w2:=⟨hp3.inv,hf2.tmps,hf2.size,hf2.defers⟩
      obtain⟨⟨x3,s3⟩,hx3,hgc⟩:=Option.map_eq_some_iff.1 hF
      have hQ3:=qnE hf.inv hg hgc hQ
      have hp4:=hp1.trans hp3
      by_cases hn:y=.normal
      ·subst hn
       have he:e'=.normal:=hrel
       subst he
       exact hC Q G2 _ a2 w2 x3 s3 (hg.mono hp4.le) hf3 hx3 (hQ3.mono (s1:=⟨s2.tm,qcG (opd s1.tm k.m) s1.h s2.h⟩) hp4)
      ·have:(x3,s3)=(y,⟨s2.tm,qcG (opd s1.tm k.m) s1.h s2.h⟩):=by
        cases y<;>first | exact absurd rfl hn | (simp only[Option.some.injEq] at hx3;exact hx3.symm)
       injection this with q1 q2
       subst q1 q2
       exact qod (qgQ hrel hn) (hQ3 G2 e' a2 w2 hp4 hf3 hrel)
     ·refine⟨hi2,?_,by rw[qcw];exact hf1.size,by rw[qbR];exact hf1.defers⟩
      rw[h4]
      exact qcO (hf1.tmps.mono (qep hf1.inv w1.heap.size)) (fun q hq=>by rw[← Option.some.inj hq];exact hd) (Rep.ptr (off:=0) hblk)
     ·rw[qn5 _ _ _ hO]
      exact Post.refl hi2
   | _=>cases hr
end Go.Abs
