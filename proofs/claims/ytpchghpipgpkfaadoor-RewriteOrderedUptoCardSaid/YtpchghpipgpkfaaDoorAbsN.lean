/-
  Code and functions: what the abstract machine answers, the program answers. Conditions: none.
-/
import Derived.Test.YtpchghpipgpkfaaDoorAbsR
import Derived.Test.YtpchghpipgpkfaaDoorK
set_option linter.unusedVariables false
set_option linter.unusedSimpArgs false
namespace Go.Abs
variable {E:Env} {G:Ghost} {w:World}
def qqt (E:Env) (ops:Array Oper) (d:Bool):ACode:=if d then qyZ E ops else .ops (ops.toList.map (qfu E ops))
def qjY (E:Env) (l:List Step) (ops:Array Oper) (d:Bool):ACode :=
 if qxv l=true then (if d then qyv E (qyE l) ops else .ops (ops.toList.map (qaK E (qyE l) ops))) else qqt E ops d
def qrq (E:Env) (k:RangeK) (ops:Array Oper) (id:Nat) (r1:Array Oper) (c:Operand) (id2:Nat) (r2:Option (Array Oper)):Option RangeK :=
 match ops.toList.getLast?,r1.toList with
 | some o,x :: r1' =>
   match o.op,o.guard,o.dst,x.op,x.guard,x.dst with
   | .range t mo,none,some it,.next (.tmp it') str,none,some dn =>
     if it'=it∧qkb E t str=true then
      match r2 with
      | none=>some ⟨ops.toList.dropLast.map (qfu E ops),qcb E mo,it,dn,r1'.map (qfu E r1),qcb E c,id,id2,none,[],str,k.kr,k.keep⟩
      | some r2 =>
        match r2.toList with
        | y :: r2' =>
          match y.op,y.guard,y.dst with
          | .entry (.tmp it''),none,some de =>
            if it''=it∧str=false then some ⟨ops.toList.dropLast.map (qfu E ops),qcb E mo,it,dn,r1'.map (qfu E r1),qcb E c,id,id2,some de,r2'.map (qfu E r2),str,k.kr,k.keep⟩ else none
          | _,_,_=>none
        | []=>none
     else none
   | _,_,_,_,_,_=>none
 | _,_=>none
theorem qow {k k':RangeK} {ops r1:Array Oper} {id id2:Nat} {c:Operand} {r2:Option (Array Oper)} (h:qrq E k ops id r1 c id2 r2=some k') {n:Nat} (h0:qez n ops=true) (h1:qez n r1=true) (h2:∀ x,r2=some x→qez n x=true) :
  qBk E n k' ops∧qre E n k' r1 c∧qoi E n k' r2∧k'.id=id∧k'.id2=id2:=by
 unfold qrq at h
 split at h
 ·rename_i o x r1' hlast hr1
  have hpre:ops.toList=ops.toList.dropLast++[o]:=by
   obtain⟨ys,hys⟩:=List.getLast?_eq_some_iff.1 hlast
   rw[hys,List.dropLast_concat]
  split at h
  ·rename_i t mo it it' str dn ho1 ho2 ho3 hx1 hx2 hx3
   split at h
   ·rename_i hc
    obtain⟨rfl,hct⟩:=hc
    split at h
    ·injection h with h
     subst h
     exact⟨⟨_,o,t,mo,hpre,ho1,ho2,ho3,rfl,rfl,hct,h0⟩,⟨x,r1',hr1,hx1,hx2,hx3,rfl,rfl,h1⟩,⟨rfl,rfl⟩,rfl,rfl⟩
    ·rename_i r2
     split at h
     ·rename_i y r2' hr2
      split at h
      ·rename_i it'' de hy1 hy2 hy3
       split at h
       ·rename_i hc2
        obtain⟨rfl,hs⟩:=hc2
        injection h with h
        subst h
        exact⟨⟨_,o,t,mo,hpre,ho1,ho2,ho3,rfl,rfl,hct,h0⟩,⟨x,r1',hr1,hx1,hx2,hx3,rfl,rfl,h1⟩,⟨y,r2',de,hr2,hy1,hy2,hy3,rfl,rfl,h2 _ rfl,hs⟩,rfl,rfl⟩
       ·cases h
      ·cases h
     ·cases h
   ·cases h
  ·cases h
 ·cases h
def cG (E:Env):ACode→Code→ACode
 | .frame k x,c=>.frame k (cG E x c)
 | .freeze t x,c=>.freeze t (cG E x c)
 | .view x,c=>.view (cG E x c)
 | .range k b after,c =>
   match c with
   | .seq (.seq (.region _ ops false) (.block id (.loop (.seq (.region _ r1 false) (.seq (.cond cc .skip (.exit id')) (.block id2 body)))))) rest =>
     if id'=id then
      match k.de with
      | none=>(match qrq E k ops id r1 cc id2 none with | some k'=>.range k' (cG E b body) (cG E after rest) | none=>.stuck)
      | some _ =>
        (match body with
        | .seq (.region _ r2 false) bb=>(match qrq E k ops id r1 cc id2 (some r2) with | some k'=>.range k' (cG E b bb) (cG E after rest) | none=>.stuck)
        | _=>.stuck)
     else .stuck
   | _=>.stuck
 | .seq x y,c=>(match c with | .seq a b=>.seq (cG E x a) (cG E y b) | _=>.stuck)
 | .cond _ x y,c=>(match c with | .cond o a b=>.cond (qcb E o) (cG E x a) (cG E y b) | _=>.stuck)
 | .block _ x,c=>(match c with | .block id a=>.block id (cG E x a) | _=>.stuck)
 | .loop x,c=>(match c with | .loop a=>.loop (cG E x a) | _=>.stuck)
 | .gloop k x,c=>(match c with | .loop a=>.gloop k (cG E x a) | _=>.stuck)
 | .skip,c=>(match c with | .skip=>.skip | .label _=>.skip | _=>.stuck)
 | .exit _,c=>(match c with | .exit id=>.exit id | _=>.stuck)
 | .ret,c=>(match c with | .ret=>.ret | _=>.stuck)
 | .ops l,c=>(match c with | .region _ ops d=>qjY E l ops d | _=>.stuck)
 | .draw l _,c=>(match c with | .region _ ops d=>qjY E l ops d | _=>.stuck)
 | .mdraw k _ _,c=>(match c with | .region _ ops true=>.mdraw k (ops.toList.map (qfu E ops)) (ops.toList.map qbv) | _=>.stuck)
 | .kops _,c=>(match c with | .region _ ops false=>.kops (ops.toList.map (qfu E ops)) | _=>.stuck)
 | .stuck,_=>.stuck
def qaP (n:Nat):Code→Bool
 | .region _ ops _=>qez n ops
 | .seq a b | .cond _ a b=>qaP n a && qaP n b
 | .block _ c | .loop c=>qaP n c
 | _=>true
theorem qnx (hE:EnvOk E) {call:CallT} (hc:qbX E call) (pure:Nat→Bool) (n:Nat) (q:QM) (id:Nat) (ops:Array Oper) (hok:qez n ops=true) {s:St} {a:Act} {e:AExit} {s':St} (hg:GlobOk E G) (hf:Fr E G n s a w)
  (hd:qmx (ops.toList.map (qaK E q ops)) (ops.toList.map qbv)=true) {m:Nat} (hr:qaM pure call m (.draw (ops.toList.map (qaK E q ops)) (qfv (ops.toList.map (qaK E q ops)) (ops.toList.map qbv))) s=some (e,s')) {Q:Exit→Act→World→Prop} (hQ:Owed E G n s w e s' Q):(Code.region id ops true).wp E.P Q a w:=by
 rw[qaM] at hr
 unfold qhw at hr
 split at hr
 ·rename_i tmf H hfin hrun
  split at hr
  ·rename_i hck
   simp only[Option.some.injEq,Prod.mk.injEq] at hr
   obtain⟨rfl,rfl⟩:=hr
   refine wp_region_any hE.mixed ?_
   have h0:=qlq pure call (ops.toList.map (qaK E q ops)) H tmf hfin (ops.toList.map (qaK E q ops)) 0 s.tm [] s.h (fun j=>by rw[Nat.zero_add])
    (by
     have:cnt (ops.toList.map (qaK E q ops)).length (fun j=>qbf (ops.toList.map (qaK E q ops)) j && decide (j<0))=cnt (ops.toList.map (qaK E q ops)).length (fun _=>false):=qeu fun j _=>by simp
     rw[this]
     unfold cnt
     rw[List.filter_eq_nil_iff.2 (by simp)]
     rfl) hrun
   have hfalse:∀ j,(Array.replicate ops.size false).getD j false=false:=fun j=>by
    by_cases hj:j<ops.size<;>simp[Array.getD_eq_getD_getElem?,hj]
   refine qw8 hE hc pure n q ops Q hok hg (qum hd) hrun hck hQ ops.size (Array.replicate ops.size false) a w.drew G s.h (by simp) (fun i ns _ hi=>by rw[hfalse] at hi;cases hi) ?_ ?_ (Post.drew hf.inv) ?_ hf.size hf.defers
   ·refine Nat.le_trans (List.length_filter_le _ _) ?_
    simp
   ·have:cnt ops.size (fun j=>qbf (ops.toList.map (qaK E q ops)) j && (Array.replicate ops.size false).getD j false)=0:=by
     unfold cnt
     rw[List.filter_eq_nil_iff.2 (fun j _=>by rw[hfalse];simp)]
     rfl
    rw[this]
    exact h0.2.1
   ·have:tmS (ops.toList.map (qaK E q ops)) tmf s.tm (fun i=>(Array.replicate ops.size false).getD i false)=s.tm:=by
     funext t
     exact qgF (fun ⟨i,h1,_⟩=>by rw[hfalse] at h1;cases h1)
    rw[this]
    exact hf.tmps
  ·cases hr
 ·cases hr
theorem qza (hE:EnvOk E) {call:CallT} (hc:qbX E call) (pure:Nat→Bool) (n:Nat) (id:Nat) (ops:Array Oper) (hok:qez n ops=true) {s:St} {a:Act} {e:AExit} {s':St} (hg:GlobOk E G) (hf:Fr E G n s a w)
  {m:Nat} (hr:qaM pure call m (qyZ E ops) s=some (e,s')) {Q:Exit→Act→World→Prop} (hQ:Owed E G n s w e s' Q):(Code.region id ops true).wp E.P Q a w:=by
 unfold qyZ at hr
 split at hr
 ·rename_i hd
  exact qnx hE hc pure n .std id ops hok hg hf hd hr hQ
 ·split at hr
  ·rename_i hd
   exact qnx hE hc pure n .qt id ops hok hg hf hd hr hQ
  ·rw[qaM] at hr
   cases hr
theorem qtg {ops:Array Oper} {S:List Bool} {listed:Array Bool} (hsz:listed.size=ops.size) (hS:∀ i,S.getD i false=listed.getD i false) {i:Nat}:i∈Region.ready .any ops listed↔i∈qpz (ops.toList.map qbv) S:=by
 rw[qgw hsz]
 unfold qpz
 simp only[List.mem_filter,List.mem_range,List.length_map,Array.length_toList,Bool.and_eq_true,Bool.not_eq_true',List.all_eq_true]
 constructor
 ·rintro ⟨o,ho,h1,h2⟩
  have hi:i<ops.size:=(Array.getElem?_eq_some_iff.1 ho).1
  refine⟨hi,by rw[hS];exact h1,fun j hj=>?_⟩
  rw[hS]
  refine h2 j ?_
  rw[List.getD_eq_getElem?_getD,qck ops ho] at hj
  exact hj
 ·rintro ⟨h0,h1,h2⟩
  have ho:ops[i]? = some ops[i]:=Array.getElem?_eq_getElem h0
  refine⟨ops[i],ho,by rw[← hS];exact h1,fun j hj=>?_⟩
  rw[← hS]
  refine h2 j ?_
  rw[List.getD_eq_getElem?_getD,qck ops ho]
  exact hj
theorem qBA {ops:Array Oper}:∀ (fuel t:Nat) (listed:Array Bool) (S:List Bool),listed.size=ops.size→S.length=ops.size→(∀ i,S.getD i false=listed.getD i false) →
  Region.linearise.go .any ops fuel t listed []∈qja (ops.toList.map qbv) fuel S:=by
 intro fuel
 induction fuel with
 | zero=>intro t listed S _ _ _;simp[Region.linearise.go,qja]
 | succ fuel ih =>
   intro t listed S hsz hSl hS
   have hmem:=fun i=>qtg (S:=S) hsz hS (i:=i)
   simp only[Region.linearise.go,qja]
   change (match (Region.ready .any ops listed)[t % (Region.ready .any ops listed).length]? with
    | some i=>Region.linearise.go .any ops fuel (t / (Region.ready .any ops listed).length) (listed.setIfInBounds i true) [i]
    | none=>[].reverse)∈_
   cases hi:(Region.ready .any ops listed)[t % (Region.ready .any ops listed).length]? with
   | none =>
     have hnil:Region.ready .any ops listed=[]:=by
      cases hr:Region.ready .any ops listed with
      | nil=>rfl
      | cons x xs =>
        rw[hr] at hi
        have hlt:t % (x::xs).length<(x::xs).length:=Nat.mod_lt _ (by simp)
        simp at hi
        simp at hlt
        omega
     have hnil2:qpz (ops.toList.map qbv) S=[]:=List.eq_nil_iff_forall_not_mem.2 fun i hi=>by
      have:=(hmem i).2 hi
      rw[hnil] at this
      cases this
     rw[hnil2]
     simp
   | some i =>
     have hir:=List.mem_of_getElem? hi
     have hil:=(hmem i).1 hir
     have hlt:i<ops.size:=by
      obtain⟨o,ho,_⟩:=(qgw hsz).1 hir
      exact (Array.getElem?_eq_some_iff.1 ho).1
     dsimp only
     rw[linearise_go_acc,List.reverse_singleton,List.singleton_append]
     rw[if_neg (by
      intro hx
      rw[List.isEmpty_iff] at hx
      rw[hx] at hil
      cases hil)]
     refine List.mem_flatMap.2 ⟨i,hil,List.mem_map.2 ⟨_,ih _ (listed.setIfInBounds i true) (S.set i true) (by simp[hsz]) (by simp[hSl]) (fun j=>?_),rfl⟩⟩
     by_cases hji:j=i
     ·subst hji
      simp[List.getD_eq_getElem?_getD,Array.getD_eq_getD_getElem?,hSl,hsz,hlt]
     ·have:=hS j
      simp only[List.getD_eq_getElem?_getD,Array.getD_eq_getD_getElem?] at this ⊢
      rw[List.getElem?_set_ne (Ne.symm hji),Array.getElem?_setIfInBounds_ne (Ne.symm hji)]
      exact this
theorem qnh {P:Program} {ops:Array Oper} {Q:Exit→Act→World→Prop}:∀ (is:List Nat),wpOps P ops Q is=wpList P ops Q (is.filterMap (ops[·]?))
 | []=>rfl
 | i :: is => by
   funext a w
   have ih:=qnh (P:=P) (ops:=ops) (Q:=Q) is
   rw[List.filterMap_cons]
   cases ho:ops[i]? with
   | none=>simp only[wpOps,ho,ih]
   | some o=>simp only[wpOps,wpList,ho,ih]
theorem qxI (hE:EnvOk E) (n:Nat) {id:Nat} {ops:Array Oper} (hok:qez n ops=true) {kp:List Nat} {Q:Exit→Act→World→Prop} {G:Ghost} {s:St} {a:Act} {w:World} {e:AExit} {s':St} (hg:GlobOk E G) (hf:Fr E G n s a w)
  (hr:qwH kp (ops.toList.map (qfu E ops)) (ops.toList.map qbv) s=some (e,s')) (hQ:Owed E G n s w e s' Q):(Code.region id ops true).wp E.P Q a w:=by
 unfold qwH at hr
 split at hr
 case isFalse=>cases hr
 rename_i hex
 injection hr with hr
 have hall:=Classical.choose_spec hex
 rw[hr] at hall
 refine wp_region_draw fun t=>?_
 simp only[Region.schedule,hE.mixed,Bool.true_or,if_true]
 have hmem:=qBA (ops:=ops) ops.size t (Array.replicate ops.size false) (List.replicate ops.size false) (by simp) (by simp) (fun i=>by
  by_cases hi:i<ops.size<;>simp[List.getD_eq_getElem?_getD,Array.getD_eq_getD_getElem?,hi])
 show wpOps E.P ops Q (Region.linearise.go .any ops ops.size t (Array.replicate ops.size false) []) a _
 generalize Region.linearise.go .any ops ops.size t (Array.replicate ops.size false) []=is at hmem ⊢
 have h1:=hall (is.filterMap ((ops.toList.map (qfu E ops))[·]?) ) (List.mem_map.2 ⟨is,by simpa using hmem,rfl⟩)
 obtain⟨⟨e1,s1⟩,hx,hgc⟩:=Option.map_eq_some_iff.1 h1
 have hl:is.filterMap ((ops.toList.map (qfu E ops))[·]?)=(is.filterMap (ops[·]?)).map (qfu E ops):=by
  rw[List.map_filterMap]
  congr 1
  funext i
  rw[List.getElem?_map,Array.getElem?_toList]
 rw[hl] at hx
 rw[qnh]
 have hnc:qbX E qfd:=by
  intro G h w f k args vs r h' _ hr
  cases hr
 refine qlr hE hnc (fun _=>false) n ops Q (is.filterMap (ops[·]?)) (fun o ho=>?_) hok G s a _ e1 s1 hg ⟨hf.inv.drew,hf.tmps,hf.size,hf.defers⟩ hx ((qnE hf.inv hg hgc hQ).mono (s1:=s) (Post.drew hf.inv))
 obtain⟨i,_,hi⟩:=List.mem_filterMap.1 ho
 exact by simpa using Array.mem_of_getElem? hi
theorem qvH (hE:EnvOk E) {call:CallT} (hc:qbX E call) (pure:Nat→Bool) (m n:Nat) {id:Nat} {ops:Array Oper} {d:Bool}
  (hok:qaP n (.region id ops d)=true) {Q:Exit→Act→World→Prop} {G:Ghost} {s:St} {a:Act} {w:World} {e:AExit} {s':St} (hg:GlobOk E G) (hf:Fr E G n s a w)
  (hr:qaM pure call m (qqt E ops d) s=some (e,s')) (hQ:Owed E G n s w e s' Q):(Code.region id ops d).wp E.P Q a w:=by
 simp only[qaP] at hok
 simp only[qqt] at hr
 cases d with
 | true=>exact qza hE hc pure n id ops hok hg hf hr hQ
 | false =>
   simp only[Bool.false_eq_true,if_false,qaM] at hr
   exact wp_region_list (qlr hE hc pure n ops Q ops.toList (fun _ h=>h) hok G s a w e s' hg hf hr hQ)
theorem qpd (n:Nat) (c:Code) (body:St→Option (AExit × St)) (g:St→St) {G0:Ghost} {s0:St} {w0:World} (hi0:Inv E G0 s0.h w0) (hgs:(∀ s,g s=s)∨∃ kp,∀ s,g s=gc s0.h.length kp s) {e:AExit} {s':St} {Q:Exit→Act→World→Prop} (hQ0:Owed E G0 n s0 w0 e s' Q)
  (ih:∀ (Q:Exit→Act→World→Prop) (G:Ghost) (s:St) (a:Act) (w:World) (e:AExit) (s':St),GlobOk E G→Fr E G n s a w→body s=some (e,s')→Owed E G n s w e s' Q→c.wp E.P Q a w) :
  ∀ (k:Nat) (G:Ghost) (s:St) (a:Act) (w:World),GlobOk E G→Fr E G n s a w→Post E G0 s0.h w0 G s.h w →
   qdZ (fun s1=>body (g s1)) k s=some (e,s')→Code.rounds E.P c Q k a w:=by
 intro k
 induction k with
 | zero=>intro G s a w _ _ _ h;cases h
 | succ k ihk =>
   intro G s a w hg hf hp hr
   rw[rounds_succ]
   rw[qdZ] at hr
   obtain⟨G1,s1,hs1,hp1,hf1,hg1⟩:∃ G1 s1,g s=s1∧Post E G0 s0.h w0 G1 s1.h w∧Fr E G1 n s1 a w∧GlobOk E G1:=by
    rcases hgs with hgs | ⟨kp,hgs⟩
    ·exact⟨G,s,hgs s,hp,hf,hg⟩
    ·obtain⟨G',h1,h2,h3⟩:=quJ hi0 hf hp hg kp
     exact⟨G',_,hgs s,h1,h2,h3⟩
   rw[hs1] at hr
   cases hx:body s1 with
   | none=>rw[hx] at hr;cases hr
   | some r =>
     obtain⟨e1,s2⟩:=r
     rw[hx] at hr
     refine ih _ G1 s1 a w e1 s2 hg1 hf1 hx fun G' e' a' w' hp' hf' hrel=>?_
     by_cases hn:e1=.normal
     ·subst hn
      have he:e'=.normal:=hrel
      subst he
      exact ihk G' s2 a' w' (hg1.mono hp'.le) hf' (hp1.trans hp') hr
     ·have:(e,s')=(e1,s2):=by
       cases e1<;>first | exact absurd rfl hn | (simp only[Option.some.injEq] at hr;exact hr.symm)
      injection this with h1 h2
      subst h1 h2
      exact qod (qgQ hrel hn) (hQ0 G' e' a' w' (hp1.trans hp') hf' hrel)
theorem qm3 (hE:EnvOk E) {call:CallT} (hc:qbX E call) (pure:Nat→Bool) (m n:Nat) {id:Nat} {ops:Array Oper} {d:Bool} {l:List Step} (hok:qaP n (.region id ops d)=true) {Q:Exit→Act→World→Prop} {s:St} {a:Act} {e:AExit} {s':St} (hg:GlobOk E G) (hf:Fr E G n s a w)
  (hr:qaM pure call m (qjY E l ops d) s=some (e,s')) (hQ:Owed E G n s w e s' Q):(Code.region id ops d).wp E.P Q a w:=by
 unfold qjY at hr
 split at hr
 ·simp only[qaP] at hok
  cases d with
  | true =>
    simp only[if_true] at hr
    unfold qyv at hr
    split at hr
    ·rename_i hd
     exact qnx hE hc pure n _ id ops hok hg hf hd hr hQ
    ·rw[qaM] at hr
     cases hr
  | false =>
    simp only[Bool.false_eq_true,if_false,qaM] at hr
    exact wp_region_list (qqU hE hc pure n _ ops Q ops.toList (fun _ h=>h) hok G s a w e s' hg hf hr hQ)
 ·exact qvH hE hc pure m n hok hg hf hr hQ
theorem qy5 (hE:EnvOk E) {call:CallT} (hc:qbX E call) (pure:Nat→Bool) (m n:Nat):∀ (ac:ACode) (c:Code),cG E ac c=ac→qaP n c=true→∀ (Q:Exit→Act→World→Prop) (G:Ghost) (s:St) (a:Act) (w:World) (e:AExit) (s':St),GlobOk E G→Fr E G n s a w →
  qaM pure call m ac s=some (e,s')→Owed E G n s w e s' Q→c.wp E.P Q a w:=by
 intro ac
 induction ac with
 | frame k x ih =>
   intro c h hok Q G s a w e s' hg hf hr hQ
   rw[qaM] at hr
   obtain⟨⟨e1,s1⟩,hx,hr⟩:=Option.map_eq_some_iff.1 hr
   exact ih c (by simpa only[cG,ACode.frame.injEq,true_and] using h) hok Q G s a w e1 s1 hg hf hx (qnE hf.inv hg hr hQ)
 | freeze t x ih =>
   intro c h hok Q G s a w e s' hg hf hr hQ
   rw[qaM] at hr
   obtain⟨G1,h1,h2⟩:=quI hf hg t
   exact ih c (by simpa only[cG,ACode.freeze.injEq,true_and] using h) hok Q G1 _ a w e s' (hg.mono h1.le) h2 hr (hQ.mono h1)
 | view x ih =>
   intro c h hok Q G s a w e s' hg hf hr hQ
   rw[qaM] at hr
   have h1:=qlV hf.inv
   exact ih c (by simpa only[cG,ACode.view.injEq] using h) hok Q (qdn G s.h w) (qp1 s) a w e s' (hg.mono h1.le) ⟨h1.inv,fun i=>(hf.tmps i).viewV hf.inv,hf.size,hf.defers⟩ hr (hQ.mono (s1:=qp1 s) h1)
 | range k b after ihb ihc =>
   intro c h hok Q G s a w e s' hg hf hr hQ
   simp only[cG] at h
   split at h
   case h_2=>cases h
   rename_i i0 ops id i1 r1 cc id' id2 body rest
   split at h
   case isFalse=>cases h
   rename_i hid
   subst hid
   simp only[qaM] at hr
   simp only[qaP,Bool.and_eq_true,Bool.true_and] at hok
   obtain⟨⟨ho0,ho1,ho2⟩,ho3⟩:=hok
   split at h
   ·split at h
    case h_2=>cases h
    rename_i hk
    injection h with h1 h2 h3
    subst h1
    obtain⟨p1,p2,p3,p4,p5⟩:=qow hk ho0 ho1 (fun x hx=>by cases hx)
    have:=qsa hE hc pure n _ ops r1 cc none i0 i1 0 p1 p2 p3 (B:=body) (REST:=rest) (fun Q G s a w e s'=>ihb body h2 (by simpa using ho2) Q G s a w e s') (fun Q G s a w e s'=>ihc rest h3 ho3 Q G s a w e s') hg hf hr hQ
    rw[p4,p5] at this
    exact this
   ·split at h
    case h_2=>cases h
    rename_i j r2 bb
    split at h
    case h_2=>cases h
    rename_i hk
    injection h with h1 h2 h3
    subst h1
    simp only[qaP,Bool.and_eq_true] at ho2
    obtain⟨p1,p2,p3,p4,p5⟩:=qow hk ho0 ho1 (fun x hx=>by injection hx with hx;rw[← hx];exact ho2.1)
    have:=qsa hE hc pure n _ ops r1 cc (some r2) i0 i1 j p1 p2 p3 (B:=bb) (REST:=rest) (fun Q G s a w e s'=>ihb bb h2 ho2.2 Q G s a w e s') (fun Q G s a w e s'=>ihc rest h3 ho3 Q G s a w e s') hg hf hr hQ
    rw[p4,p5] at this
    exact this
 | skip =>
   intro c h hok Q G s a w e s' hg hf hr hQ
   cases c with
   | skip =>
     simp only[qaM,Option.some.injEq,Prod.mk.injEq] at hr
     obtain⟨rfl,rfl⟩:=hr
     exact wp_skip (hQ G .normal a w (Post.refl hf.inv) hf rfl)
   | label l =>
     simp only[qaM,Option.some.injEq,Prod.mk.injEq] at hr
     obtain⟨rfl,rfl⟩:=hr
     exact wp_label (hQ G .normal a w (Post.refl hf.inv) hf rfl)
   | _=>simp[cG] at h
 | ops l =>
   intro c h hok Q G s a w e s' hg hf hr hQ
   cases c with
   | region id ops d =>
     simp only[cG] at h
     rw[← h] at hr
     exact qm3 hE hc pure m n hok hg hf hr hQ
   | _=>simp[cG] at h
 | mdraw kp l ns =>
   intro c h hok Q G s a w e s' hg hf hr hQ
   cases c with
   | region id ops d =>
     cases d with
     | false=>simp[cG] at h
     | true =>
       simp only[cG,ACode.mdraw.injEq,true_and] at h
       obtain⟨rfl,rfl⟩:=h
       simp only[qaP] at hok
       simp only[qaM] at hr
       exact qxI hE n hok hg hf hr hQ
   | _=>simp[cG] at h
 | kops l =>
   intro c h hok Q G s a w e s' hg hf hr hQ
   cases c with
   | region id ops d =>
     cases d with
     | true=>simp[cG] at h
     | false =>
       simp only[cG] at h
       rw[← h] at hr
       simp only[qaP] at hok
       simp only[qaM] at hr
       exact wp_region_list (qqT hE hc pure n ops Q ops.toList (fun _ h=>h) hok G s a w e s' hg hf hr hQ)
   | _=>simp[cG] at h
 | draw l cs =>
   intro c h hok Q G s a w e s' hg hf hr hQ
   cases c with
   | region id ops d =>
     simp only[cG] at h
     rw[← h] at hr
     exact qm3 hE hc pure m n hok hg hf hr hQ
   | _=>simp[cG] at h
 | seq x y ihx ihy =>
   intro c h hok Q G s a w e s' hg hf hr hQ
   cases c with
   | seq cx cy =>
     simp only[cG,ACode.seq.injEq] at h
     simp only[qaP,Bool.and_eq_true] at hok
     simp only[qaM] at hr
     cases hx:qaM pure call m x s with
     | none=>rw[hx] at hr;cases hr
     | some r =>
       obtain⟨e1,s1⟩:=r
       rw[hx] at hr
       refine wp_seq (ihx cx h.1 hok.1 _ G s a w e1 s1 hg hf hx fun G' e' a' w' hp hf' hrel=>?_)
       by_cases hn:e1=.normal
       ·subst hn
        have he:e'=.normal:=hrel
        subst he
        exact ihy cy h.2 hok.2 Q G' s1 a' w' e s' (hg.mono hp.le) hf' hr (hQ.mono hp)
       ·have:(e,s')=(e1,s1):=by
         cases e1<;>first | exact absurd rfl hn | (simp only[Option.some.injEq] at hr;exact hr.symm)
        injection this with h1 h2
        subst h1 h2
        exact qod (qgQ hrel hn) (hQ G' e' a' w' hp hf' hrel)
   | _=>simp[cG] at h
 | cond o x y ihx ihy =>
   intro c h hok Q G s a w e s' hg hf hr hQ
   cases c with
   | cond co cx cy =>
     simp only[cG,ACode.cond.injEq] at h
     obtain⟨rfl,h1,h2⟩:=h
     simp only[qaP,Bool.and_eq_true] at hok
     simp only[qaM] at hr
     split at hr
     ·rename_i t ht
      have hb:=qeA hg hf.tmps co
      rw[ht] at hb
      have hcv:a.eval co=.bool t:=by
       generalize a.eval co=v at hb
       cases hb
       rfl
      refine wp_cond hcv ?_
      cases t with
      | true=>exact ihx cx h1 hok.1 Q G s a w e s' hg hf hr hQ
      | false=>exact ihy cy h2 hok.2 Q G s a w e s' hg hf hr hQ
     ·cases hr
   | _=>simp[cG] at h
 | block id x ih =>
   intro c h hok Q G s a w e s' hg hf hr hQ
   cases c with
   | block id' cx =>
     simp only[cG,ACode.block.injEq] at h
     obtain⟨rfl,h⟩:=h
     simp only[qaP] at hok
     simp only[qaM] at hr
     cases hx:qaM pure call m x s with
     | none=>rw[hx] at hr;cases hr
     | some r =>
       obtain⟨e1,s1⟩:=r
       rw[hx] at hr
       refine wp_block (ih cx h hok _ G s a w e1 s1 hg hf hx fun G' e' a' w' hp hf' hrel=>?_)
       cases e1 with
       | exit id' =>
         have he:e'=.exit id':=hrel
         subst he
         simp only[Exit.inBlock]
         dsimp only at hr
         split at hr
         ·rename_i hid
          rw[if_pos hid]
          simp only[Option.some.injEq,Prod.mk.injEq] at hr
          obtain⟨rfl,rfl⟩:=hr
          exact hQ G' .normal a' w' hp hf' rfl
         ·rename_i hid
          rw[if_neg hid]
          simp only[Option.some.injEq,Prod.mk.injEq] at hr
          obtain⟨rfl,rfl⟩:=hr
          exact hQ G' _ a' w' hp hf' rfl
       | normal =>
         simp only[Option.some.injEq,Prod.mk.injEq] at hr
         obtain⟨rfl,rfl⟩:=hr
         have he:e'=.normal:=hrel
         subst he
         exact hQ G' _ a' w' hp hf' rfl
       | ret =>
         simp only[Option.some.injEq,Prod.mk.injEq] at hr
         obtain⟨rfl,rfl⟩:=hr
         have he:e'=.ret:=hrel
         subst he
         exact hQ G' _ a' w' hp hf' rfl
       | panic v =>
         simp only[Option.some.injEq,Prod.mk.injEq] at hr
         obtain⟨rfl,rfl⟩:=hr
         obtain⟨x,rfl,hv⟩:=hrel
         exact hQ G' _ a' w' hp hf' ⟨x,rfl,hv⟩
   | _=>simp[cG] at h
 | loop x ih =>
   intro c h hok Q G s a w e s' hg hf hr hQ
   cases c with
   | loop cx =>
     simp only[cG,ACode.loop.injEq,ACode.gloop.injEq,true_and] at h
     simp only[qaP] at hok
     simp only[qaM] at hr
     exact wp_loop_rounds m (qpd n cx (qaM pure call m x) (fun s=>s) hf.inv (.inl fun _=>rfl) hQ (ih cx h hok) m G s a w hg hf (Post.refl hf.inv) hr)
   | _=>simp[cG] at h
 | gloop kp x ih =>
   intro c h hok Q G s a w e s' hg hf hr hQ
   cases c with
   | loop cx =>
     simp only[cG,ACode.loop.injEq,ACode.gloop.injEq,true_and] at h
     simp only[qaP] at hok
     simp only[qaM] at hr
     exact wp_loop_rounds m (qpd n cx (qaM pure call m x) (fun s1=>gc s.h.length kp s1) hf.inv (.inr ⟨kp,fun _=>rfl⟩) hQ (ih cx h hok) m G s a w hg hf (Post.refl hf.inv) hr)
   | _=>simp[cG] at h
 | exit id =>
   intro c h hok Q G s a w e s' hg hf hr hQ
   cases c with
   | exit id' =>
     simp only[cG,ACode.exit.injEq] at h
     subst h
     simp only[qaM,Option.some.injEq,Prod.mk.injEq] at hr
     obtain⟨rfl,rfl⟩:=hr
     exact wp_exit (hQ G _ a w (Post.refl hf.inv) hf rfl)
   | _=>simp[cG] at h
 | ret =>
   intro c h hok Q G s a w e s' hg hf hr hQ
   cases c with
   | ret =>
     simp only[qaM,Option.some.injEq,Prod.mk.injEq] at hr
     obtain⟨rfl,rfl⟩:=hr
     exact wp_ret (hQ G _ a w (Post.refl hf.inv) hf rfl)
   | _=>simp[cG] at h
 | stuck =>
   intro c h hok Q G s a w e s' hg hf hr hQ
   simp only[qaM] at hr
   cases hr
def qgh (E:Env):ResultVar→ARVar
 | .tmp t=>.tmp t
 | .cell a t =>
   match E.P.underlying t,E.P.info? t with
   | some d,some i=>if qf3 d=true then .cellN i.size a else .cell1 a
   | _,_=>.bad
def cFn (E:Env) (fn:Func) (ac:ACode) (c:Code):AFn:={ results:=fn.results.toList.map (qgh E),body:=cG E ac c }
theorem qtl {n:Nat} {s:St} {a:Act} (hf:Fr E G n s a w) (r:ResultVar) {v:AVal} (hr:qae s.tm s.h (qgh E r)=some v) :
  ∃ x,((match r with
   | .tmp t=>Pure.pure (a.tmps.getD t undef)
   | .cell b t=>do loadVar t (← asAddr (a.tmps.getD b undef)):Sem Value)).run E.P w=.ok x w∧Rep E G v x:=by
 cases r with
 | tmp t =>
   simp only[qgh,qae,Option.some.injEq] at hr
   subst hr
   exact⟨_,rfl,hf.tmps t⟩
 | cell b t =>
   simp only[qgh] at hr
   split at hr
   ·rename_i d i hd hi
    split at hr
    ·rename_i ha
     simp only[qae] at hr
     obtain⟨cs,hc,rfl⟩:=Option.map_eq_some_iff.1 hr
     obtain⟨v,h1,h2⟩:=qpc hf.inv (hf.tmps b) hd hi ha hc
     obtain⟨bb,o,vs,hx,_⟩:=qjJ hf.inv (hf.tmps b) hc
     refine⟨v,?_,h2⟩
     simp only[hx] at h1 ⊢
     simpa[asAddr,Instr.loadAt,Instr.sureAddr] using h1
    ·rename_i ha
     simp only[qae] at hr
     obtain⟨v',h1,h2⟩:=qpb hf.inv (hf.tmps b) hd (by simpa using ha) hr
     obtain⟨bb,o,vv,hx,_⟩:=qlb hf.inv (hf.tmps b) hr
     refine⟨v',?_,h2⟩
     simp only[hx] at h1 ⊢
     simpa[asAddr,Instr.loadAt,Instr.sureAddr] using h1
   ·simp only[qae] at hr
    cases hr
theorem qlF {n:Nat} {s:St} {a:Act} (hf:Fr E G n s a w):∀ (rs:List ResultVar) {vs:List AVal},qac s.tm s.h (rs.map (qgh E))=some vs →
  ∃ xs,(rs.mapM fun r=>(match r with
   | .tmp t=>Pure.pure (a.tmps.getD t undef)
   | .cell b t=>do loadVar t (← asAddr (a.tmps.getD b undef)):Sem Value)).run E.P w=.ok xs w∧RepL E G vs xs
 | [],vs,hr => by
   simp only[List.map_nil,qac,Option.some.injEq] at hr
   subst hr
   exact⟨[],rfl,.nil⟩
 | r :: rs,vs,hr => by
   simp only[List.map_cons,qac] at hr
   split at hr
   ·rename_i v vs' h1 h2
    injection hr with hr
    subst hr
    obtain⟨x,g1,g2⟩:=qtl hf r h1
    obtain⟨xs,g3,g4⟩:=qlF hf rs h2
    refine⟨x::xs,?_,.cons g2 g4⟩
    rw[List.mapM_cons,Sem.run_bind,g1,Result.andThen_ok,Sem.run_bind,g3]
    rfl
   ·cases hr
theorem qnA {n:Nat} {s:St} {a:Act} (hf:Fr E G n s a w) (fn:Func) {vs:List AVal} (hr:qac s.tm s.h (fn.results.toList.map (qgh E))=some vs) :
  ∃ x,(results fn a.tmps).run E.P w=.ok x w∧Rep E G (qaj vs) x:=by
 obtain⟨xs,h1,h2⟩:=qlF hf fn.results.toList hr
 have hm:(fn.results.mapM fun r=>(match r with
   | .tmp t=>Pure.pure (a.tmps.getD t undef)
   | .cell b t=>do loadVar t (← asAddr (a.tmps.getD b undef)):Sem Value)).run E.P w=.ok xs.toArray w:=by
  rw[Array.mapM_eq_mapM_toList,Sem.run_map,h1]
  rfl
 refine⟨if h:xs.toArray.size=1 then xs.toArray[0] else .tuple xs.toArray,?_,?_⟩
 ·unfold results
  rw[Sem.run_bind]
  refine (congrArg (fun q:Result (Array Value)=>q.andThen _) hm).trans ?_
  rfl
 ·cases vs with
  | nil =>
    have:xs=[]:=List.eq_nil_of_length_eq_zero h2.len
    subst this
    exact .tupleL .nil
  | cons v vs =>
    cases vs with
    | nil =>
      obtain⟨x,hx,hv⟩:=h2.get (i:=0) rfl
      have hl:xs.length=1:=h2.len
      have hxs:xs=[x]:=by
       cases xs with
       | nil=>simp at hl
       | cons y ys =>
         cases ys with
         | nil=>simpa using hx
         | cons z zs=>simp at hl
      subst hxs
      exact hv
    | cons v2 vs =>
      have hl:xs.length=vs.length+2:=h2.len
      have hne:¬ xs.toArray.size=1:=by simp[hl]
      rw[dif_neg hne]
      exact .tupleL h2
theorem qvI {args:List AVal} {vs:Array Value} (ha:RepL E G args vs.toList) (n:Nat):RelT E G (qew args) { tmps:=vs++Array.replicate (n-vs.size) undef,defers:=[] }:=by
 intro t
 unfold qew
 have hsz:vs.size=args.length:=by have:=ha.len;simpa using this
 by_cases ht:t<args.length
 ·have h1:args[t]? = some args[t]:=List.getElem?_eq_getElem ht
  obtain⟨x,hx,hv⟩:=ha.get h1
  have hx':vs[t]? = some x:=by simpa using hx
  rw[h1,Option.getD_some]
  have:(vs++Array.replicate (n-vs.size) undef).getD t undef=x:=by
   rw[Array.getD_eq_getD_getElem?,Array.getElem?_append_left (by omega),hx']
   rfl
  rw[this]
  exact hv
 ·rw[List.getElem?_eq_none (by omega),Option.getD_none]
  have:(vs++Array.replicate (n-vs.size) undef).getD t undef=undef:=by
   rw[Array.getD_eq_getD_getElem?,Array.getElem?_append_right (by omega)]
   by_cases h2:t-vs.size<n-vs.size
   ·simp[h2]
   ·simp[h2]
  rw[this]
  exact qfl
def qrf (E:Env) (f:FuncId) (s:List AVal→Heap→Option (ARes × Heap)):Prop :=
 ∀ (G:Ghost) (h:Heap) (w:World) (args:List AVal) (vs:Array Value) (r:ARes) (h':Heap),s args h=some (r,h') →
  RepL E G args vs.toList→Inv E G h w→GlobOk E G→Calls E.P f vs w fun e w'=>∃ G',Post E G h w G' h' w'∧qtC E G' r e
structure FnOk (E:Env) (L:Lib) (f:FuncId) (k:Nat):Prop where
 ok:(∃ s,L.summ k=some s∧qrf E f s)∨(L.summ k=none∧∃ fn c,E.P.funcs[f]? = some fn∧fn.body=some c∧qaP fn.ntmps c=true∧∃ ac,cG E ac c=ac∧L.fns k=some ⟨fn.results.toList.map (qgh E),ac⟩)
theorem qwX (hE:EnvOk E) (L:Lib) (hL:∀ f k,E.fm f=some k→FnOk E L f k):∀ n,qbX E (qca L n):=by
 intro n
 induction n with
 | zero=>intro G h w f k args vs r h' _ hr;cases hr
 | succ n ih =>
   intro G h w f k args vs r h' hk hr ha hi hg
   rcases (hL f k hk).ok with ⟨s,hs,hso⟩ | ⟨hs,fn,c,hfn,hb,hok,ac,hac,hfns⟩
   ·rw[qca,hs] at hr
    exact hso G h w args vs r h' hr ha hi hg
   ·rw[qca,hs] at hr
    dsimp only at hr
    rw[hfns] at hr
    dsimp only at hr
    refine calls_of_wp hfn hb ?_
    have hf0:Fr E G fn.ntmps ⟨qew args,h⟩ { tmps:=vs++Array.replicate (fn.ntmps-vs.size) undef,defers:=[] } w:=⟨hi,qvI ha _,by simp;omega,rfl⟩
    cases hx:qaM L.pure (qca L n) n ac ⟨qew args,h⟩ with
    | none=>rw[hx] at hr;cases hr
    | some q =>
      obtain⟨e,s'⟩:=q
      rw[hx] at hr
      refine qy5 hE ih L.pure n fn.ntmps ac c hac hok _ G _ _ w e s' hg hf0 hx fun G' e' a' w' hp hf' hrel=>?_
      have hret:∀ vs',qac s'.tm s'.h (fn.results.toList.map (qgh E))=some vs'→r=.val (qaj vs')→h'=s'.h→a'.defers=[]∧∃ v,(results fn a'.tmps).run E.P w'=.ok v w'∧∃ G',Post E G h w G' h' w'∧qtC E G' r (.returned v):=by
       intro vs' h1 h2 h3
       subst h2 h3
       obtain⟨x,g1,g2⟩:=qnA hf' fn h1
       exact⟨hf'.defers,x,g1,G',hp,x,rfl,g2⟩
      cases e with
      | normal =>
        have he:e'=.normal:=hrel
        subst he
        simp only[qan] at hr
        split at hr
        ·rename_i vs' h1
         simp only[Option.some.injEq,Prod.mk.injEq] at hr
         exact hret vs' h1 hr.1.symm hr.2.symm
        ·cases hr
      | ret =>
        have he:e'=.ret:=hrel
        subst he
        simp only[qan] at hr
        split at hr
        ·rename_i vs' h1
         simp only[Option.some.injEq,Prod.mk.injEq] at hr
         exact hret vs' h1 hr.1.symm hr.2.symm
        ·cases hr
      | panic v =>
        obtain⟨x,rfl,hv⟩:=hrel
        simp only[qan,Option.some.injEq,Prod.mk.injEq] at hr
        obtain⟨rfl,rfl⟩:=hr
        exact⟨hf'.defers,G',hp,x,rfl,hv⟩
      | exit id=>simp only[qan] at hr;cases hr
theorem qy3 (hE:EnvOk E) (L:Lib) (hL:∀ f k,E.fm f=some k→FnOk E L f k):qbX E (call L):=by
 intro G h w f k args vs r h' hk hr ha hi hg
 obtain⟨n,hn⟩:=qdM.1 hr
 exact qwX hE L hL n G h w f k args vs r h' hk hn ha hi hg
end Go.Abs
