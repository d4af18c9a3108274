/-
  PARTS OF A PROOF, joined: an abstract machine for quiet code, its evaluation, and what the seat's functions answer on it. Conditions: none.
-/
import Derived.Test.YtjbgooldkkbdmaaDoorHF
import Derived.Test.YtjbgooldkkbdmaaDoorD
set_option linter.unusedVariables false
set_option linter.unusedSimpArgs false
set_option maxRecDepth 100000
set_option maxHeartbeats 4000000
namespace Go.Abs
def OwnT (H:Heap) (own:Option (Option Nat)) (n sz:Nat):Prop:=own=some none∨∃ id,own=some (some id)∧H[id]? = some (.tail n sz)
def Young (b:Nat) (own:Option (Option Nat)):Prop:=own=some none∨∃ t,own=some (some t)∧b≤t
theorem Young.ne {b i:Nat} {own:Option (Option Nat)} (h:Young b own) (hi:i<b):own≠some (some i):=by
 rcases h with h | ⟨t,h,ht⟩
 ·rw[h];intro e;cases e
 ·rw[h];intro e;injection e with e;injection e with e;omega
theorem Young.le {a b:Nat} {own:Option (Option Nat)} (h:Young b own) (hi:a≤b):Young a own:=by
 rcases h with h | ⟨t,h,ht⟩
 ·exact .inl h
 ·exact .inr ⟨t,h,by omega⟩
theorem OwnT.frame {H H':Heap} {own:Option (Option Nat)} {n sz:Nat} (h:OwnT H own n sz) (he:∀ id,own=some (some id)→H'[id]? = H[id]?):OwnT H' own n sz:=by
 rcases h with h | ⟨id,h1,h2⟩
 ·exact .inl h
 ·exact .inr ⟨id,h1,by rw[he id h1];exact h2⟩
structure App (H:Heap) (own:Option (Option Nat)) (n sz:Nat) (own':Option (Option Nat)) (H':Heap):Prop where
 owns:OwnT H' own' n sz
 len:H.length≤H'.length
 keep:∀ i,i<H.length→own≠some (some i)→H'[i]? = H[i]?
 new:own'=own∨∃ t,own'=some (some t)∧H.length≤t
theorem App.young {H:Heap} {own own':Option (Option Nat)} {n sz:Nat} {H':Heap} (h:App H own n sz own' H') {b:Nat} (hb:b≤H.length) (hy:Young b own):Young b own':=by
 rcases h.new with h | ⟨t,h,ht⟩
 ·rw[h];exact hy
 ·exact .inr ⟨t,h,by omega⟩
theorem App.other {H:Heap} {own own':Option (Option Nat)} {n sz:Nat} {H':Heap} (h:App H own n sz own' H') {i:Nat} {o:AObj} (hi:H[i]? = some o) (ho:∀ a b,o≠.tail a b) {m z:Nat} (hw:OwnT H own m z):H'[i]? = some o:=by
 rw[h.keep i (hlt hi),hi]
 rintro e
 rcases hw with hw | ⟨id,h1,h2⟩
 ·rw[hw] at e;cases e
 ·rw[h1] at e
  injection e with e
  injection e with e
  subst e
  rw[hi] at h2
  injection h2 with h2
  exact ho _ _ h2
theorem qnB (H:Heap) (sz bytes:Nat) (xs ys:List AVal) (own o:Option (Option Nat)) (hown:OwnT H own xs.length sz) (hx:(xs.all fun v=>decide ((acells v).length=sz))=true) (hy:(ys.all fun v=>decide ((acells v).length=sz))=true) (hn:xs.length+ys.length≤1073741824) :
  ∃ own' H',qa4 H sz bytes (.list xs own) (.list ys o)=some (.list (xs++ys) own',H')∧App H own (xs.length+ys.length) sz own' H':=by
 by_cases hz:ys=[]
 ·subst hz
  refine⟨own,H,?_,by simpa using hown,Nat.le_refl _,fun _ _ _=>rfl,.inl rfl⟩
  unfold qa4
  dsimp only
  rw[if_pos rfl,List.append_nil]
 ·rcases hown with h | ⟨id,h1,h2⟩
  ·subst h
   refine⟨some (some H.length),H++[.tail (xs.length+ys.length) sz],?_,.inr ⟨_,rfl,hgl rfl⟩,by simp,fun i hi _=>hga hi,.inr ⟨_,rfl,Nat.le_refl _⟩⟩
   unfold qa4
   dsimp only
   rw[if_neg hz,if_pos ⟨hx,hy,hn⟩]
  ·subst h1
   have hl:=hlt h2
   refine⟨some (some id),H.set id (.tail (xs.length+ys.length) sz),?_,.inr ⟨_,rfl,hgs hl⟩,by simp,fun i hi hne=>hgn (fun e=>hne (by rw[e])),.inl rfl⟩
   unfold qa4
   dsimp only
   rw[if_neg hz,if_pos ⟨hx,hy,hn⟩,h2]
   dsimp only
   rw[if_pos ⟨rfl,rfl⟩]
theorem qs7 (ps:List Nat):((ps.map qaH).all fun v=>decide ((acells v).length=1))=true:=by
 rw[List.all_eq_true]
 intro v hv
 obtain⟨q,_,rfl⟩:=List.mem_map.1 hv
 rfl
def RA (l:List CAlt) (v:List AVal):Prop:=v=l.map qan
theorem RA.snoc {a:CAlt} {l:List CAlt} {v:List AVal} (h:RA l v):RA (l++[a]) (v++[.agg [.int .i64 a.tag,.list (a.binds.map qau) none]]):=by
 rw[show v=_ from h]
 show _=(l++[a]).map qan
 rw[List.map_append]
 rfl
theorem RA.len {l:List CAlt} {v:List AVal} (h:RA l v):v.length=l.length:=by rw[show v=_ from h,List.length_map]
theorem RA.all {l:List CAlt} {v:List AVal} (h:RA l v):(v.all fun x=>decide ((acells x).length=2))=true:=by rw[show v=_ from h];exact qdg l
section
end
section
variable {L:Lib}
def qwY (x:CExpr) (ps:List Nat) (H:Heap) (p:Nat):Prop :=
 ∃ ob ok avs oa,H[p]? = some (nb x (.list (x.binds.map qau) ob) (.list ((x.kids.map fun k=>ps.getD k.toNat 0).map qaH) ok) (.list avs oa))∧RA x.alts avs
structure OJ (e:List CExpr) (w0 i:Nat) (H:Heap) (ps:List Nat) (ow:Option (Option Nat)) (rt:AVal):Prop where
 len:ps.length=i
 work:H[w0]? = some (.box [.list (ps.map qaH) ow,rt])
 owns:OwnT H ow i 1
 young:Young (w0+1) ow
 nodup:ps.Nodup
 low:∀ p∈ps,w0<p∧p<H.length
 node:∀ (k:Nat) (hk:k<e.length) (hi:k<ps.length),qwY e[k] ps H ps[k]
end
theorem RA.enc (l:List CAlt):RA l (l.map qan):=rfl
theorem RA.get {l:List CAlt} {v:List AVal} {j:Nat} (hj:j<l.length) (h:RA l v):∃ o,v[j]? = some (.agg [.int .i64 l[j].tag,.list (l[j].binds.map qau) o]):=⟨none,by rw[show v=_ from h,List.getElem?_map,List.getElem?_eq_getElem hj];rfl⟩
inductive WS (H:Heap) (S:Nat→Prop):CTree→Nat→Prop
 | mk (op n:Int) (binds:List Int) (kids:List CTree) (alts:List CAlt) (p:Nat) (ps:List Nat) (ob ok:Option (Option Nat)) (avs:List AVal) (oa:Option (Option Nat)) (hp:S p)
   (hbox:H[p]? = some (.box [.int .i64 op,.int .i64 n,.list (binds.map qau) ob,.list (ps.map qaH) ok,.list avs oa])) (ha:RA alts avs) (hl:ps.length=kids.length)
   (hk:∀ (i:Nat) (hi:i<kids.length),WS H S kids[i] (ps[i]'(by omega))):WS H S (.mk op n binds kids alts) p
theorem WS.frame {H H':Heap} {S:Nat→Prop} {t:CTree} {p:Nat} (h:WS H S t p) (he:∀ i,S i→H'[i]? = H[i]?):WS H' S t p:=by
 induction h with
 | mk op n binds kids alts p ps ob ok avs oa hp hbox ha hl hk ih=>exact .mk op n binds kids alts p ps ob ok avs oa hp (by rw[he p hp];exact hbox) ha hl ih
theorem WS.mono {H:Heap} {S S':Nat→Prop} {t:CTree} {p:Nat} (h:WS H S t p) (hb:∀ i,S i→S' i):WS H S' t p:=by
 induction h with
 | mk op n binds kids alts p ps ob ok avs oa hp hbox ha hl hk ih=>exact .mk op n binds kids alts p ps ob ok avs oa (hb p hp) hbox ha hl ih
theorem WS.at_ {H:Heap} {S:Nat→Prop} {t:CTree} {p:Nat} (h:WS H S t p):S p:=by cases h;assumption
theorem WS.lt {H:Heap} {S:Nat→Prop} {t:CTree} {p:Nat} (h:WS H S t p):p<H.length:=by cases h;exact hlt (by assumption)
abbrev WT (H:Heap) (b:Nat) (t:CTree) (p:Nat):Prop:=WS H (fun i=>i<b) t p
theorem WT.frame {H H':Heap} {b:Nat} {t:CTree} {p:Nat} (h:WT H b t p) (he:∀ i,i<b→H'[i]? = H[i]?):WT H' b t p:=WS.frame h he
theorem WT.mono {H:Heap} {b b':Nat} {t:CTree} {p:Nat} (h:WT H b t p) (hb:b≤b'):WT H b' t p:=WS.mono h fun i hi=>Nat.lt_of_lt_of_le hi hb
def RT (H:Heap) (b:Nat) (t:CTree) (v:AVal):Prop:=v=qaB t∨∃ p,v=qaH p∧WT H b t p
theorem RT.frame {H H':Heap} {b:Nat} {t:CTree} {v:AVal} (h:RT H b t v) (he:∀ i,i<b→H'[i]? = H[i]?):RT H' b t v:=by
 rcases h with h | ⟨p,h1,h2⟩
 ·exact .inl h
 ·exact .inr ⟨p,h1,h2.frame he⟩
structure NodeV (H:Heap) (b:Nat) (op n:Int) (binds:List Int) (kids:List CTree) (alts:List CAlt) (v:AVal) (ob ok oa:Option (Option Nat)) (kvs avs:List AVal):Prop where
 at_:v=.vptr [.int .i64 op,.int .i64 n,.list (binds.map qau) ob,.list kvs ok,.list avs oa] 0∨∃ p,p<b∧v=.ptr (some (p,0))∧H[p]? = some (.box [.int .i64 op,.int .i64 n,.list (binds.map qau) ob,.list kvs ok,.list avs oa])
 len:kvs.length=kids.length
 kid:∀ (i:Nat) (hi:i<kids.length),∃ kv,kvs[i]? = some kv∧RT H b kids[i] kv∧acells kv=[kv]
 all:(kvs.all fun v=>decide ((acells v).length=1))=true
 alt:RA alts avs
theorem RT.node {H:Heap} {b:Nat} {op n:Int} {binds:List Int} {kids:List CTree} {alts:List CAlt} {v:AVal} (h:RT H b (.mk op n binds kids alts) v):∃ ob ok oa kvs avs,NodeV H b op n binds kids alts v ob ok oa kvs avs:=by
 rcases h with h | ⟨p,h1,h2⟩
 ·refine⟨none,none,none,kids.map qaB,alts.map qan,.inl (by rw[h,qbG]),by simp,fun i hi=>⟨qaB kids[i],by simp[hi],.inl rfl,qgh _⟩,qqK _,RA.enc _⟩
 ·cases h2 with
  | mk _ _ _ _ _ _ ps ob ok avs oa hp hbox ha hl hk =>
    exact⟨ob,ok,oa,ps.map qaH,avs,.inr ⟨p,hp,h1,hbox⟩,by simpa using hl,fun i hi=>⟨qaH (ps[i]'(by omega)),by simp[hl,hi],.inr ⟨_,rfl,hk i hi⟩,rfl⟩,qs7 _,ha⟩
theorem qn2 (kids:List CTree):∀ (j b:Nat) (hj:j<kids.length),qbn (kids.take (j+1)) b=qbn (kids.take j) b++qeo kids[j] (b+qaE (kids.take j))∧qbj (kids.take (j+1)) b=qbj (kids.take j) b++[((b+qaE (kids.take (j+1))-1:Nat):Int)]∧qaE (kids.take (j+1))=qaE (kids.take j)+qbs kids[j]:=by
 induction kids with
 | nil=>intro j b hj;simp at hj
 | cons k ks ih =>
   intro j b hj
   cases j with
   | zero =>
     simp only[List.take_succ_cons,List.take_zero,List.getElem_cons_zero,qbn,qbj,qaE,List.append_nil,List.nil_append,Nat.add_zero,Nat.zero_add]
     exact⟨trivial,trivial,trivial⟩
   | succ j =>
     have hj':j<ks.length:=by simpa using hj
     obtain⟨h1,h2,h3⟩:=ih j (b+qbs k) hj'
     simp only[List.take_succ_cons,List.getElem_cons_succ,qbn,qbj,qaE]
     rw[h1,h2,h3]
     refine⟨by rw[List.append_assoc,Nat.add_assoc],?_,by omega⟩
     rw[List.cons_append]
     congr 3
     omega
theorem qhw (ks:List CTree) (b:Nat):(qbn ks b).length=qaE ks:=qg5 ks b
theorem qm5:∀ (ks:List CTree) (b:Nat),(qbj ks b).length=ks.length
 | [],b=>rfl
 | k::ks,b=>by rw[qbj,List.length_cons,List.length_cons,qm5 ks]
def NewO (own own':Option (Option Nat)) (n:Nat):Prop:=own'=own∨∃ t,own'=some (some t)∧n≤t
theorem NewO.young {own own':Option (Option Nat)} {n b:Nat} (h:NewO own own' n) (hb:b≤n) (hy:Young b own):Young b own':=by
 rcases h with h | ⟨t,h,ht⟩
 ·rw[h];exact hy
 ·exact .inr ⟨t,h,by omega⟩
theorem NewO.mono {a b:Option (Option Nat)} {n m:Nat} (h:NewO a b m) (hn:n≤m):NewO a b n:=by
 rcases h with h | ⟨t,h,ht⟩
 ·exact .inl h
 ·exact .inr ⟨t,h,by omega⟩
theorem NewO.trans {o1 o2 o3:Option (Option Nat)} {n m:Nat} (h:NewO o1 o2 n) (h2:NewO o2 o3 m) (hn:n≤m):NewO o1 o3 n:=by
 rcases h2 with h2 | ⟨t,h2,ht⟩
 ·rw[h2];exact h
 ·exact .inr ⟨t,h2,by omega⟩
theorem NewO.ne {own own':Option (Option Nat)} {n i:Nat} (h:NewO own own' n) (hi:i<n) (hne:own≠some (some i)):own'≠some (some i):=by
 rcases h with h | ⟨t,h,ht⟩
 ·rw[h];exact hne
 ·rw[h];intro e;injection e with e;injection e with e;omega
theorem OwnT.ne {H:Heap} {own:Option (Option Nat)} {n sz i:Nat} {o:AObj} (h:OwnT H own n sz) (hi:H[i]? = some o) (ho:∀ a b,o≠.tail a b):own≠some (some i):=by
 intro e
 rcases h with h | ⟨t,h5,h6⟩
 ·rw[h] at e;cases e
 ·rw[h5] at e
  injection e with e
  injection e with e
  subst e
  rw[hi] at h6
  injection h6 with h6
  exact ho _ _ h6
theorem OwnT.keep {H H':Heap} {own o2:Option (Option Nat)} {n sz m sz':Nat} (h:OwnT H own n sz) (h2:OwnT H o2 m sz') (hs:sz≠sz') (hk:∀ i,(∃ a b,H[i]? = some (.tail a b))→o2≠some (some i)→H'[i]? = H[i]?):OwnT H' own n sz:=by
 refine h.frame fun id hid=>?_
 rcases h with h | ⟨t,h5,h6⟩
 ·rw[h] at hid;cases hid
 ·rw[h5] at hid
  injection hid with hid
  injection hid with hid
  subst hid
  refine hk t ⟨_,_,h6⟩ fun e=>?_
  rcases h2 with h | ⟨u,h7,h8⟩
  ·rw[h] at e;cases e
  ·rw[h7] at e
   injection e with e
   injection e with e
   subst e
   rw[h6] at h8
   injection h8 with h8
   injection h8 with h8 h9
   exact hs h9
theorem OwnT.set {H:Heap} {own:Option (Option Nat)} {n sz i:Nat} {o o':AObj} (h:OwnT H own n sz) (hi:H[i]? = some o) (ho:∀ a b,o≠.tail a b):OwnT (H.set i o') own n sz :=
 h.frame fun id hid=>hgn fun e=>by subst e;exact h.ne hi ho hid
section
variable {L:Lib} (hL:Plain L)
include hL
def LW (L:Lib) (t:CTree):Prop:=∀ (H:Heap) (b:Nat) (v:AVal) (outs:List CExpr) (own:Option (Option Nat)) (o a:Nat),RT H b t v→b≤H.length→b≤o→o≠a→b≤a→H[a]? = some (.box [.func 187 [] [qaH a,qaH o]])→H[o]? = some (.box [.list (outs.map qal) own])→OwnT H own outs.length 5→Young b own→outs.length+qbs t<2 ^ 30 →
 ∃ H' own',call L 187 [v,qaH a,qaH o] H=some (.val (.int .i64 ((outs.length+qbs t-1:Nat):Int)),H')∧H'[o]? = some (.box [.list ((outs++qeo t outs.length).map qal) own'])∧OwnT H' own' (outs++qeo t outs.length).length 5∧NewO own own' H.length ∧
  H.length≤H'.length∧∀ i,i<H.length→i≠o→own≠some (some i)→H'[i]? = H[i]?
def lx (op n:Int) (binds:List Int) (kv av:AVal):AObj:=.box [.int .i64 op,.int .i64 n,.list (binds.map qau) none,kv,av]
theorem qyd (hP:CPrims L qa1) {b:Nat} (op n:Int) (binds:List Int) (kv:AVal) (hkv:leaf kv=true) (alts:List CAlt) (hal:alts.length<2 ^ 30) (hab:∀ a∈alts,a.binds.length<2 ^ 30) (avs:List AVal) (oa:Option (Option Nat)) (hra:RA alts avs) (o X:Nat) (H:Heap)
  (hX:H[X]? = some (lx op n binds kv (.list [] (some none)))) :
  ∃ T,qbl L.pure (call L) b [1000000,2,5,45,46,47] [1000000,2,5] 2 qfN
   ⟨kt [2,5,45,46,47] [qaH o,qaH X,.list avs oa,.int .i64 alts.length,.int .i64 0],H⟩=some (.normal,T) ∧
   ∃ H' ox,T=⟨kt [2,5] [qaH o,qaH X],H'⟩∧H'[X]? = some (lx op n binds kv (.list (alts.map qan) ox))∧H.length≤H'.length∧∀ q,q<H.length→q≠X→H'[q]? = H[q]? := by
 have hp:=hL.pure
 have hlX:=hlt hX
 refine qcw (pure:=L.pure) (call:=call L) (b:=b) (id:=2) (body:=qfN)
  (fun j s=>∃ H' ox,s=⟨kt [2,5,45,46,47] [qaH o,qaH X,.list avs oa,.int .i64 alts.length,.int .i64 j],H'⟩∧H'[X]? = some (lx op n binds kv (.list ((alts.take j).map qan) ox))∧OwnT H' ox j 2∧Young H.length ox ∧
   H.length≤H'.length∧∀ q,q<H.length→q≠X→H'[q]? = H[q]?) alts.length _ ?_ ?_ ?_
 ·intro j s hj hs
  obtain⟨H',ox,rfl,hX',hown,hyo,hle,hkp⟩:=hs
  obtain⟨h1,h2,_⟩:=qaT qan alts hal j hj
  obtain⟨oj,h3⟩:=hra.get hj
  have hb:=hab alts[j] (List.getElem_mem hj)
  have hc:=fun h=>hP.clone alts[j].binds h hb
  have htake:(alts.take (j+1)).map qan=(alts.take j).map qan++[qan alts[j]]:=by
   rw[List.take_succ_eq_append_getElem hj,List.map_append];rfl
  have hlen:((alts.take j).map qan).length=j:=by simp;omega
  have hall:=qdg (alts.take j)
  simp only[htake]
  generalize alts[j]=a at *
  generalize (alts.take j).map qan=ks at *
  have hlX':=hlt hX'
  have hown1:OwnT (H'++[.box [.int .i64 a.tag,.list (a.binds.map qau) oj]]) ox ks.length 2:=by
   rw[hlen]
   exact hown.frame fun id hid=>hga (by
    rcases hown with h | ⟨t,h5,h6⟩
    ·rw[h] at hid;cases hid
    ·rw[h5] at hid
     injection hid with hid
     injection hid with hid
     subst hid
     exact hlt h6)
  obtain⟨ox2,H2,ha,hA⟩:=qnB (H'++[.box [.int .i64 a.tag,.list (a.binds.map qau) oj]]) 2 32 ks [.agg [.int .i64 a.tag,.list (a.binds.map qau) none]] ox (some none) hown1 hall rfl (by rw[hlen,List.length_singleton];omega)
  rw[hlen,List.length_singleton] at hA
  have hX2:H2[X]? = some (lx op n binds kv (.list ks ox)):=hA.other (by rw[hga hlX'];exact hX') (fun a b=>by intro e;cases e) (by rw[hlen] at hown1;exact hown1)
  have hl2:=hlt hX2
  have hk2:=hA.len
  rw[List.length_append,List.length_singleton] at hk2
  obtain⟨r,hr0⟩:∃ r,qbk L.pure (call L) b [1000000,2,5,45,46,47] [1000000,2,5] qfN ⟨kt [2,5,45,46,47] [qaH o,qaH X,.list avs oa,.int .i64 alts.length,.int .i64 j],H'⟩=r:=⟨_,rfl⟩
  have hr:=hr0
  have hdI:=qac a.binds
  unfold qaH lx at *
  unfold qfN at hr
  simp -implicitDefEqProofs only[ev_,aOp,opd,qaa,qat,qaD,qaC,qae,qab,qaf,qag,qaP,qaN,qak,qcZ,qdm,leaf,qaq,qbd,↓reduceIte,Nat.reduceEqDiff,Nat.reduceAdd,Nat.reduceLeDiff,qay,h1,h2,h3,hc,ha,hX',hX2,hkv,hgl,hsl,hga,hlX',hdI,qap L hp,hp] at hr
  subst hr
  refine⟨_,hr0,_,ox2,rfl,by rw[hgs hl2];rfl,?_,hA.young (by simp;omega) hyo,by rw[List.length_set];omega,?_⟩
  ·refine hA.owns.frame fun id hid=>hgn (fun e=>?_)
   subst e
   rcases hA.owns with h | ⟨t,h5,h6⟩
   ·rw[h] at hid;cases hid
   ·rw[h5] at hid
    injection hid with hid
    injection hid with hid
    subst hid
    rw[hX2] at h6
    cases h6
  ·intro q hq hqp
   rw[hgn (fun e=>hqp e.symm),hA.keep q (by simp;omega) (hyo.ne hq),hga (by omega)]
   exact hkp q hq hqp
 ·intro s hs
  obtain⟨H',ox,rfl,hX',hown,hyo,hle,hkp⟩:=hs
  have h0:=qaU alts.length
  rw[List.take_length] at hX'
  refine⟨_,?_,H',ox,rfl,hX',hle,hkp⟩
  unfold qfN
  simp -implicitDefEqProofs only[ev_,aOp,opd,qaa,qaD,qaC,qab,gcE,↓reduceIte,Nat.reduceEqDiff,h0]
 ·exact⟨H,some none,rfl,hX,.inl rfl,.inl rfl,Nat.le_refl _,fun _ _ _=>rfl⟩
end
section
variable {L:Lib}
theorem qyc {b:Nat} (op n:Int) (binds:List Int) (kids:List CTree) (hkl:kids.length<2 ^ 30) (kvs:List AVal) (okv:Option (Option Nat)) (base:Nat) (o a X:Nat) (v:AVal) (H:Heap) (outs:List CExpr) (own:Option (Option Nat))
  (hkid:∀ (i:Nat) (hi:i<kids.length),∃ kv,kvs[i]? = some kv∧RT H base kids[i] kv∧acells kv=[kv]) (hkvl:kvs.length=kids.length) (ih:∀ k∈kids,LW L k)
  (hbl:base≤H.length) (hbo:base≤o) (hoa:o≠a) (hba:base≤a) (ha:H[a]? = some (.box [.func 187 [] [qaH a,qaH o]])) (ho:H[o]? = some (.box [.list (outs.map qal) own])) (hown:OwnT H own outs.length 5) (hy:Young base own)
  (hX:H[X]? = some (lx op n binds (.list [] (some none)) (.list [] (some none)))) (hXo:X≠o) (hXa:X≠a) (hXb:base≤X) (hsz:outs.length+qaE kids<2 ^ 30) :
  ∃ T,qbl L.pure (call L) b [1000000,0,1,2,5,27,28,29] [1000000,0,2,5] 0 qfM
   ⟨kt [0,1,2,5,27,28,29] [v,qaH a,qaH o,qaH X,.list kvs okv,.int .i64 kids.length,.int .i64 0],H⟩=some (.normal,T) ∧
   ∃ H' own' ox,T=⟨kt [0,2,5] [v,qaH o,qaH X],H'⟩∧H'[X]? = some (lx op n binds (.list ((qbj kids outs.length).map qau) ox) (.list [] (some none)))∧H'[o]? = some (.box [.list ((outs++qbn kids outs.length).map qal) own'])∧OwnT H' own' (outs++qbn kids outs.length).length 5∧NewO own own' H.length ∧
    H.length≤H'.length∧∀ i,i<H.length→i≠o→i≠X→own≠some (some i)→H'[i]? = H[i]? := by
 have hlX:=hlt hX
 have hla:=hlt ha
 have hlo:=hlt ho
 have nt:∀ {cs:List AVal},∀ a b,AObj.box cs≠.tail a b:=fun a b e=>by cases e
 have hna:=hown.ne ha nt
 have hnX:=hown.ne hX nt
 refine qcw (pure:=L.pure) (call:=call L) (b:=b) (id:=0) (body:=qfM)
  (fun j s=>∃ H' own' ox,s=⟨kt [0,1,2,5,27,28,29] [v,qaH a,qaH o,qaH X,.list kvs okv,.int .i64 kids.length,.int .i64 j],H'⟩∧H'[X]? = some (lx op n binds (.list ((qbj (kids.take j) outs.length).map qau) ox) (.list [] (some none)))∧OwnT H' ox j 1 ∧
   H'[o]? = some (.box [.list ((outs++qbn (kids.take j) outs.length).map qal) own'])∧OwnT H' own' (outs++qbn (kids.take j) outs.length).length 5∧NewO own own' H.length∧Young H.length ox ∧
   H.length≤H'.length∧∀ i,i<H.length→i≠o→i≠X→own≠some (some i)→H'[i]? = H[i]?) kids.length _ ?_ ?_ ?_
 ·intro j s hj hs
  obtain⟨H',own',ox,rfl,hX',hownx,ho',hown',hy',hyx,hle,hkp⟩:=hs
  obtain⟨h1,h2,_⟩:=qaT qaB kids hkl j hj
  obtain⟨kv,h3,hrt,hac⟩:=hkid j hj
  obtain⟨t1,t2,t3⟩:=qn2 kids j outs.length hj
  have hts:qaE (kids.take (j+1))≤qaE kids:=by
   conv=>rhs;rw[← List.take_append_drop (j+1) kids]
   generalize kids.take (j+1)=pre
   induction pre with
   | nil=>rw[qaE];omega
   | cons q pre ih3=>rw[List.cons_append,qaE,qaE];omega
  have ha':H'[a]? = some (.box [.func 187 [] [qaH a,qaH o]]):=by rw[hkp a hla (fun e=>hoa e.symm) (fun e=>hXa e.symm) hna];exact ha
  have hrt':RT H' base kids[j] kv:=hrt.frame fun i hi=>hkp i (by omega) (by omega) (by omega) (hy.ne hi)
  have hll:(outs++qbn (kids.take j) outs.length).length=outs.length+qaE (kids.take j):=by rw[List.length_append,qhw]
  have hll':(outs++qbn (kids.take (j+1)) outs.length).length=outs.length+qaE (kids.take (j+1)):=by rw[List.length_append,qhw]
  have hrl:((qbj (kids.take j) outs.length).map qau).length=j:=by rw[List.length_map,qm5,List.length_take];omega
  have hci:=ih kids[j] (List.getElem_mem hj) H' base kv (outs++qbn (kids.take j) outs.length) own' o a hrt' (by omega) hbo hoa hba ha' ho' hown' (hy'.young hbl hy) (by omega)
  rw[hll] at hci
  have houts:outs++qbn (kids.take (j+1)) outs.length=(outs++qbn (kids.take j) outs.length)++qeo kids[j] (outs.length+qaE (kids.take j)):=by rw[t1,List.append_assoc]
  rw[← houts] at hci
  obtain⟨H2,own2,c1,c2,c3,c4,c5,c6⟩:=hci
  have hidx:outs.length+qaE (kids.take j)+qbs kids[j]-1=outs.length+qaE (kids.take (j+1))-1:=by omega
  rw[hidx] at c1
  have hallr:=qdZ (qbj (kids.take j) outs.length)
  have hsnoc:(qbj (kids.take (j+1)) outs.length).map qau=(qbj (kids.take j) outs.length).map qau++[.int .i64 ((outs.length+qaE (kids.take (j+1))-1:Nat):Int)]:=by rw[t2,List.map_append];rfl
  simp only[hsnoc]
  generalize outs.length+qaE (kids.take (j+1))-1=ix at *
  have hlX':=hlt hX'
  have hnX':=hown'.ne hX' nt
  have hX2:H2[X]? = some (lx op n binds (.list ((qbj (kids.take j) outs.length).map qau) ox) (.list [] (some none))):=by rw[c6 X hlX' hXo hnX'];exact hX'
  have hownx2:OwnT H2 ox ((qbj (kids.take j) outs.length).map qau).length 1:=by
   rw[hrl]
   exact hownx.keep hown' (by decide) fun i ⟨x,y,hi⟩ hne=>c6 i (hlt hi) (fun e=>by subst e;rw[ho'] at hi;cases hi) hne
  generalize (qbj (kids.take j) outs.length).map qau=ks at *
  obtain⟨ox3,H3,ha3,hA3⟩:=qnB H2 1 8 ks [.int .i64 ix] ox (some none) hownx2 hallr rfl (by rw[hrl,List.length_singleton];omega)
  rw[hrl,List.length_singleton] at hA3
  rw[hrl] at hownx2
  have hX3:H3[X]? = some (lx op n binds (.list ks ox) (.list [] (some none))):=hA3.other hX2 (fun a b=>by intro e;cases e) hownx2
  have ho3:=hA3.other c2 (fun a b=>by intro e;cases e) hownx2
  have hlX3:=hlt hX3
  have h3l:=hA3.len
  obtain⟨r,hr0⟩:∃ r,qbk L.pure (call L) b [1000000,0,1,2,5,27,28,29] [1000000,0,2,5] qfM ⟨kt [0,1,2,5,27,28,29] [v,qaH a,qaH o,qaH X,.list kvs okv,.int .i64 kids.length,.int .i64 j],H'⟩=r:=⟨_,rfl⟩
  have hr:=hr0
  unfold qaH lx at *
  unfold qfM at hr
  simp -implicitDefEqProofs only[ev_,aOp,opd,qaa,qat,qaD,qaC,qae,qab,qaf,qag,qaP,qak,leaf,qaq,qbd,↓reduceIte,reduceCtorEq,Nat.reduceEqDiff,Nat.reduceAdd,Nat.reduceSub,Nat.reduceLeDiff,forall_const,forall_eq_or_imp,forall_eq,h1,h2,h3,hac,ha',c1,ha3,hX',hX2,hX3] at hr
  subst hr
  refine⟨_,hr0,_,own2,ox3,rfl,by rw[hgs hlX3],hA3.owns.set hX3 nt,by rw[hgn hXo];exact ho3,?_,hy'.trans c4 hle,hA3.young (by omega) hyx,by rw[List.length_set];omega,?_⟩
  ·exact (c3.keep hownx2 (by decide) fun i ⟨x,y,hi⟩ hne=>hA3.keep i (hlt hi) hne).set hX3 nt
  ·intro i hi hio hiX hio2
   rw[hgn (fun e=>hiX e.symm),hA3.keep i (by omega) (hyx.ne hi),c6 i (by omega) hio (hy'.ne hi hio2)]
   exact hkp i hi hio hiX hio2
 ·intro s hs
  obtain⟨H',own',ox,rfl,hX',hownx,ho',hown',hy',hyx,hle,hkp⟩:=hs
  have h0:=qaU kids.length
  rw[List.take_length] at hX' ho' hown'
  refine⟨_,?_,H',own',ox,rfl,hX',ho',hown',hy',hle,hkp⟩
  unfold qfM
  simp -implicitDefEqProofs only[ev_,aOp,opd,qaa,qaD,qaC,qab,gcE,↓reduceIte,reduceCtorEq,Nat.reduceEqDiff,h0]
 ·refine⟨H,own,some none,rfl,hX,.inl rfl,?_,?_,.inl rfl,.inl rfl,Nat.le_refl _,fun _ _ _ _ _=>rfl⟩
  ·rw[List.take_zero,qbn,List.append_nil];exact ho
  ·rw[List.take_zero,qbn,List.append_nil];exact hown
theorem qrM (hL:Plain L) (hP:CPrims L qa1) (h187:L.fns 187=some fm187) (t:CTree) (hf:TFit t):LW L t:=by
 have hp:=hL.pure
 have hs:=hL.summ 187 (by rw[h187];simp)
 induction t using CTree.ind with
 | h op n binds kids alts ih =>
   intro H base v outs own o a hrt hbl hbo hoa hba ha ho hown hy hsz
   cases hf with
   | mk _ _ _ _ _ hb hk hal hfk =>
   have hbi:binds.length<2 ^ 30:=by rw[List.length_append] at hb;omega
   have hab:∀ x∈alts,x.binds.length<2 ^ 30:=fun x hx=>by
    have:=qim alts hx
    rw[List.length_append] at hb
    omega
   rw[qbs] at hsz
   obtain⟨ob,ok,oa,kvs,avs,hN⟩:=hrt.node
   have hkvl:=hN.len
   have hc:=fun h=>hP.clone binds h hbi
   have hla:=hlt ha
   have hlo:=hlt ho
   have nt:∀ {cs:List AVal},∀ a b,AObj.box cs≠.tail a b:=fun a b e=>by cases e
   have hX:(H++[lx op n binds (.list [] (some none)) (.list [] (some none))])[H.length]? = some (lx op n binds (.list [] (some none)) (.list [] (some none))):=hgl rfl
   obtain⟨T1,g1,H1,own1,ox,rfl,hX1,ho1,hown1,hn1,hl1,hk1⟩:=qyc (L:=L) (b:=H.length+1) op n binds kids hk kvs ok base o a H.length v (H++[lx op n binds (.list [] (some none)) (.list [] (some none))]) outs own
    (fun i hi=>by
     obtain⟨kv,e1,e2,e3⟩:=hN.kid i hi
     exact⟨kv,e1,e2.frame fun q hq=>hga (by omega),e3⟩) hkvl (fun k hk=>ih k hk (hfk k hk)) (by simp;omega) hbo hoa hba (by rw[hga hla];exact ha) (by rw[hga hlo];exact ho)
    (hown.frame fun id hid=>hga (by
     rcases hown with h | ⟨t,h5,h6⟩
     ·rw[h] at hid;cases hid
     ·rw[h5] at hid
      injection hid with hid
      injection hid with hid
      subst hid
      exact hlt h6)) hy hX (by omega) (by omega) hbl (by omega)
   have hl1':H.length+1≤H1.length:=by simpa using hl1
   have hk1':∀ i,i<H.length→i≠o→own≠some (some i)→H1[i]? = H[i]? := fun i hi h1 h2=>by rw[hk1 i (by simp;omega) h1 (by omega) h2,hga hi]
   obtain⟨T2,g2,H2,ox2,rfl,hX2,hl2,hk2⟩:=qyd hL hP (b:=H1.length) op n binds (.list ((qbj kids outs.length).map qau) ox) rfl alts hal hab avs oa hN.alt o H.length H1 hX1
   have ho2:H2[o]? = some (.box [.list ((outs++qbn kids outs.length).map qal) own1]):=by rw[hk2 o (by omega) (by omega)];exact ho1
   have hown2:OwnT H2 own1 (outs++qbn kids outs.length).length 5:=hown1.frame fun id hid=>by
    rcases hown1 with h | ⟨t,h5,h6⟩
    ·rw[h] at hid;cases hid
    ·rw[h5] at hid
     injection hid with hid
     injection hid with hid
     subst hid
     exact hk2 t (hlt h6) (fun e=>by subst e;rw[hX1] at h6;cases h6)
   have hlt':qeo (.mk op n binds kids alts) outs.length=qbn kids outs.length++[⟨op,n,binds,qbj kids outs.length,alts⟩]:=by rw[qeo]
   have hll:(outs++qbn kids outs.length).length=outs.length+qaE kids:=by rw[List.length_append,qhw]
   have hall:=qqJ (outs++qbn kids outs.length)
   have hlast:(outs++qeo (.mk op n binds kids alts) outs.length).map qal=(outs++qbn kids outs.length).map qal++[qal ⟨op,n,binds,qbj kids outs.length,alts⟩]:=by rw[hlt',← List.append_assoc,List.map_append];rfl
   have hlast2:(outs++qeo (.mk op n binds kids alts) outs.length).length=outs.length+qaE kids+1:=by rw[hlt',← List.append_assoc,List.length_append,hll];rfl
   rw[hlast,hlast2,qbs]
   rw[hll] at hown2
   have hml:((outs++qbn kids outs.length).map qal).length=outs.length+qaE kids:=by rw[List.length_map,hll]
   generalize (outs++qbn kids outs.length).map qal=ms at *
   obtain⟨own3,H3,ha3,hA3⟩:=qnB H2 5 88 ms [.agg [.int .i64 op,.int .i64 n,.list (binds.map qau) none,.list ((qbj kids outs.length).map qau) none,.list (alts.map qan) none]] own1 (some none) (by rw[hml];exact hown2) hall rfl (by rw[hml,List.length_singleton];omega)
   rw[hml,List.length_singleton] at hA3
   have ho3:=hA3.other ho2 nt hown2
   have hlo3:=hlt ho3
   have hl3:=hA3.len
   refine⟨H3.set o (.box [.list (ms++[qal ⟨op,n,binds,qbj kids outs.length,alts⟩]) own3]),own3,?_,by rw[hgs hlo3],hA3.owns.set ho3 nt,(hn1.mono (by simp)).trans hA3.new (by omega),by rw[List.length_set];omega,?_⟩
   ·refine qcW hs h187 ?_
    have hw:IntKind.i64.wrap (((ms.length+1:Nat):Int)-1)=((outs.length+(qaE kids+1)-1:Nat):Int):=by rw[hml,qcT (by omega) (by omega)];omega
    have hdI:=qac binds
    have hkl:((kvs.length:Nat):Int)=kids.length:=by rw[hkvl]
    have hal':((avs.length:Nat):Int)=alts.length:=by rw[hN.alt.len]
    generalize qbj kids outs.length=rs at *
    generalize outs.length+(qaE kids+1)-1=ix at *
    rcases hN.at_ with hv | ⟨p,hpb,hv,hbox⟩
    ·subst hv
     unfold qaH lx at *
     unfold fm187
     simp -implicitDefEqProofs only[ev_,aOp,opd,qaa,qat,qaD,qbC,qaC,qab,qaf,qag,qaP,qaN,qak,qcZ,qdm,leaf,qaq,qav,qad,qai,qam,qbd,↓reduceIte,reduceCtorEq,Nat.reduceEqDiff,Nat.reduceAdd,Nat.reduceSub,Nat.reduceLeDiff,forall_const,implies_true,qay,qaZ,hc,hgl,hsl,g1,hX1,g2,hX2,ho2,ha3,ho3,hgs,hlo3,hw,hdI,hkl,hal',qap L hp,hp]
    ·subst hv
     have hlp:=hlt hbox
     have hbox0:∀ l:Heap,(H++l)[p]? = H[p]? := fun l=>hga hlp
     have hbox1:=hk1' p hlp (by omega) (hy.ne hpb)
     rw[hbox] at hbox0 hbox1
     unfold qaH lx at *
     unfold fm187
     simp -implicitDefEqProofs only[ev_,aOp,opd,qaa,qat,qaD,qbC,qaC,qab,qaf,qag,qaP,qaN,qak,qcZ,qdm,leaf,qaq,qav,qad,qai,qam,qbd,↓reduceIte,reduceCtorEq,Nat.reduceEqDiff,Nat.reduceAdd,Nat.reduceSub,Nat.reduceLeDiff,forall_const,forall_eq_or_imp,forall_eq,qay,qaZ,hc,hgl,hsl,hbox,hbox0,hbox1,g1,hX1,g2,hX2,ho2,ha3,ho3,hgs,hlo3,hw,hdI,hkl,hal',qap L hp,hp]
   ·intro i hi hio hio2
    rw[hgn (fun e=>hio e.symm),hA3.keep i (by omega) (hn1.ne (by simp;omega) hio2),hk2 i (by omega) (by omega)]
    exact hk1' i hi hio hio2
theorem qua (hL:Plain L) (hP:CPrims L qa1) (h187:L.fns 187=some fm187) (h159:L.fns 159=some fm159) (t:CTree) (hf:TFit t) (hsz:qbs t<2 ^ 30) (H:Heap) (b:Nat) (hb:b≤H.length) (v:AVal) (hv:RT H b t v) :
  ∃ H' own,call L 159 [v] H=some (.val (.list ((qcp t).map qal) own),H')∧H.length≤H'.length∧∀ i,i<H.length→H'[i]? = H[i]? := by
 have hw:=qrM hL hP h187 t hf (H++[.box [.list [] (some none)],.box [.func 187 [] [qaH (H.length+1),qaH H.length]]]) b v [] (some none) H.length (H.length+1) (hv.frame fun i hi=>hga (by omega)) (by simp;omega) hb (by omega) (by omega) (qru rfl) (hgl rfl) (.inl rfl) (.inl rfl) (by simpa using hsz)
 obtain⟨H',own',c1,c2,c3,c4,c5,c6⟩:=hw
 rw[List.nil_append,List.length_nil] at c2
 rw[List.nil_append,List.length_nil] at c3
 refine⟨H',own',?_,by simp at c5;omega,fun i hi=>by rw[c6 i (by simp;omega) (by omega) (by intro e;cases e),hga hi]⟩
 refine qcW (hL.summ 159 (by rw[h159];simp)) h159 ?_
 unfold qcp
 unfold qaH at *
 unfold fm159
 simp -implicitDefEqProofs only[ev_,aOp,opd,qaa,qat,qag,qaP,leaf,qaq,qav,qad,qai,qam,↓reduceIte,reduceCtorEq,Nat.reduceEqDiff,hgl,qru,hsl,qyo,c1,c2]
theorem qub (hL:Plain L) (hP:CPrims L qa1) (h187:L.fns 187=some fm187) (h159:L.fns 159=some fm159) (t:CTree) (hf:TFit t) (hsz:qbs t<2 ^ 30) (h:Heap) :
  pcall L 159 [qaB t] h=some (.val (.list ((qcp t).map qal) none),h):=by
 obtain⟨H',own,c1,_,_⟩:=qua hL hP h187 h159 t hf hsz [] 0 (Nat.le_refl _) (qaB t) (.inl rfl)
 refine qcy c1 ?_ (by rw[qbc];exact qaY _) h
 unfold qeF
 rw[qk0,if_pos (by rw[qbc];exact qaY _)]
end
end Go.Abs
