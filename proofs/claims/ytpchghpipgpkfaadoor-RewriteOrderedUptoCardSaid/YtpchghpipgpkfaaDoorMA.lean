/-
  PARTS OF A PROOF, joined: an abstract machine for quiet code, its evaluation, and what the seat's functions answer on it. Conditions: none.
-/
import Derived.Test.YtpchghpipgpkfaaDoorHF
import Derived.Test.YtpchghpipgpkfaaDoorRM
import Derived.Test.YtpchghpipgpkfaaDoorRwL
import Derived.Test.YtpchghpipgpkfaaDoorRB
set_option linter.unusedVariables false
set_option linter.unusedSimpArgs false
set_option maxRecDepth 100000
set_option maxHeartbeats 4000000
namespace Go.Abs
def qhP (f:Int→Int) (a:CAlt):CAlt:=⟨a.tag,a.binds.map f⟩
def qlf (f:Int→Int) (op n:Int):Int:=if op=0 then f n else n
def qhr (f:Int→Int) (op:Int) (binds:List Int):List Int:=if qbS op=true then binds.map f else binds
mutual
def qb4 (f:Int→Int):CTree→CTree
 | .mk op n binds kids alts=>.mk op (qlf f op n) (qhr f op binds) (qdf f kids) (alts.map (qhP f))
def qdf (f:Int→Int):List CTree→List CTree
 | []=>[]
 | k::ks=>qb4 f k::qdf f ks
end
theorem qfc (f:Int→Int):∀ ks:List CTree,qdf f ks=ks.map (qb4 f)
 | []=>by rw[qdf];rfl
 | k::ks=>by rw[qdf,qfc f ks];rfl
theorem qbE (f:Int→Int) (op n:Int) (binds:List Int) (kids:List CTree) (alts:List CAlt):qb4 f (.mk op n binds kids alts)=.mk op (qlf f op n) (qhr f op binds) (kids.map (qb4 f)) (alts.map (qhP f)):=by rw[qb4,qfc]
theorem qhy (f:Int→Int) (op:Int) (binds:List Int) (alts:List CAlt):qaq op (qhr f op binds) (alts.map (qhP f))=(qaq op binds alts).map f:=by
 unfold qaq qhr
 rw[List.map_append]
 congr 1
 ·split<;>rfl
 ·rw[List.map_flatMap,List.flatMap_map]
  rfl
theorem qk3 {x:Int} {op n:Int} {binds:List Int} {kids:List CTree} {alts:List CAlt} {k:CTree} (hk:k∈kids) (h:qbx x k):qbx x (.mk op n binds kids alts)∨x∈qaq op binds alts:=by
 obtain⟨j,hj,rfl⟩:=List.getElem_of_mem hk
 by_cases hb:x∈qaq op binds alts
 ·exact .inr hb
 ·refine .inl ?_
  rw[qbx,qbV]
  exact .inr ⟨j,hj,h,fun h=>hb (qkA h)⟩
theorem qi7 {f g:Int→Int} (t:CTree):(∀ x∈qaR t,f x=g x)→(∀ x,qbx x t→f x=g x)→qb4 f t=qb4 g t:=by
 induction t using CTree.ind with
 | h op n binds kids alts ih =>
   intro hb hf
   rw[qbE,qbE]
   rw[qby] at hb
   have hbo:∀ x∈qaq op binds alts,f x=g x:=fun x hx=>hb x (List.mem_append_right _ hx)
   have e1:qlf f op n=qlf g op n:=by
    unfold qlf
    by_cases h0:op=0
    ·rw[if_pos h0,if_pos h0]
     exact hf n (by rw[qbx];exact .inl ⟨h0,rfl⟩)
    ·rw[if_neg h0,if_neg h0]
   have e2:qhr f op binds=qhr g op binds:=by
    unfold qhr
    cases ho:qbS op with
    | false=>rfl
    | true =>
      rw[if_pos rfl,if_pos rfl]
      refine List.map_congr_left fun x hx=>hbo x ?_
      unfold qaq
      rw[if_pos ho]
      exact List.mem_append_left _ hx
   have e3:alts.map (qhP f)=alts.map (qhP g):=by
    refine List.map_congr_left fun a ha=>?_
    unfold qhP
    congr 1
    refine List.map_congr_left fun x hx=>hbo x ?_
    unfold qaq
    exact List.mem_append_right _ (List.mem_flatMap.2 ⟨a,ha,hx⟩)
   have e4:kids.map (qb4 f)=kids.map (qb4 g):=by
    refine List.map_congr_left fun k hk=>ih k hk (fun x hx=>hb x (List.mem_append_left _ (qd3 hk x hx))) fun x hx=>?_
    rcases qk3 (op:=op) (n:=n) (binds:=binds) (alts:=alts) hk hx with h | h
    ·exact hf x h
    ·exact hbo x h
   rw[e1,e2,e3,e4]
def lk (m:IM Int) (x:Int):Int:=(qaW x m).getD x
theorem qBI {m m':IM Int} {x:Int} (h:qaW x m=qaW x m'):lk m x=lk m' x:=by unfold lk;rw[h]
theorem qv6 (l:List Int):∀ (s:RS) (m:IM Int),l.Nodup→(∀ x∈l,qaW x m=qaW x (frL l s).1)→qem s.2 l.length=l.map (lk m):=by
 induction l with
 | nil=>intro s m _ _;rfl
 | cons v l ih =>
   intro s m hn hm
   rw[List.nodup_cons] at hn
   rw[List.length_cons,qgD,List.map_cons]
   rw[qd8] at hm
   have h1:lk m v=s.2:=by
    unfold lk
    rw[hm v (by simp),qgq v l _ hn.1,qcd,if_pos rfl]
    rfl
   rw[h1,ih (qlv v s.2 s.1,s.2+1) m hn.2 fun x hx=>hm x (by simp[hx])]
theorem qzf (as:List CAlt):∀ (s:RS) (m:IM Int),(as.flatMap (·.binds)).Nodup→(∀ x∈as.flatMap (·.binds),qaW x m=qaW x (frA as s).2.1)→(frA as s).1=as.map (qhP (lk m)):=by
 induction as with
 | nil=>intro s m _ _;rfl
 | cons a as ih =>
   intro s m hn hm
   rw[List.flatMap_cons,List.nodup_append] at hn
   obtain⟨n1,n2,n3⟩:=hn
   rw[frA] at hm ⊢
   dsimp only at hm ⊢
   rw[List.map_cons]
   have h1:qem s.2 a.binds.length=a.binds.map (lk m):=qv6 a.binds s m n1 fun x hx=>by
    rw[hm x (by rw[List.flatMap_cons];exact List.mem_append_left _ hx),qk1,qgq x _ _ fun h=>n3 x hx x h rfl]
   rw[h1,ih (frL a.binds s) m n2 fun x hx=>hm x (by rw[List.flatMap_cons];exact List.mem_append_right _ hx)]
   rfl
theorem qAR (t:CTree) (h:BGt t):∀ s:RS,(qaR t).Nodup→(∀ x,qbx x t→x∉qaR t)→(qb3 t s).1=qb4 (lk (qb3 t s).2.1) t:=by
 induction t using CTree.ind with
 | h op n binds kids alts ih =>
   intro s hn hf
   cases h with
   | mk _ _ _ _ _ hb hz hk =>
   rw[qby] at hn
   obtain⟨nk,nb,ndis⟩:=List.nodup_append.1 hn
   rw[qb3,qbE]
   dsimp only
   have hst:=qcT hb alts s
   have hout:∀ x∈qaq op binds alts,qaW x (qaU kids (frA alts (qbT op binds s)).2).2.1=qaW x (frL (qaq op binds alts) s).1:=fun x hx=>by
    rw[qlA x kids hk _ fun h=>ndis x h x hx rfl,hst]
   have e1:qoh op n s.1=qlf (lk (qaU kids (frA alts (qbT op binds s)).2).2.1) op n:=by
    unfold qlf qoh
    by_cases h0:op=0
    ·obtain⟨k0,a0⟩:=hz h0
     subst k0
     subst a0
     subst h0
     rw[if_pos rfl,qaU,hst]
     have:qaq 0 binds []=[]:=rfl
     rw[this,qnC]
     unfold lk
     cases qaW n s.1<;>rfl
    ·rw[if_neg h0]
     cases qaW n s.1 with
     | none=>rfl
     | some x=>exact if_neg h0
   have e2:qfj op binds s=qhr (lk (qaU kids (frA alts (qbT op binds s)).2).2.1) op binds:=by
    unfold qhr qfj
    cases ho:qbS op with
    | false =>
      by_cases h9:op=9
      ·rw[if_pos h9];rfl
      ·rw[if_neg h9,hb h9 ho];rfl
    | true =>
      have h9:op≠9:=by rintro rfl;cases ho
      rw[if_neg h9,if_pos rfl]
      have hbo:qaq op binds alts=binds++alts.flatMap (·.binds):=by unfold qaq;rw[if_pos ho]
      rw[hbo] at nb hout
      obtain⟨b1,b2,b3⟩:=List.nodup_append.1 nb
      refine qv6 binds s _ b1 fun x hx=>?_
      rw[hout x (List.mem_append_left _ hx),qc9,qgq x _ _ fun h=>b3 x hx x h rfl]
   have e3:(frA alts (qbT op binds s)).1=alts.map (qhP (lk (qaU kids (frA alts (qbT op binds s)).2).2.1)):=by
    have nb2:(alts.flatMap (·.binds)).Nodup:=by unfold qaq at nb;exact (List.nodup_append.1 nb).2.1
    refine qzf alts _ _ nb2 fun x hx=>?_
    rw[hout x (by unfold qaq;exact List.mem_append_right _ hx),hst]
   have e4:(qaU kids (frA alts (qbT op binds s)).2).1=kids.map (qb4 (lk (qaU kids (frA alts (qbT op binds s)).2).2.1)):=by
    generalize (frA alts (qbT op binds s)).2=s2
    have hfk:∀ k∈kids,∀ x,qbx x k→x∉qbH kids:=by
     intro k hk x hx hxb
     rcases qk3 (op:=op) (n:=n) (binds:=binds) (alts:=alts) hk hx with h | h
     ·exact hf x h (by rw[qby];exact List.mem_append_left _ hxb)
     ·exact ndis x hxb x h rfl
    clear e1 e2 e3 hout hst hf ndis nb hn hz hb
    have key:∀ (ks:List CTree) (s:RS),(∀ k∈ks,k∈kids)→(qbH ks).Nodup→(∀ k∈ks,∀ x,qbx x k→x∉qbH ks)→(qaU ks s).1=ks.map (qb4 (lk (qaU ks s).2.1)):=by
     intro ks
     induction ks with
     | nil=>intro s _ _ _;rw[qaU];rfl
     | cons k ks ihk =>
       intro s hm hn hf
       rw[qbw] at hn
       obtain⟨m1,m2,m3⟩:=List.nodup_append.1 hn
       have hout:∀ x,x∉qbH ks→qaW x (qaU ks (qb3 k s).2).2.1=qaW x (qb3 k s).2.1:=fun x hx=>qlA x ks (fun q hq=>hk q (hm q (by simp[hq]))) _ hx
       rw[qaU,List.map_cons]
       dsimp only
       rw[ih k (hm k (by simp)) (hk k (hm k (by simp))) s m1 fun x hx hxb=>hf k (by simp) x hx (by rw[qbw];exact List.mem_append_left _ hxb)]
       rw[← ihk (qb3 k s).2 (fun q hq=>hm q (by simp[hq])) m2 fun q hq x hx hxb=>hf q (by simp[hq]) x hx (by rw[qbw];exact List.mem_append_right _ hxb)]
       congr 1
       refine qi7 k (fun x hx=>qBI (hout x fun h=>m3 x hx x h rfl).symm) fun x hx=>qBI (hout x fun h=>hf k (by simp) x hx (by rw[qbw];exact List.mem_append_right _ h)).symm
    exact key kids s2 (fun k h=>h) nk hfk
   rw[e1,e2,e3,e4]
variable {f:Int→Int}
mutual
theorem qkf (f:Int→Int):∀ t:CTree,qaJ (qb4 f t)=qaJ t
 | .mk op n binds kids alts=>by rw[qb4,qaJ,qaJ,qpg f kids]
theorem qpg (f:Int→Int):∀ ks:List CTree,qaF (qdf f ks)=qaF ks
 | []=>by rw[qdf]
 | k::ks=>by rw[qdf,qaF,qaF,qkf f k,qpg f ks]
end
mutual
theorem qvc (f:Int→Int):∀ t:CTree,hgt (qb4 f t)=hgt t
 | .mk op n binds kids alts=>by rw[qb4,hgt,hgt,qr1 f kids]
theorem qr1 (f:Int→Int):∀ ks:List CTree,qcS (qdf f ks)=qcS ks
 | []=>by rw[qdf]
 | k::ks=>by rw[qdf,qcS,qcS,qvc f k,qr1 f ks]
end
def qog (f:Int→Int) (x:CExpr):CExpr:=⟨x.op,qlf f x.op x.n,qhr f x.op x.binds,x.kids,x.alts.map (qhP f)⟩
theorem qpG (f:Int→Int):∀ (ks:List CTree) (b:Nat),qbl (qdf f ks) b=qbl ks b
 | [],b=>by rw[qdf]
 | k::ks,b=>by rw[qdf,qbl,qbl,qkf,qpG f ks]
mutual
theorem qrX (f:Int→Int):∀ (t:CTree) (b:Nat),qdY (qb4 f t) b=(qdY t b).map (qog f)
 | .mk op n binds kids alts,b => by
   rw[qb4,qdY,qdY,List.map_append,qpa f kids b,qpG]
   rfl
theorem qpa (f:Int→Int):∀ (ks:List CTree) (b:Nat),qbt (qdf f ks) b=(qbt ks b).map (qog f)
 | [],b=>by rw[qdf,qbt];rfl
 | k::ks,b=>by rw[qdf,qbt,qbt,List.map_append,qrX f k,qpa f ks,qkf]
end
theorem qmM (f:Int→Int) (t:CTree):qau (qb4 f t)=(qau t).map (qog f):=qrX f t 0
theorem qoq (f:Int→Int) {e:List CExpr} (h:qdr e):qdr (e.map (qog f)):=by
 intro i hi k hk
 have hi':i<e.length:=by simpa using hi
 rw[List.getElem_map] at hk
 exact h i hi' k hk
theorem qnd (f:Int→Int) {e:List CExpr} (h:qdr e):∀ k,k<e.length→qaG (e.map (qog f)) k=qb4 f (qaG e k):=by
 intro k
 induction k using Nat.strongRecOn with
 | ind k ih =>
   intro hk
   rw[qb0 _ (qoq f h) k (by simpa using hk),qb0 e h k hk,List.getElem_map,qbE]
   unfold qog
   dsimp only
   rw[List.map_map]
   congr 1
   refine List.map_congr_left fun q hq=>?_
   have:=h k hk q hq
   exact ih q.toNat (by omega) (by omega)
theorem qtj (f:Int→Int) {e:List CExpr} (h:qdr e) (i:Nat) (t':CTree):∀ k,k<e.length→qbF (e.map (qog f)) i (qb4 f t') k=qb4 f (qbF e i t' k):=by
 intro k
 induction k using Nat.strongRecOn with
 | ind k ih =>
   intro hk
   rw[qfm _ (qoq f h) i _ k (by simpa using hk),qfm e h i t' k hk]
   by_cases hki:k=i
   ·rw[if_pos hki,if_pos hki]
   ·rw[if_neg hki,if_neg hki,List.getElem_map,qbE]
    unfold qog
    dsimp only
    rw[List.map_map]
    congr 1
    refine List.map_congr_left fun q hq=>?_
    have:=h k hk q hq
    exact ih q.toNat (by omega) (by omega)
variable {f:Int→Int} {P:Int→Prop}
inductive AllI (P:Int→Prop):CTree→Prop
 | mk (op n:Int) (binds:List Int) (kids:List CTree) (alts:List CAlt) (h0:op=0→P n) (hb:∀ x∈qaq op binds alts,P x) (hk:∀ k∈kids,AllI P k):AllI P (.mk op n binds kids alts)
def Inj (P:Int→Prop) (f:Int→Int):Prop:=∀ x y,P x→P y→f x=f y→x=y
theorem qke (f:Int→Int) (t:CTree):qce (qb4 f t)=qce t:=by cases t;rw[qbE];rfl
theorem qr0 (f:Int→Int) (t:CTree):qge (qb4 f t)=qge t:=by
 cases t
 rw[qbE,qjW,qjW,List.length_map]
mutual
theorem qi9 (f:Int→Int):∀ t:CTree,qeF (qb4 f t)=qeF t
 | .mk op n binds kids alts=>by rw[qb4,qeF,qeF,qfc,List.length_map,← qfc,qmQ f kids,qlh f kids]
theorem qmQ (f:Int→Int):∀ ks:List CTree,qhv (qdf f ks)=qhv ks
 | []=>by rw[qdf]
 | k::ks=>by rw[qdf,qhv,qhv,qi9 f k,qmQ f ks]
theorem qlh (f:Int→Int):∀ ks:List CTree,qf1 (qdf f ks)=qf1 ks
 | []=>by rw[qdf]
 | k :: ks => by
   have:(qdf f ks).isEmpty=ks.isEmpty:=by rw[qfc];cases ks<;>rfl
   rw[qdf,qf1,qf1,qi9 f k,qlh f ks,this]
end
theorem qvk (hi:Inj P f) {id:Int} (hid:P id) (t:CTree) (ha:AllI P t):qhs (f id) (qb4 f t)=qhs id t:=by
 induction t using CTree.ind with
 | h op n binds kids alts ih =>
   cases ha with
   | mk _ _ _ _ _ h0 hb hk =>
   rw[qb4,qhs,qhs]
   by_cases hop:op=0
   ·rw[if_pos hop,if_pos hop]
    unfold qlf
    rw[if_pos hop]
    by_cases hn:n=id
    ·rw[if_pos hn,if_pos (by rw[hn])]
    ·rw[if_neg hn,if_neg fun h=>hn (hi n id (h0 hop) hid h)]
   ·rw[if_neg hop,if_neg hop]
    clear hop hb h0
    induction kids with
    | nil=>rw[qdf];rw[qeS,qeS]
    | cons k ks ihk =>
      rw[qdf,qeS,qeS,ih k (by simp) (hk k (by simp)),ihk (fun q hq=>ih q (by simp[hq])) fun q hq=>hk q (by simp[hq])]
theorem qwe (hi:Inj P f) {id:Int} (hid:P id) (A:CTree) (t:CTree) (ha:AllI P t):qdq (f id) (qb4 f A) (qb4 f t)=qb4 f (qdq id A t):=by
 induction t using CTree.ind with
 | h op n binds kids alts ih =>
   cases ha with
   | mk _ _ _ _ _ h0 hb hk =>
   rw[qbE,qdq,qdq,qen,qen]
   by_cases hop:op=0∧n=id
   ·rw[if_pos hop,if_pos]
    obtain⟨h1,h2⟩:=hop
    unfold qlf
    rw[if_pos h1,h2]
    exact⟨h1,rfl⟩
   ·rw[if_neg hop,if_neg,qbE,List.map_map,List.map_map]
    ·congr 1
     exact List.map_congr_left fun k hkm=>ih k hkm (hk k hkm)
    ·rintro ⟨h1,h2⟩
     unfold qlf at h2
     rw[if_pos h1] at h2
     exact hop ⟨h1,hi n id (h0 h1) hid h2⟩
theorem qlg (f:Int→Int) (id:Int) (v b:CTree):qb4 f (qma id v b)=qma (f id) (qb4 f v) (qb4 f b):=by
 unfold qma
 rw[qbE]
 rfl
theorem qnM (f:Int→Int):∀ (ids:List Int) (vs:List CTree) (b:CTree),qb4 f (qdX ids vs b)=qdX (ids.map f) (vs.map (qb4 f)) (qb4 f b)
 | [],vs,b=>by cases vs<;>rfl
 | id::ids,[],b=>rfl
 | id :: ids,v :: vs,b => by
   rw[List.map_cons,List.map_cons,qdX,qdX,qlg,qnM f ids vs b]
theorem qpf (f:Int→Int) (n:Int):∀ (rb:List Int) (rk:List CTree),qcJ n rb (rk.map (qb4 f))=(qcJ n rb rk).map (qb4 f)
 | [],rk=>by cases rk<;>rfl
 | l::ls,[]=>rfl
 | l :: ls,k :: ks => by
   rw[List.map_cons,qcJ,qcJ]
   by_cases h:l=n
   ·rw[if_pos h,if_pos h];rfl
   ·rw[if_neg h,if_neg h,qpf f n ls ks]
theorem qmP (f:Int→Int) (cn:Int) (ck:List CTree) (c:CTree):∀ (as:List CAlt) (bs:List CTree),qbI cn (ck.map (qb4 f)) (qb4 f c) (as.map (qhP f)) (bs.map (qb4 f))=(qbI cn ck c as bs).map (qb4 f)
 | [],bs=>by cases bs<;>rfl
 | a::as,[]=>rfl
 | a :: as,b :: bs => by
   rw[List.map_cons,List.map_cons,qbI,qbI]
   unfold qhP
   dsimp only
   rw[List.length_map,List.length_map,qi9]
   by_cases h1:a.tag=cn
   ·rw[if_pos h1,if_pos h1]
    by_cases h2:a.binds.length≠ck.length
    ·rw[if_pos h2,if_pos h2];rfl
    ·rw[if_neg h2,if_neg h2,Option.map_some,qnM]
   ·rw[if_neg h1,if_neg h1]
    by_cases h2:a.tag = -1∧qeF c=true
    ·rw[if_pos h2,if_pos h2];rfl
    ·rw[if_neg h2,if_neg h2]
     exact qmP f cn ck c as bs
theorem qvb (f:Int→Int) (n a b:Int):(qeY n a b).map (qb4 f)=qeY n a b:=by
 have e1:∀ z,qb4 f (qyB z)=qyB z:=fun z=>by unfold qyB;rw[qbE];rfl
 have e2:∀ z,qb4 f (qBd z)=qBd z:=fun z=>by unfold qBd;rw[qbE];rfl
 unfold qeY
 repeat' split
 all_goals first
  | rfl
  | rw[Option.map_some,e1]
  | rw[Option.map_some,e2]
theorem qdI {ks:List CTree} {j:Nat} (h:j<ks.length):(ks.map (qb4 f)).getD j .none=qb4 f (ks.getD j .none):=by
 rw[List.getD_eq_getElem?_getD,List.getD_eq_getElem?_getD,List.getElem?_map,List.getElem?_eq_getElem h]
 rfl
theorem qqP (hi:Inj P f) (rule n id:Int) (v body:CTree) (alts:List CAlt) (hv:ShT v) (ha:AllI P body) (hid:P id) :
  qeb rule (.mk 4 n [f id] [qb4 f v,qb4 f body] (alts.map (qhP f)))=(qeb rule (.mk 4 n [id] [v,body] alts)).map (qb4 f):=by
 cases v with
 | mk vo vn vb vk va =>
 cases hv with
 | mk _ _ _ _ _ hsh hvk =>
 have hA:qge (qb4 f (.mk vo vn vb vk va))=qge (.mk vo vn vb vk va):=qr0 f _
 have hV:qeF (qb4 f (.mk vo vn vb vk va))=qeF (.mk vo vn vb vk va):=qi9 f _
 have hO:=qvk hi hid body ha
 have hS:=qwe hi hid (.mk vo vn vb vk va) body ha
 rw[qdw]
 rw[qbE] at hA hV hS ⊢
 rw[qdw,hA,hV,hO]
 by_cases c2:rule=2∧qge (.mk vo vn vb vk va)=true
 ·rw[if_pos c2,if_pos c2,Option.map_some,hS]
 rw[if_neg c2,if_neg c2]
 by_cases c3:rule=3∧qhs id body=0∧qeF (.mk vo vn vb vk va)=true
 ·rw[if_pos c3,if_pos c3];rfl
 rw[if_neg c3,if_neg c3]
 by_cases c8:rule=8∧vo=4
 ·rw[if_pos c8,if_pos c8,Option.map_some,qlg,qlg]
  obtain⟨k2,b1,_,_⟩:=qcE hsh c8.2
  obtain⟨x,rfl⟩:=qhK b1
  rw[qdI (by omega),qdI (by omega),c8.2]
  rfl
 rw[if_neg c8,if_neg c8,List.length_map]
 by_cases c9:rule=9∧vo=7∧va.length=1
 ·rw[if_pos c9,if_pos c9,Option.map_some,qbE]
  have hk:=(qdC hsh).1 (.inl c9.2.1)
  rw[qdI (by omega),qdI (by omega),List.map_cons,List.map_cons,List.map_nil,qlg]
  rfl
 rw[if_neg c9,if_neg c9]
 by_cases c11:rule=11∧vo=2∧qhs id body=1
 ·rw[if_pos c11,if_pos c11,Option.map_some,hS]
 rw[if_neg c11,if_neg c11]
 rfl
theorem qrj {α:Type} {p q:α→Bool} {l:List α} (h:∀ x∈l,p x=q x):l.any p=l.any q:=by
 rw[Bool.eq_iff_iff,List.any_eq_true,List.any_eq_true]
 exact⟨fun ⟨x,hx,hp⟩=>⟨x,hx,by rw[← h x hx];exact hp⟩,fun ⟨x,hx,hp⟩=>⟨x,hx,by rw[h x hx];exact hp⟩⟩
theorem qs5 (hi:Inj P f) (n:Int) (binds:List Int) (kids:List CTree) (alts:List CAlt) (hk:kids.length=binds.length+1) (ha:∀ k∈kids,AllI P k) (hb:∀ x∈binds,P x) :
  qf0 (.mk 5 n (binds.map f) (kids.map (qb4 f)) (alts.map (qhP f)))=qf0 (.mk 5 n binds kids alts):=by
 unfold qf0
 dsimp only
 rw[List.length_map,qdI (by omega),List.any_map]
 congr 1
 have hm:kids.getD binds.length .none∈kids:=by
  rw[List.getD_eq_getElem?_getD,List.getElem?_eq_getElem (by omega)]
  exact List.getElem_mem _
 refine qrj fun x hx=>?_
 show decide (0<qhs (f x) (qb4 f (kids.getD binds.length .none)))=_
 rw[qvk hi (hb x hx) _ (ha _ hm)]
theorem qvT (rule n:Int) (binds:List Int) (kids:List CTree) (alts:List CAlt):qiO rule 0 (.mk 3 n binds kids alts)=if rule=1∧qce (kids.getD 0 .none)=2∧(qkx (kids.getD 0 .none)).length=kids.length-1 then some (qdX (qkx (kids.getD 0 .none)) (kids.drop 1) ((qAz (kids.getD 0 .none)).getD 0 .none)) else none:=by
 rw[qiO]
 simp only[ne_eq,not_true_eq_false,Int.reduceEq,false_and,and_false,true_and,if_false]
theorem qvU (rule n:Int) (binds:List Int) (kids:List CTree) (alts:List CAlt):qiO rule 0 (.mk 4 n binds kids alts)=qeb rule (.mk 4 n binds kids alts):=by
 rw[qiO]
 simp only[ne_eq,not_true_eq_false,Int.reduceEq,false_and,and_false,true_and,if_false,if_true]
theorem qvV (rule n:Int) (binds:List Int) (kids:List CTree) (alts:List CAlt):qiO rule 0 (.mk 5 n binds kids alts)=if rule=4∧qf0 (.mk 5 n binds kids alts)=true then some (kids.getD binds.length .none) else none:=by
 rw[qiO]
 simp only[ne_eq,not_true_eq_false,Int.reduceEq,false_and,and_false,true_and,if_false]
theorem qvW (rule n:Int) (binds:List Int) (kids:List CTree) (alts:List CAlt):qiO rule 0 (.mk 7 n binds kids alts)=if rule=5∧qce (kids.getD 0 .none)=6 then qnu (.mk 7 n binds kids alts) else none:=by
 rw[qiO]
 simp only[ne_eq,not_true_eq_false,Int.reduceEq,false_and,and_false,true_and,if_false]
theorem qvX (rule n:Int) (binds:List Int) (kids:List CTree) (alts:List CAlt):qiO rule 0 (.mk 8 n binds kids alts)=if rule=6∧kids.length=2 then qrl (.mk 8 n binds kids alts) else none:=by
 rw[qiO]
 simp only[ne_eq,not_true_eq_false,Int.reduceEq,false_and,and_false,true_and,if_false]
theorem qq1 (rule n:Int) (binds:List Int) (kids:List CTree) (alts:List CAlt):qiO rule 0 (.mk 10 n binds kids alts)=if rule=7 then qrA (.mk 10 n binds kids alts) else none:=by
 rw[qiO]
 simp only[ne_eq,not_true_eq_false,Int.reduceEq,false_and,and_false,and_true,true_and,if_false]
theorem qq2 (rule op n:Int) (binds:List Int) (kids:List CTree) (alts:List CAlt) (h:op≠3∧op≠4∧op≠5∧op≠7∧op≠8∧op≠10):qiO rule 0 (.mk op n binds kids alts)=none:=by
 obtain⟨h3,h4,h5,h7,h8,h10⟩:=h
 rw[qiO]
 simp only[ne_eq,not_true_eq_false,h3,h4,h5,h7,h8,h10,false_and,and_false,true_and,if_false]
theorem qvY (rule N:Int) (t:CTree) (h:N≠0):qiO rule N t=none:=by
 cases t
 rw[qiO,if_pos h]
theorem qAT (hi:Inj P f) (rule N:Int) (t:CTree) (hs:ShT t) (ha:AllI P t):qiO rule N (qb4 f t)=(qiO rule N t).map (qb4 f):=by
 by_cases hN:N≠0
 ·rw[qvY _ _ _ hN,qvY _ _ _ hN];rfl
 have hN0:N=0:=Classical.not_not.1 hN
 subst hN0
 cases hs with
 | mk op n binds kids alts hsh hks =>
 cases ha with
 | mk _ _ _ _ _ h0 hb hk =>
 rw[qbE]
 by_cases h3:op=3
 ·subst h3
  have hl:=(qcm hsh).2.1 (.inr (.inl rfl))
  have hg:=qdI (f:=f) hl
  rw[qvT,qvT,hg,qke,List.length_map]
  have hm:kids.getD 0 .none∈kids:=by
   rw[List.getD_eq_getElem?_getD,List.getElem?_eq_getElem hl]
   exact List.getElem_mem _
  have hsk:=hks _ hm
  generalize hk0:kids.getD 0 .none=k0 at *
  cases hsk with
  | mk o1 n1 b1 k1 a1 hsh1 hsk1 =>
  rw[qbE]
  have e1:qce (.mk o1 n1 b1 k1 a1)=o1:=rfl
  have e2:∀ (x:Int) (bb:List Int) kk aa,qkx (.mk o1 x bb kk aa)=bb:=fun _ _ _ _=>rfl
  have e3:∀ (x:Int) (bb:List Int) kk aa,qAz (.mk o1 x bb kk aa)=kk:=fun _ _ _ _=>rfl
  rw[e1,e2,e2,e3,e3]
  have hbl:(qhr f o1 b1).length=b1.length:=by unfold qhr;split<;>simp
  rw[hbl]
  by_cases c1:rule=1∧o1=2∧b1.length=kids.length-1
  ·rw[if_pos c1,if_pos c1,Option.map_some,qnM]
   obtain⟨_,rfl,_⟩:=c1
   have hk1:=(qcm hsh1).1 rfl
   rw[qdI (by omega),List.map_drop]
   rfl
  ·rw[if_neg c1,if_neg c1];rfl
 by_cases h4:op=4
 ·subst h4
  rw[qvU,qvU]
  obtain⟨k2,b1,_,_⟩:=qcE hsh rfl
  obtain⟨v,body,rfl⟩:=qhL k2
  obtain⟨id,rfl⟩:=qhK b1
  exact qqP hi rule n id v body alts (hks v (by simp)) (hk body (by simp)) (hb id (by simp[qaq,qbS]))
 by_cases h5:op=5
 ·subst h5
  have hkl:=qdT hsh rfl
  have hu:=qs5 hi n binds kids alts hkl hk (fun x hx=>hb x (by simp[qaq,qbS,hx]))
  have e1:qlf f 5 n=n:=rfl
  have e2:qhr f 5 binds=binds.map f:=rfl
  rw[e1,e2,qvV,qvV,hu,List.length_map]
  by_cases c:rule=4∧qf0 (.mk 5 n binds kids alts)=true
  ·rw[if_pos c,if_pos c,Option.map_some,qdI (by omega)]
  ·rw[if_neg c,if_neg c];rfl
 by_cases h7:op=7
 ·subst h7
  have hl:=(qcm hsh).2.1 (.inr (.inr (.inl rfl)))
  have hg:=qdI (f:=f) hl
  rw[qvW,qvW,hg,qke]
  by_cases c:rule=5∧qce (kids.getD 0 .none)=6
  ·rw[if_pos c,if_pos c]
   cases kids with
   | nil=>simp at hl
   | cons k0 ks =>
     cases k0 with
     | mk co cn cb ck ca =>
     have hco:co=6:=c.2
     subst hco
     have hc:=qmP f cn ck (.mk 6 cn cb ck ca) alts ks
     rw[qbE] at hc
     rw[List.map_cons,qbE,qe3,qe3]
     exact hc
  ·rw[if_neg c,if_neg c];rfl
 by_cases h8:op=8
 ·subst h8
  rw[qvX,qvX,List.length_map]
  by_cases c:rule=6∧kids.length=2
  ·rw[if_pos c,if_pos c]
   obtain⟨k0,k1,rfl⟩:=qhL c.2
   cases k0 with
   | mk o0 a b0 q0 a0 =>
   cases k1 with
   | mk o1 b b1 q1 a1 =>
   rw[List.map_cons,List.map_cons,List.map_nil,qbE,qbE,qgd,qgd]
   have e1:qlf f 8 n=n:=rfl
   rw[e1]
   by_cases d:6<n∨o0≠1∨o1≠1
   ·rw[if_pos d,if_pos d];rfl
   ·rw[if_neg d,if_neg d]
    have d0:o0=1:=Classical.not_not.1 fun h=>d (.inr (.inl h))
    have d1:o1=1:=Classical.not_not.1 fun h=>d (.inr (.inr h))
    subst d0
    subst d1
    rw[qvb]
    rfl
  ·rw[if_neg c,if_neg c];rfl
 by_cases h10:op=10
 ·subst h10
  rw[qq1,qq1]
  by_cases c:rule=7
  ·rw[if_pos c,if_pos c]
   obtain⟨r,rfl⟩:=qhK (qiG hsh)
   cases r with
   | mk ro rn rb rk ra =>
   rw[List.map_cons,List.map_nil]
   have hv:=qi9 f (.mk ro rn rb rk ra)
   rw[qbE] at hv ⊢
   rw[qgn,qgn,hv]
   by_cases d:ro≠9∨qeF (.mk ro rn rb rk ra)=false
   ·rw[if_pos d,if_pos d];rfl
   ·rw[if_neg d,if_neg d]
    have d0:ro=9:=Classical.not_not.1 fun h=>d (.inl h)
    subst d0
    exact qpf f n rb rk
  ·rw[if_neg c,if_neg c];rfl
 rw[qq2 _ _ _ _ _ _ ⟨h3,h4,h5,h7,h8,h10⟩,qq2 _ _ _ _ _ _ ⟨h3,h4,h5,h7,h8,h10⟩]
 rfl
variable {f:Int→Int} {P:Int→Prop}
def qCa (f:Int→Int) (l:Lab):Lab:=⟨l.op,qlf f l.op l.n,qhr f l.op l.binds,l.kops,l.alts.map (qhP f)⟩
theorem qvd (f:Int→Int) (ks:List CTree):(qdf f ks).map qce=ks.map qce:=by
 rw[qfc,List.map_map]
 exact List.map_congr_left fun k _=>qke f k
mutual
theorem qlp (f:Int→Int):∀ t:CTree,qbg (qb4 f t)=(qbg t).map (qCa f)
 | .mk op n binds kids alts => by
   rw[qb4,qbg,qbg,List.map_append,qmW f kids,qvd]
   rfl
theorem qmW (f:Int→Int):∀ ks:List CTree,qaY (qdf f ks)=(qaY ks).map (qCa f)
 | []=>by rw[qdf,qaY];rfl
 | k::ks=>by rw[qdf,qaY,qaY,List.map_append,qlp f k,qmW f ks]
end
theorem qo3 (f:Int→Int) (l:Lab):qbn (qCa f l)=(qbn l).map f:=qhy f l.op l.binds l.alts
theorem qjr (f:Int→Int) (t:CTree):qaR (qb4 f t)=(qaR t).map f:=by
 unfold qaR
 rw[qlp,List.flatMap_map,List.map_flatMap]
 congr 1
 funext l
 exact qo3 f l
theorem AllI.mono {Q:Int→Prop} (h:∀ x,P x→Q x) {t:CTree} (ha:AllI P t):AllI Q t:=by
 induction ha with
 | mk op n binds kids alts h0 hb hk ih=>exact .mk _ _ _ _ _ (fun h1=>h _ (h0 h1)) (fun x hx=>h x (hb x hx)) ih
theorem qtP (t:CTree):(∀ x∈qaR t,P x)→(∀ x,qbx x t→P x)→AllI P t:=by
 induction t using CTree.ind with
 | h op n binds kids alts ih =>
   intro hb hf
   rw[qby] at hb
   refine .mk _ _ _ _ _ (fun h0=>hf n (by rw[qbx];exact .inl ⟨h0,rfl⟩)) (fun x hx=>hb x (List.mem_append_right _ hx)) fun k hk=>ih k hk (fun x hx=>hb x (List.mem_append_left _ (qd3 hk x hx))) fun x hx=>?_
   rcases qk3 (op:=op) (n:=n) (binds:=binds) (alts:=alts) hk hx with h | h
   ·exact hf x h
   ·exact hb x (List.mem_append_right _ h)
theorem qjp {t:CTree} (ha:AllI P t):∀ x∈qaR t,P x:=by
 induction ha with
 | mk op n binds kids alts h0 hb hk ih =>
   intro x hx
   rw[qby] at hx
   rcases List.mem_append.1 hx with hx | hx
   ·unfold qbH at hx
    obtain⟨l,hl,hx⟩:=List.mem_flatMap.1 hx
    have key:∀ ks:List CTree,l∈qaY ks→∃ k∈ks,l∈qbg k:=by
     intro ks
     induction ks with
     | nil=>intro h;rw[qaY] at h;cases h
     | cons k ks ihk =>
       intro h
       rw[qaY] at h
       rcases List.mem_append.1 h with h | h
       ·exact⟨k,by simp,h⟩
       ·obtain⟨q,hq,h⟩:=ihk h
        exact⟨q,by simp[hq],h⟩
    obtain⟨k,hk',hl⟩:=key kids hl
    exact ih k hk' x (List.mem_flatMap.2 ⟨l,hl,hx⟩)
   ·exact hb x hx
theorem qBS (f:Int→Int) (as:List CAlt):(as.map (qhP f)).map sgA=as.map sgA:=by
 rw[List.map_map]
 refine List.map_congr_left fun a _=>?_
 show sgA (qhP f a)=sgA a
 unfold sgA qhP
 dsimp only
 rw[List.length_map]
theorem qAC (hr:∀ x,P x→0≤f x∧f x≤1048575) (t:CTree) (h:∀ l∈qbg t,qbL false l=0) (ha:AllI P t):∀ l∈qbg (qb4 f t),qbL false l=0:=by
 have key:∀ t:CTree,AllI P t→∀ l∈qbg t,(l.op=0→P l.n)∧∀ x∈qbn l,P x:=by
  intro t ha
  induction ha with
  | mk op n binds kids alts h0 hb hk ih =>
    intro l hl
    rw[qbg] at hl
    rcases List.mem_append.1 hl with hl | hl
    ·clear h0 hb
     have:∀ ks:List CTree,(∀ k∈ks,k∈kids)→l∈qaY ks→(l.op=0→P l.n)∧∀ x∈qbn l,P x:=by
      intro ks
      induction ks with
      | nil=>intro _ h;rw[qaY] at h;cases h
      | cons k ks ihk =>
        intro hm h
        rw[qaY] at h
        rcases List.mem_append.1 h with h | h
        ·exact ih k (hm k (by simp)) l h
        ·exact ihk (fun q hq=>hm q (by simp[hq])) h
     exact this kids (fun k h=>h) hl
    ·rw[List.mem_singleton.1 hl]
     exact⟨h0,hb⟩
 intro l hl
 rw[qlp] at hl
 obtain⟨q,hq,rfl⟩:=List.mem_map.1 hl
 obtain⟨p0,pb⟩:=key t ha q hq
 have hlab:=h q hq
 obtain⟨op,n,binds,ko,as⟩:=q
 unfold qCa
 dsimp only at p0 ⊢
 unfold qbL at hlab ⊢
 dsimp only at hlab ⊢
 split at hlab
 ·cases hlab
 ·rename_i hop
  rw[if_neg hop]
  obtain⟨_,hrg⟩:=qdb (h _ hq)
  dsimp only at hrg
  refine quw hlab (fun h=>?_) (fun h=>?_) ?_ (fun h=>?_) (fun x hx=>?_) (qBS f as).symm fun c hc x hx=>?_
  ·unfold qlf;rw[if_neg h]
  ·unfold qlf;rw[if_pos h];exact hr n (p0 h)
  ·unfold qhr;split<;>simp
  ·subst h;rfl
  ·unfold qhr at hx
   split at hx
   ·rename_i hob
    obtain⟨y,hy,rfl⟩:=List.mem_map.1 hx
    exact hr y (pb y (by unfold qbn qaq;dsimp only;rw[if_pos hob];exact List.mem_append_left _ hy))
   ·unfold qbZ at hrg
    split at hrg
    ·cases hrg
    ·split at hrg
     ·cases hrg
     ·rename_i hr2
      rw[Bool.not_eq_true,List.any_eq_false] at hr2
      have:=hr2 x hx
      unfold qdW at this
      simpa using this
  ·obtain⟨a,ha',rfl⟩:=List.mem_map.1 hc
   unfold qhP at hx
   dsimp only at hx
   obtain⟨y,hy,rfl⟩:=List.mem_map.1 hx
   exact hr y (pb y (by unfold qbn qaq;dsimp only;exact List.mem_append_right _ (List.mem_flatMap.2 ⟨a,ha',hy⟩)))
theorem qpk {l:List Int} (hi:Inj P f) (hp:∀ x∈l,P x) (hn:l.Nodup):(l.map f).Nodup:=by
 induction l with
 | nil=>exact List.nodup_nil
 | cons x l ih =>
   rw[List.nodup_cons] at hn
   rw[List.map_cons,List.nodup_cons]
   refine⟨fun h=>?_,ih (fun y hy=>hp y (by simp[hy])) hn.2⟩
   obtain⟨y,hy,he⟩:=List.mem_map.1 h
   have:=hi y x (hp y (by simp[hy])) (hp x (by simp)) he
   exact hn.1 (this ▸ hy)
theorem qAF (hi:Inj P f) (hr:∀ x,P x→0≤f x∧f x≤1048575) {t:CTree} (h:TOk t) (ha:AllI P t):TOk (qb4 f t):=by
 refine⟨by rw[qkf];exact h.size,by rw[qvc];exact h.deep,qAC hr t h.lab ha,?_⟩
 have:=qjr f t
 unfold qaR at this
 rw[this]
 exact qpk hi (qjp ha) h.once
theorem qtY (f:Int→Int) (op:Int) (binds:List Int) (alts:List CAlt) (k:Nat):qbz op (qhr f op binds) (alts.map (qhP f)) k=(qbz op binds alts k).map f:=by
 unfold qbz
 by_cases h:op=2∨op=5∨(op=4∧k=1)
 ·rw[if_pos h,if_pos h]
  unfold qhr
  rw[if_pos]
  unfold qbS
  rcases h with h | h | h
  ·subst h;rfl
  ·subst h;rfl
  ·rw[h.1];rfl
 ·rw[if_neg h,if_neg h]
  by_cases h0:0<k
  ·rw[if_pos h0,if_pos h0,List.getElem?_map]
   cases alts[k-1]? <;> rfl
  ·rw[if_neg h0,if_neg h0];rfl
theorem qxH (f:Int→Int) (t:CTree):∀ y,qbx y (qb4 f t)→∃ x,qbx x t∧y=f x:=by
 induction t using CTree.ind with
 | h op n binds kids alts ih =>
   intro y hy
   rw[qbE,qbx,qbV] at hy
   rcases hy with ⟨h0,hn⟩ | ⟨j,hj,hf,hb⟩
   ·refine⟨n,by rw[qbx];exact .inl ⟨h0,rfl⟩,?_⟩
    unfold qlf at hn
    rw[if_pos h0] at hn
    exact hn.symm
   ·rw[List.length_map] at hj
    rw[List.getElem_map] at hf
    obtain⟨x,hx,rfl⟩:=ih _ (List.getElem_mem hj) y hf
    refine⟨x,?_,rfl⟩
    rw[qbx,qbV]
    refine .inr ⟨j,hj,hx,fun h=>hb ?_⟩
    rw[qtY]
    exact List.mem_map_of_mem h
theorem qs4 (f:Int→Int) {t:CTree} (h:qda t=[]):qda (qb4 f t)=[]:=by
 refine List.eq_nil_iff_forall_not_mem.2 fun y hy=>?_
 obtain⟨x,hx,_⟩:=qxH f t y ((qe5 _ y).1 hy)
 have:=(qe5 t x).2 hx
 rw[h] at this
 cases this
variable {f:Int→Int} {P:Int→Prop}
def qBb (f:Int→Int) (m:IM Int):Prop:=∀ x y,qaW x m=some y→y=f x
theorem qyi (f:Int→Int) (l:List Int):∀ m:IM Int,qBb f m→qBb f (qd1 l (l.map f) m)∧(∀ x,(qaW x m≠none∨x∈l)→qaW x (qd1 l (l.map f) m)≠none):=by
 induction l with
 | nil=>intro m h;exact⟨h,fun x hx=>hx.elim id fun h=>by cases h⟩
 | cons v l ih =>
   intro m h
   have e:qd1 (v::l) ((v::l).map f) m=qd1 l (l.map f) (qlv v (f v) m):=rfl
   rw[e]
   obtain⟨c1,c2⟩:=ih (qlv v (f v) m) fun x y hy=>by
    rw[qcd] at hy
    by_cases hx:x=v
    ·rw[if_pos hx] at hy;injection hy with hy;rw[hx,hy]
    ·rw[if_neg hx] at hy;exact h x y hy
   refine⟨c1,fun x hx=>c2 x ?_⟩
   rw[qcd]
   by_cases hv:x=v
   ·rw[if_pos hv];exact .inl (by simp)
   ·rw[if_neg hv]
    rcases hx with hx | hx
    ·exact .inl hx
    ·rcases List.mem_cons.1 hx with hx | hx
     ·exact absurd hx hv
     ·exact .inr hx
theorem qsp (f:Int→Int) (as:List CAlt):qeW as (as.map (qhP f))=false:=by
 cases hq:qeW as (as.map (qhP f)) with
 | false=>rfl
 | true =>
   exfalso
   obtain⟨i,hi,h⟩:=(qgS (qgb (as.map (qhP f))) as 0).1 hq
   unfold qgb at h
   rw[Nat.zero_add,List.getElem?_map,List.getElem?_eq_getElem hi] at h
   simp[qhP] at h
theorem qyc (t:CTree) (h:BGt t):∀ m:IM Int,qBb f m→(∀ x,qbx x t→qaW x m≠none)→(qf9 t (qb4 f t) m).1=true∧qBb f (qf9 t (qb4 f t) m).2∧∀ x,qaW x m≠none→qaW x (qf9 t (qb4 f t) m).2≠none:=by
 induction t using CTree.ind with
 | h op n binds kids alts ih =>
   intro m hm hfree
   cases h with
   | mk _ _ _ _ _ hb hz hk =>
   have hbl:binds.length=(qhr f op binds).length:=by unfold qhr;split<;>simp
   rw[qbE,qf9,if_neg (by simp[← hbl])]
   by_cases h0:op=0
   ·rw[if_pos h0]
    have hd:=hfree n (by rw[qbx];exact .inl ⟨h0,rfl⟩)
    refine⟨?_,hm,fun x h=>h⟩
    unfold qof qlf
    rw[if_pos h0]
    cases hq:qaW n m with
    | none=>exact absurd hq hd
    | some y=>rw[hm n y hq];simp
   ·rw[if_neg h0,if_neg,if_neg (by rw[qsp];simp),qhy]
    ·obtain⟨c1,c2⟩:=qyi f (qaq op binds alts) m hm
     have hf3:∀ k∈kids,∀ x,qbx x k→qaW x (qd1 (qaq op binds alts) ((qaq op binds alts).map f) m)≠none:=by
      intro k hk x hx
      rcases qk3 (op:=op) (n:=n) (binds:=binds) (alts:=alts) hk hx with h | h
      ·exact c2 x (.inl (hfree x h))
      ·exact c2 x (.inr h)
     have hd3:∀ x,qaW x m≠none→qaW x (qd1 (qaq op binds alts) ((qaq op binds alts).map f) m)≠none:=fun x h=>c2 x (.inl h)
     generalize qd1 (qaq op binds alts) ((qaq op binds alts).map f) m=m2 at *
     clear hb hz c2 hfree hbl
     have key:∀ (ks:List CTree) (m:IM Int),(∀ k∈ks,k∈kids)→qBb f m→(∀ k∈ks,∀ x,qbx x k→qaW x m≠none)→(qdc ks (ks.map (qb4 f)) m).1=true∧qBb f (qdc ks (ks.map (qb4 f)) m).2∧∀ x,qaW x m≠none→qaW x (qdc ks (ks.map (qb4 f)) m).2≠none:=by
      intro ks
      induction ks with
      | nil=>intro m _ h _;rw[List.map_nil,qdc];exact⟨rfl,h,fun x h=>h⟩
      | cons k ks ihk =>
        intro m hmem h hf
        obtain⟨d1,d2,d3⟩:=ih k (hmem k (by simp)) (hk k (hmem k (by simp))) m h (hf k (by simp))
        rw[List.map_cons,qdc]
        cases hq:qf9 k (qb4 f k) m with
        | mk b m1 =>
          rw[hq] at d1 d2 d3
          dsimp only at d1 d2 d3
          subst d1
          obtain⟨e1,e2,e3⟩:=ihk m1 (fun q hq=>hmem q (by simp[hq])) d2 fun q hq x hx=>d3 x (hf q (by simp[hq]) x hx)
          exact⟨e1,e2,fun x hx=>e3 x (d3 x hx)⟩
     obtain⟨k1,k2,k3⟩:=key kids m2 (fun k h=>h) c1 hf3
     exact⟨k1,k2,fun x hx=>k3 x (hd3 x hx)⟩
    ·rintro (h | ⟨h9,h⟩)
     ·unfold qlf at h;rw[if_neg h0] at h;exact h rfl
     ·subst h9;exact h rfl
theorem qhW {id:Int} {v b:CTree} (hid:P id) (hv:AllI P v) (hb:AllI P b):AllI P (qma id v b):=by
 refine .mk _ _ _ _ _ (fun h=>absurd h (by decide)) (fun x hx=>?_) fun k hk=>?_
 ·have:x=id:=by simpa[qaq,qbS] using hx
  rw[this];exact hid
 ·rcases List.mem_cons.1 hk with rfl | hk
  ·exact hv
  ·rw[List.mem_singleton.1 hk];exact hb
theorem qkt:∀ (ids:List Int) (vs:List CTree) (b:CTree),(∀ x∈ids,P x)→(∀ v∈vs,AllI P v)→AllI P b→AllI P (qdX ids vs b)
 | [],vs,b,_,_,hb=>by cases vs<;>exact hb
 | id::ids,[],b,_,_,hb=>hb
 | id :: ids,v :: vs,b,hi,hv,hb => by
   rw[qdX]
   exact qhW (hi id (by simp)) (hv v (by simp)) (qkt ids vs b (fun x hx=>hi x (by simp[hx])) (fun x hx=>hv x (by simp[hx])) hb)
theorem qmp (id:Int) {A:CTree} (hA:AllI P A) (t:CTree) (h:AllI P t):AllI P (qdq id A t):=by
 induction h with
 | mk op n binds kids alts h0 hb hk ih =>
   rw[qdq,qen]
   split
   ·exact hA
   ·refine .mk _ _ _ _ _ h0 hb fun k hk'=>?_
    obtain⟨q,hq,rfl⟩:=List.mem_map.1 hk'
    exact ih q hq
theorem qeH {op n:Int} {binds:List Int} {kids:List CTree} {alts:List CAlt} (h:AllI P (.mk op n binds kids alts)):∀ k∈kids,AllI P k:=by
 cases h with | mk _ _ _ _ _ _ _ hk=>exact hk
theorem qnm {op n:Int} {binds:List Int} {kids:List CTree} {alts:List CAlt} (h:AllI P (.mk op n binds kids alts)):∀ x∈qaq op binds alts,P x:=by
 cases h with | mk _ _ _ _ _ _ hb _=>exact hb
theorem qeL {ks:List CTree} {j:Nat} (h:j<ks.length):ks.getD j .none∈ks:=by
 rw[List.getD_eq_getElem?_getD,List.getElem?_eq_getElem h]
 exact List.getElem_mem _
theorem qks (cn:Int) {ck:List CTree} (c:CTree) (hc:∀ k∈ck,AllI P k):∀ (as:List CAlt) (bs:List CTree),(∀ a∈as,∀ x∈a.binds,P x)→(∀ b∈bs,AllI P b)→∀ r,qbI cn ck c as bs=some r→AllI P r
 | [],bs,_,_,r,h=>by cases bs<;>cases h
 | a::as,[],_,_,r,h=>by cases h
 | a :: as,b :: bs,ha,hb,r,h => by
   rw[qbI] at h
   split at h
   ·split at h
    ·cases h
    ·injection h with h
     subst h
     exact qkt _ _ _ (ha a (by simp)) hc (hb b (by simp))
   ·split at h
    ·injection h with h
     subst h
     exact hb b (by simp)
    ·exact qks cn c hc as bs (fun x hx=>ha x (by simp[hx])) (fun x hx=>hb x (by simp[hx])) r h
theorem qmo (n:Int):∀ (rb:List Int) (rk:List CTree),(∀ k∈rk,AllI P k)→∀ r,qcJ n rb rk=some r→AllI P r
 | [],rk,_,r,h=>by cases rk<;>cases h
 | l::ls,[],_,r,h=>by cases h
 | l :: ls,k :: ks,hk,r,h => by
   rw[qcJ] at h
   split at h
   ·injection h with h
    subst h
    exact hk k (by simp)
   ·exact qmo n ls ks (fun x hx=>hk x (by simp[hx])) r h
theorem qsn (n a b:Int):∀ r,qeY n a b=some r→AllI P r:=by
 have e1:∀ z,AllI P (qyB z):=fun z=>.mk _ _ _ _ _ (fun h=>absurd h (by decide)) (fun x hx=>by cases hx) fun k hk=>by cases hk
 have e2:∀ z,AllI P (qBd z):=fun z=>.mk _ _ _ _ _ (fun h=>absurd h (by decide)) (fun x hx=>by cases hx) fun k hk=>by cases hk
 intro r h
 unfold qeY at h
 repeat' split at h
 all_goals first
  | cases h;exact e1 _
  | cases h;exact e2 _
  | cases h
theorem qwK (rule N:Int) (t:CTree) (hs:ShT t) (ha:AllI P t):∀ r,qiO rule N t=some r→AllI P r:=by
 intro r h
 by_cases hN:N≠0
 ·rw[qvY _ _ _ hN] at h;cases h
 have hN0:N=0:=Classical.not_not.1 hN
 subst hN0
 cases hs with
 | mk op n binds kids alts hsh hks =>
 have hk:=qeH ha
 have hb:=qnm ha
 by_cases h3:op=3
 ·subst h3
  rw[qvT] at h
  split at h
  ·rename_i c
   injection h with h
   subst h
   have hl:=(qcm hsh).2.1 (.inr (.inl rfl))
   have hm:=qeL hl
   have h0:=hk _ hm
   have hsk:=hks _ hm
   obtain⟨_,c1,c2⟩:=c
   generalize kids.getD 0 .none=k0 at *
   cases hsk with
   | mk o1 n1 b1 k1 a1 hsh1 hsk1 =>
   have ho:o1=2:=c1
   subst ho
   have hk1:=(qcm hsh1).1 rfl
   exact qkt _ _ _ (fun x hx=>qnm h0 x (by show x∈qaq 2 b1 a1;unfold qaq;exact List.mem_append_left _ hx)) (fun v hv=>hk v (List.mem_of_mem_drop hv)) (qeH h0 _ (qeL (by show 0<k1.length;omega)))
  ·cases h
 by_cases h4:op=4
 ·subst h4
  rw[qvU] at h
  obtain⟨k2,b1,_,_⟩:=qcE hsh rfl
  obtain⟨v,body,rfl⟩:=qhL k2
  obtain⟨id,rfl⟩:=qhK b1
  have hid:P id:=hb id (by simp[qaq,qbS])
  have hv:=hk v (by simp)
  have hbd:=hk body (by simp)
  have hsv:=hks v (by simp)
  cases hsv with
  | mk vo vn vb vk va hshv hskv =>
  rw[qdw] at h
  split at h
  ·injection h with h;subst h;exact qmp id hv body hbd
  ·split at h
   ·injection h with h;subst h;exact hbd
   ·split at h
    ·rename_i c8
     injection h with h
     subst h
     obtain⟨_,rfl⟩:=c8
     obtain⟨k2,b1,_,_⟩:=qcE hshv rfl
     obtain⟨y,rfl⟩:=qhK b1
     exact qhW (qnm hv y (by simp[qaq,qbS])) (qeH hv _ (qeL (by omega))) (qhW hid (qeH hv _ (qeL (by omega))) hbd)
    ·split at h
     ·rename_i c9
      injection h with h
      subst h
      obtain⟨_,rfl,hva⟩:=c9
      have hk:=(qdC hshv).1 (.inl rfl)
      refine .mk _ _ _ _ _ (fun h=>absurd h (by decide)) (fun x hx=>qnm hv x ?_) fun k hk'=>?_
      ·unfold qaq at hx ⊢
       exact hx
      ·rcases List.mem_cons.1 hk' with rfl | hk'
       ·exact qeH hv _ (qeL (by omega))
       ·rw[List.mem_singleton.1 hk']
        exact qhW hid (qeH hv _ (qeL (by omega))) hbd
     ·split at h
      ·injection h with h;subst h;exact qmp id hv body hbd
      ·cases h
 by_cases h5:op=5
 ·subst h5
  rw[qvV] at h
  have hkl:=qdT hsh rfl
  split at h
  ·injection h with h;subst h;exact hk _ (qeL (by omega))
  ·cases h
 by_cases h7:op=7
 ·subst h7
  rw[qvW] at h
  split at h
  ·rename_i c
   cases kids with
   | nil=>cases h
   | cons k0 ks =>
     cases k0 with
     | mk co cn cb ck ca =>
     rw[qe3] at h
     exact qks cn _ (qeH (hk (.mk co cn cb ck ca) (by simp))) alts ks (fun a ha x hx=>hb x (by unfold qaq;exact List.mem_append_right _ (List.mem_flatMap.2 ⟨a,ha,hx⟩))) (fun b hb'=>hk b (by simp[hb'])) r h
  ·cases h
 by_cases h8:op=8
 ·subst h8
  rw[qvX] at h
  split at h
  ·rename_i c
   obtain⟨k0,k1,rfl⟩:=qhL c.2
   cases k0 with
   | mk o0 a b0 q0 a0 =>
   cases k1 with
   | mk o1 b b1 q1 a1 =>
   rw[qgd] at h
   split at h
   ·cases h
   ·exact qsn _ _ _ r h
  ·cases h
 by_cases h10:op=10
 ·subst h10
  rw[qq1] at h
  split at h
  ·obtain⟨r0,rfl⟩:=qhK (qiG hsh)
   cases r0 with
   | mk ro rn rb rk ra =>
   rw[qgn] at h
   split at h
   ·cases h
   ·exact qmo _ rb rk (qeH (hk (.mk ro rn rb rk ra) (by simp))) r h
  ·cases h
 rw[qq2 _ _ _ _ _ _ ⟨h3,h4,h5,h7,h8,h10⟩] at h
 cases h
theorem qyR {e:List CExpr} (hA:qdr e) (hr:AllI P (qaG e (e.length-1))) (hT:TreeL e):∀ k,k<e.length→AllI P (qaG e k):=by
 have key:∀ (t s:CTree),AllI P t→s∈ql0 t→AllI P s:=by
  intro t s ha
  induction ha with
  | mk op n binds kids alts h0 hb hk ih =>
    intro hs
    rw[ql0] at hs
    rcases List.mem_append.1 hs with hs | hs
    ·have:∀ ks:List CTree,(∀ k∈ks,k∈kids)→s∈qeg ks→AllI P s:=by
      intro ks
      induction ks with
      | nil=>intro _ h;rw[qeg] at h;cases h
      | cons k ks ihk =>
        intro hm h
        rw[qeg] at h
        rcases List.mem_append.1 h with h | h
        ·exact ih k (hm k (by simp)) h
        ·exact ihk (fun q hq=>hm q (by simp[hq])) h
     exact this kids (fun k h=>h) hs
    ·rw[List.mem_singleton.1 hs]
     exact .mk _ _ _ _ _ h0 hb hk
 intro k hk
 exact key _ _ hr (by rw[← qdJ];exact qsf hT k hk)
theorem qtQ {e:List CExpr} (hA:qdr e) (i:Nat) {t':CTree} (ht:AllI P t') (he:∀ k,k<e.length→AllI P (qaG e k)):∀ k,k<e.length→AllI P (qbF e i t' k):=by
 intro k
 induction k using Nat.strongRecOn with
 | ind k ih =>
   intro hk
   rw[qfm e hA i t' k hk]
   by_cases hki:k=i
   ·rw[if_pos hki];exact ht
   ·rw[if_neg hki]
    have h:=he k hk
    rw[qb0 e hA k hk] at h
    cases h with
    | mk _ _ _ _ _ h0 hb hkk =>
    refine .mk _ _ _ _ _ h0 hb fun q hq=>?_
    obtain⟨z,hz,rfl⟩:=List.mem_map.1 hq
    have:=hA k hk z hz
    exact ih z.toNat (by omega) (by omega)
variable {f g:Int→Int} {P:Int→Prop}
def qjU (op:Int) (k:Nat):Nat:=if op=3∨op=6∨op=8∨op=9∨op=10∨op=11 then k else if op=7∨op=12 then 1 else 0
def qex (M N:Int):CTree→Option CTree
 | .mk op n binds kids alts =>
   if N<0∨(qjU op kids.length:Int)≤N then none
   else if qge (kids.getD N.toNat .none)=true then none
   else if (kids.take N.toNat).any (fun k => !qeF k)=true then none
   else some (qma (M+1) (kids.getD N.toNat .none) (.mk op n binds (kids.set N.toNat (.mk 0 (M+1) [] [] [])) alts))
theorem qnU {op n:Int} {bl kl:Nat} {as:List CAlt} (h:qa2 op n bl kl as=true):qjU op kl≤kl:=by
 unfold qjU
 split
 ·exact Nat.le_refl _
 ·split
  ·rename_i ho
   rcases ho with ho | ho
   ·exact (qcm h).2.1 (.inr (.inr (.inl ho)))
   ·subst ho
    have e:qa2 12 n bl kl as=qbN n bl kl as.length (1,0,true):=rfl
    rw[e] at h
    unfold qbN at h
    simp at h
    omega
  ·exact Nat.zero_le _
theorem qvg {M M':Int} (hg:∀ x,P x→g x=f x) (hM:g (M+1)=M'+1) (N:Int) (t:CTree) (hs:ShT t) (ha:AllI P t):qex M' N (qb4 f t)=(qex M N t).map (qb4 g):=by
 have e:qb4 f t=qb4 g t:=qi7 t (fun x hx=>(hg x (qjp ha x hx)).symm) fun x hx=>(hg x (by
  have key:∀ t:CTree,AllI P t→∀ x,qbx x t→P x:=by
   intro t ha
   induction ha with
   | mk op n binds kids alts h0 hb hk ih =>
     intro x hx
     rw[qbx,qbV] at hx
     rcases hx with ⟨h1,rfl⟩ | ⟨j,hj,hf,_⟩
     ·exact h0 h1
     ·exact ih _ (List.getElem_mem hj) x hf
  exact key t ha x hx)).symm
 rw[e]
 cases hs with
 | mk op n binds kids alts hsh hks =>
 have hop:=qnU hsh
 rw[qbE,qex,qex,List.length_map]
 by_cases c1:N<0∨(qjU op kids.length:Int)≤N
 ·rw[if_pos c1,if_pos c1];rfl
 have hN:N.toNat<kids.length:=by omega
 rw[if_neg c1,if_neg c1,qdI hN,qr0]
 by_cases c2:qge (kids.getD N.toNat .none)=true
 ·rw[if_pos c2,if_pos c2];rfl
 have hany:((kids.map (qb4 g)).take N.toNat).any (fun k => !qeF k)=(kids.take N.toNat).any (fun k => !qeF k):=by
  rw[← List.map_take,List.any_map]
  refine qrj fun k _=>?_
  show (!qeF (qb4 g k))=_
  rw[qi9]
 rw[if_neg c2,if_neg c2,hany]
 by_cases c3:(kids.take N.toNat).any (fun k => !qeF k)=true
 ·rw[if_pos c3,if_pos c3];rfl
 rw[if_neg c3,if_neg c3,Option.map_some,qlg,hM,qbE,List.map_set]
 have:qb4 g (.mk 0 (M+1) [] [] [])=.mk 0 (M'+1) [] [] []:=by
  rw[qbE]
  show CTree.mk 0 (g (M+1)) _ _ _=_
  rw[hM]
  rfl
 rw[this]
theorem qso {Q:Int→Prop} {M N:Int} (hQ:Q (M+1)) {t:CTree} (hs:ShT t) (ha:AllI Q t):∀ r,qex M N t=some r→AllI Q r:=by
 intro r h
 cases hs with
 | mk op n binds kids alts hsh hks =>
 have hop:=qnU hsh
 rw[qex] at h
 by_cases c1:N<0∨(qjU op kids.length:Int)≤N
 ·rw[if_pos c1] at h;cases h
 have hN:N.toNat<kids.length:=by omega
 rw[if_neg c1] at h
 split at h
 ·cases h
 ·split at h
  ·cases h
  ·injection h with h
   subst h
   cases ha with
   | mk _ _ _ _ _ h0 hb hk =>
   refine qhW hQ (hk _ (qeL hN)) (.mk _ _ _ _ _ h0 hb fun k hk'=>?_)
   rcases List.mem_or_eq_of_mem_set hk' with hk' | rfl
   ·exact hk k hk'
   ·exact .mk _ _ _ _ _ (fun _=>hQ) (fun x hx=>by cases hx) fun k hk=>by cases hk
structure Two (P:Int→Prop) (f:Int→Int) (M d:Int) (s s':RS):Prop where
 next:s'.2=s.2+d
 low:M<s.2
 val:∀ x y,qaW x s.1=some y→M<y
 look:∀ x,P x→qaW (f x) s'.1=(qaW x s.1).map (· + d)
theorem Two.puts {M d:Int} (hi:Inj P f) (l:List Int):∀ {s s':RS},Two P f M d s s'→(∀ x∈l,P x)→Two P f M d (frL l s) (frL (l.map f) s'):=by
 induction l with
 | nil=>exact fun h _=>h
 | cons v l ih =>
   intro s s' h hl
   rw[List.map_cons,qd8,qd8]
   refine ih ⟨?_,?_,fun x y hy=>?_,fun x hx=>?_⟩ fun x hx=>hl x (by simp[hx])
   ·dsimp only;have:=h.next;omega
   ·dsimp only;have:=h.low;omega
   ·rw[qcd] at hy
    split at hy
    ·injection hy with hy;have:=h.low;omega
    ·exact h.val x y hy
   ·rw[qcd,qcd]
    by_cases hv:x=v
    ·rw[if_pos hv,if_pos (by rw[hv]),h.next];rfl
    ·rw[if_neg hv,if_neg fun e=>hv (hi x v hx (hl v (by simp)) e)]
     exact h.look x hx
theorem qv7 (d:Int) (n:Nat):∀ a:Int,qem (a+d) n=(qem a n).map (· + d):=by
 induction n with
 | zero=>intro a;rfl
 | succ n ih =>
   intro a
   rw[qgD,qgD,List.map_cons,show a+d+1=(a+1)+d by omega,ih]
theorem qvP {M d:Int} (hi:Inj P f) (hgP:∀ x,P x→g x=f x) (hgM:∀ y,M<y→g y=y+d) (t:CTree) (h:BGt t):AllI P t→∀ {s s':RS},Two P f M d s s'→(qb3 (qb4 f t) s').1=qb4 g (qb3 t s).1∧Two P f M d (qb3 t s).2 (qb3 (qb4 f t) s').2:=by
 induction t using CTree.ind with
 | h op n binds kids alts ih =>
   intro ha s s' hT
   cases h with
   | mk _ _ _ _ _ hb hz hk =>
   cases ha with
   | mk _ _ _ _ _ h0 hbo hka =>
   have hb':BG op (qhr f op binds):=by
    intro h9 ho
    have:=hb h9 ho
    unfold qhr
    rw[if_neg (by rw[ho];simp),this]
   rw[qbE,qb3,qb3]
   dsimp only
   rw[qbE,qcT hb',qcT hb,qhy]
   have hT2:=hT.puts hi (qaq op binds alts) hbo
   have hseq:∀ (a:Int) (k:Nat),M<a→qem (a+d) k=(qem a k).map g:=by
    intro a k hMa
    rw[qv7]
    refine List.map_congr_left fun y hy=>(hgM y ?_).symm
    have:=qiA.1 hy
    omega
   have e1:qoh op (qlf f op n) s'.1=qlf g op (qoh op n s.1):=by
    unfold qlf
    by_cases h00:op=0
    ·rw[if_pos h00,if_pos h00]
     unfold qoh
     rw[hT.look n (h0 h00)]
     cases hq:qaW n s.1 with
     | none=>exact (hgP n (h0 h00)).symm
     | some y =>
       show (if op=0 then y+d else f n)=g (if op=0 then y else n)
       rw[if_pos h00,if_pos h00,hgM y (hT.val n y hq)]
    ·rw[if_neg h00,if_neg h00]
     unfold qoh
     cases qaW n s'.1<;>cases qaW n s.1<;>simp[h00]
   have e2:qfj op (qhr f op binds) s'=qhr g op (qfj op binds s):=by
    unfold qfj qhr
    by_cases h9:op=9
    ·subst h9;rfl
    ·rw[if_neg h9,if_neg h9]
     cases ho:qbS op with
     | true =>
       rw[if_pos rfl,if_pos rfl,List.length_map,hT.next]
       exact hseq _ _ hT.low
     | false =>
       rw[hb h9 ho]
       rfl
   have e3:(frA (alts.map (qhP f)) (qbT op (qhr f op binds) s')).1=(frA alts (qbT op binds s)).1.map (qhP g):=by
    have hs2:(qbT op (qhr f op binds) s').2=(qbT op binds s).2+d∧M<(qbT op binds s).2:=by
     unfold qbT
     by_cases h9:op=9
     ·rw[if_pos h9,if_pos h9];exact⟨hT.next,hT.low⟩
     ·rw[if_neg h9,if_neg h9,qbU,qbU]
      have hl:(qhr f op binds).length=binds.length:=by unfold qhr;split<;>simp
      have:=hT.next
      have:=hT.low
      rw[hl]
      constructor<;>omega
    generalize qbT op (qhr f op binds) s'=u' at *
    generalize qbT op binds s=u at *
    have key:∀ (as:List CAlt) (u u':RS),u'.2=u.2+d→M<u.2→(frA (as.map (qhP f)) u').1=(frA as u).1.map (qhP g):=by
     intro as
     induction as with
     | nil=>intro u u' _ _;rfl
     | cons a as iha =>
       intro u u' hn hl
       rw[List.map_cons,frA,frA,List.map_cons]
       have hbl:(qhP f a).binds.length=a.binds.length:=by unfold qhP;simp
       rw[iha (frL a.binds u) (frL (qhP f a).binds u') (by rw[qbU,qbU,hbl,hn];omega) (by rw[qbU];omega),hbl,hn,hseq _ _ hl]
       rfl
    exact key alts u u' hs2.1 hs2.2
   have key:∀ (ks:List CTree),(∀ k∈ks,k∈kids)→∀ {s s':RS},Two P f M d s s'→(qaU (ks.map (qb4 f)) s').1=(qaU ks s).1.map (qb4 g)∧Two P f M d (qaU ks s).2 (qaU (ks.map (qb4 f)) s').2:=by
    intro ks
    induction ks with
    | nil=>intro _ s s' h;rw[List.map_nil,qaU,qaU];exact⟨rfl,h⟩
    | cons k ks ihk =>
      intro hm s s' h
      obtain⟨c1,c2⟩:=ih k (hm k (by simp)) (hk k (hm k (by simp))) (hka k (hm k (by simp))) h
      obtain⟨d1,d2⟩:=ihk (fun q hq=>hm q (by simp[hq])) c2
      rw[List.map_cons,qaU,qaU,List.map_cons]
      dsimp only
      rw[c1,d1]
      exact⟨rfl,d2⟩
   obtain⟨k1,k2⟩:=key kids (fun k h=>h) hT2
   rw[e1,e2,e3,k1]
   exact⟨rfl,k2⟩
variable {f g:Int→Int} {P Q:Int→Prop}
theorem qi0 {α β:Type} {p q:Nat→α→Option β}:∀ (l:List α) (k:Nat),(∀ i,∀ x∈l,p i x=q i x)→qaE p l k=qaE q l k
 | [],k,_=>rfl
 | x :: l,k,h => by
   rw[qaE,qaE,h k x (by simp),qi0 l (k+1) fun i y hy=>h i y (by simp[hy])]
theorem qkV {α β:Type} {p:Nat→α→Option β}:∀ (l:List α) (k:Nat),(∀ i,∀ x∈l,p i x=none)→qaE p l k=none
 | [],k,_=>rfl
 | x :: l,k,h => by
   rw[qaE,h k x (by simp)]
   exact qkV l (k+1) fun i y hy=>h i y (by simp[hy])
theorem qAK (f:Int→Int) (e:List CExpr) (k:Nat):opN (e.map (qog f)) k=opN e k:=by
 unfold opN
 rw[List.getElem?_map]
 cases e[k]? <;> rfl
theorem qy7 (hi:Inj Q g) (e:List CExpr) (hq:∀ x∈e,∀ b∈qbB x,Q b) {id:Int} (hid:Q id):qiU (e.map (qog g)) (g id)=qiU e id:=by
 unfold qiU
 rw[← qeI (qog g) (fun _ x=>qhF (e.map (qog g)) (g id) x)]
 refine qi0 e 0 fun _ x hx=>?_
 unfold qhF
 by_cases ho:x.op=4∨x.op=5
 ·have hbn:(qog g x).binds=x.binds.map g:=by
   unfold qog qhr
   dsimp only
   rw[if_pos]
   unfold qbS
   rcases ho with ho | ho<;>rw[ho]<;>rfl
  rw[hbn,← qeI g]
  refine qi0 x.binds 0 fun i b hb=>?_
  have hbq:Q b:=hq x hx b (by
   unfold qbB qaq
   rw[if_pos]
   ·exact List.mem_append_left _ hb
   ·unfold qbS
    rcases ho with ho | ho<;>rw[ho]<;>rfl)
  unfold qhk
  rw[qAK]
  have e1:(qog g x).op=x.op:=rfl
  have e2:(qog g x).kids=x.kids:=rfl
  rw[e1,e2]
  by_cases hb':b=id
  ·rw[hb']
   simp only[true_and]
  ·rw[if_neg fun h=>hb' (hi b id hbq hid h.1),if_neg fun h=>hb' h.1]
 ·rw[qkV _ _ fun i b _=>?_,qkV _ _ fun i b _=>?_]
  ·unfold qhk;rw[if_neg fun h=>ho h.2.1]
  ·unfold qhk;exact if_neg fun h=>ho h.2.1
def qCb:CTree→Int
 | .mk _ n _ _ _=>n
def qtk (e:List CExpr) (rule N:Int) (i:Nat):Option CTree :=
 if rule=10 then qex (qbK (qaG e (e.length-1))) N (qaG e i)
 else if rule=12 then (if N=0∧qce (qaG e i)=0 then qBh e (qCb (qaG e i)) else none)
 else qiO rule N (qaG e i)
theorem qnq {e:List CExpr} (hT:TreeL e):∀ x,x∈qaR (qbD e)↔x∈e.flatMap qbB:=by
 intro x
 rw[qes e]
 exact ((qdy e hT).flatMap_right qbn).mem_iff
theorem qr5 (t:CTree):∀ x∈qaR t,x≤qbK t:=by
 have key:∀ (ks:List CTree) (m:Int),(∀ k∈ks,qbK k≤qdl ks m)∧m≤qdl ks m:=by
  intro ks
  induction ks with
  | nil=>intro m;exact⟨fun k hk=>by (cases hk),qlk [] m⟩
  | cons k ks ih =>
    intro m
    rw[qdl]
    obtain⟨h1,h2⟩:=ih (if qbK k > m then qbK k else m)
    have h3:m≤(if qbK k > m then qbK k else m)∧qbK k≤(if qbK k > m then qbK k else m):=by split<;>omega
    refine⟨fun q hq=>?_,by omega⟩
    rcases List.mem_cons.1 hq with rfl | hq
    ·omega
    ·exact h1 q hq
 induction t using CTree.ind with
 | h op n binds kids alts ih =>
   intro x hx
   rw[qby] at hx
   rw[qbK]
   obtain⟨k1,k2⟩:=key kids (qf7 (-1) (qaq op binds alts))
   rcases List.mem_append.1 hx with hx | hx
   ·have:∀ ks:List CTree,(∀ k∈ks,k∈kids)→x∈qbH ks→∃ k∈kids,x∈qaR k:=by
     intro ks
     induction ks with
     | nil=>intro _ h;cases h
     | cons k ks ihk =>
       intro hm h
       rw[qbw] at h
       rcases List.mem_append.1 h with h | h
       ·exact⟨k,hm k (by simp),h⟩
       ·exact ihk (fun q hq=>hm q (by simp[hq])) h
    obtain⟨k,hk,hxk⟩:=this kids (fun k h=>h) hx
    have:=ih k hk x hxk
    have:=k1 k hk
    omega
   ·have:=(qiB (qaq op binds alts) (-1)).2 x hx
    omega
theorem qxi {t:CTree} (hn:(qaR t).Nodup) (hf:∀ x,qbx x t→x∉qaR t):∀ s∈ql0 t,(qaR s).Nodup∧∀ x,qbx x s→x∉qaR s:=by
 induction t using CTree.ind with
 | h op n binds kids alts ih =>
   intro s hs
   rw[ql0] at hs
   rw[qby] at hn
   obtain⟨nk,nb,nd⟩:=List.nodup_append.1 hn
   rcases List.mem_append.1 hs with hs | hs
   ·have key:∀ ks:List CTree,(∀ k∈ks,k∈kids)→s∈qeg ks→∃ k∈kids,s∈ql0 k:=by
     intro ks
     induction ks with
     | nil=>intro _ h;rw[qeg] at h;cases h
     | cons k ks ihk =>
       intro hm h
       rw[qeg] at h
       rcases List.mem_append.1 h with h | h
       ·exact⟨k,hm k (by simp),h⟩
       ·exact ihk (fun q hq=>hm q (by simp[hq])) h
    obtain⟨k,hk,hsk⟩:=key kids (fun k h=>h) hs
    refine ih k hk (nk.sublist (qh0 hk)) (fun x hx hxb=>?_) s hsk
    rcases qk3 (op:=op) (n:=n) (binds:=binds) (alts:=alts) hk hx with h | h
    ·exact hf x h (by rw[qby];exact List.mem_append_left _ (qd3 hk x hxb))
    ·exact nd x (qd3 hk x hxb) x h rfl
   ·rw[List.mem_singleton.1 hs,qby]
    exact⟨hn,fun x hx=>by rw[← qby op n];exact hf x hx⟩
variable {f g:Int→Int} {P Q:Int→Prop}
theorem qoR {l:List Int} (h:(l.map f).Nodup):Inj (· ∈ l) f:=by
 induction l with
 | nil=>intro x y hx;cases hx
 | cons v l ih =>
   rw[List.map_cons,List.nodup_cons] at h
   intro x y hx hy he
   rcases List.mem_cons.1 hx with hx | hx
   ·rcases List.mem_cons.1 hy with hy | hy
    ·rw[hx,hy]
    ·exact absurd (List.mem_map.2 ⟨y,hy,by rw[← he,hx]⟩) h.1
   ·rcases List.mem_cons.1 hy with hy | hy
    ·exact absurd (List.mem_map.2 ⟨x,hx,by rw[he,hy]⟩) h.1
    ·exact ih h.2 x y hx hy he
theorem qtO {t:CTree} (ha:AllI P t):∀ x,qbx x t→P x:=by
 induction ha with
 | mk op n binds kids alts h0 hb hk ih =>
   intro x hx
   rw[qbx,qbV] at hx
   rcases hx with ⟨h1,rfl⟩ | ⟨j,hj,hf,_⟩
   ·exact h0 h1
   ·exact ih _ (List.getElem_mem hj) x hf
theorem qlm {t:CTree} (hc:qda t=[]) (x:Int):¬ qbx x t:=fun h=>by
 have:=(qe5 t x).2 h
 rw[hc] at this
 cases this
theorem qpm {T:CTree} (hT:TOk T) (hc:qda T=[]) (a:Int) (ha0:0≤a) (ha:a<5000) (rule N:Int) (i:Nat) (hil:i<qaJ T) (t':CTree) (hres:qtk (qau T) rule N i=some t')
  (hck:qaD (qau (qbF (qau T) i t' (qaJ T-1)))=0) :
  ∃ t'',qtk (qau (qb3 T ([],a)).1) rule N i=some t''∧qaD (qau (qbF (qau (qb3 T ([],a)).1) i t'' (qaJ T-1)))=0 ∧
   (qf9 (qbF (qau T) i t' (qaJ T-1)) (qbF (qau (qb3 T ([],a)).1) i t'' (qaJ T-1)) []).1=true:=by
 have hB:=qkw T hT.lab
 have hnd:(qaR T).Nodup:=hT.once
 have hTL:=qgH T
 have hg1:=qb5 T
 have hlen:(qau T).length=qaJ T:=by unfold qau;exact qcv T 0
 have hroot:qaG (qau T) (qaJ T-1)=T:=by rw[← hlen,← qdJ,hg1]
 have hmap:=qAR T hB ([],a) hnd fun x hx=>absurd hx (qlm hc x)
 obtain⟨_,hperm⟩:=qgA T hB ([],a)
 have hmx:=qfs hT
 generalize hf:lk (qb3 T ([],a)).2.1=f at hmap
 generalize hT':(qb3 T ([],a)).1=T' at *
 have hbT':qaR T'=(qaR T).map f:=by rw[hmap,qjr]
 have hperm':((qaR T).map f).Perm (qem a (qaR T).length):=by rw[← hbT'];exact hperm
 have hmx':(qaR T).length≤131072:=hmx
 have hinjP:Inj (· ∈ qaR T) f:=qoR (hperm'.nodup_iff.2 (qm9 _ _))
 have hfr:∀ x∈qaR T,a≤f x∧f x<a+131072:=fun x hx=>by
  have:=qiA.1 (hperm'.mem_iff.1 (List.mem_map_of_mem hx))
  omega
 obtain⟨M,hM⟩:∃ M,M=qbK T:=⟨_,rfl⟩
 obtain⟨M',hM'⟩:∃ M',M'=qbK T':=⟨_,rfl⟩
 have hM0 : -1≤M:=by rw[hM];exact qiC T
 have hM0' : -1≤M':=by rw[hM'];exact qiC T'
 have hMu':M'≤a+131072:=by
  rw[hM']
  refine qr4 _ (by omega) T' fun x hx=>?_
  have hx':x∈qaR T':=hx
  rw[hbT'] at hx'
  obtain⟨y,hy,rfl⟩:=List.mem_map.1 hx'
  have:=hfr y hy
  omega
 have hub:∀ x∈qaR T,x≤M:=fun x hx=>by rw[hM];exact qr5 T x hx
 have hub':∀ x∈qaR T,f x≤M':=fun x hx=>by rw[hM'];exact qr5 T' _ (by rw[hbT'];exact List.mem_map_of_mem hx)
 obtain⟨g,hg⟩:∃ g:Int→Int,g=fun x=>if M<x then x+(M'-M) else f x:=⟨_,rfl⟩
 have hgP:∀ x,x∈qaR T→g x=f x:=fun x hx=>by rw[hg];exact if_neg (by have:=hub x hx;omega)
 have hgM:∀ y,M<y→g y=y+(M'-M):=fun y hy=>by rw[hg];exact if_pos hy
 have hinj:Inj (fun x=>x∈qaR T∨(M<x∧x≤M+131073)) g:=by
  intro x y hx hy he
  rcases hx with hx | hx<;>rcases hy with hy | hy
  ·rw[hgP x hx,hgP y hy] at he;exact hinjP x y hx hy he
  ·rw[hgP x hx,hgM y hy.1] at he;have:=hub' x hx;omega
  ·rw[hgM x hx.1,hgP y hy] at he;have:=hub' y hy;omega
  ·rw[hgM x hx.1,hgM y hy.1] at he;omega
 have hrange:∀ x,(x∈qaR T∨(M<x∧x≤M+131073))→0≤g x∧g x≤1048575:=by
  intro x hx
  rcases hx with hx | hx
  ·rw[hgP x hx];have:=hfr x hx;omega
  ·rw[hgM x hx.1];omega
 have hmapg:T'=qb4 g T:=by
  rw[hmap]
  exact qi7 T (fun x hx=>(hgP x hx).symm) fun x hx=>absurd hx (qlm hc x)
 have hallT:AllI (· ∈ qaR T) T:=qtP T (fun x h=>h) fun x hx=>absurd hx (qlm hc x)
 have hA:=hTL.ahead
 have hallP:∀ k,k<(qau T).length→AllI (· ∈ qaR T) (qaG (qau T) k):=qyR hA (by rw[hlen,hroot];exact hallT) hTL
 have hallQ:∀ k,k<(qau T).length→AllI (fun x=>x∈qaR T∨(M<x∧x≤M+131073)) (qaG (qau T) k):=fun k hk=>(hallP k hk).mono fun x h=>.inl h
 have hsub:∀ k,k<(qau T).length→qaG (qau T) k∈ql0 T:=fun k hk=>by have:=qsf hTL k hk;rwa [hg1] at this
 have hEf:qau T'=(qau T).map (qog f):=by rw[hmap,qmM]
 have hEg:qau T'=(qau T).map (qog g):=by rw[hmapg,qmM]
 have hlen':(qau T').length=qaJ T:=by rw[hEf,List.length_map,hlen]
 have hatf:∀ k,k<(qau T).length→qaG (qau T') k=qb4 f (qaG (qau T) k):=fun k hk=>by rw[hEf,qnd f hA k hk]
 have hatg:∀ k,k<(qau T).length→qaG (qau T') k=qb4 g (qaG (qau T) k):=fun k hk=>by rw[hEg,qnd g hA k hk]
 have hil':i<(qau T).length:=by omega
 have hpos:0<qaJ T:=qfo T
 have hroot':qaG (qau T') (qaJ T-1)=T':=by rw[hatg _ (by omega),hroot,← hmapg]
 have hsh:ShT (qaG (qau T) i):=qyN _ (qoe hT (hsub i hil')).lab
 have key:AllI (fun x=>x∈qaR T∨(M<x∧x≤M+131073)) t'∧qtk (qau T') rule N i=some (qb4 g t'):=by
  unfold qtk at hres ⊢
  rw[hlen,hroot,← hM] at hres
  rw[hlen',hroot',← hM']
  by_cases h10:rule=10
  ·rw[if_pos h10] at hres ⊢
   refine⟨qso (.inr ⟨by omega,by omega⟩) hsh (hallQ i hil') t' hres,?_⟩
   rw[hatf i hil',qvg (P:=(· ∈ qaR T)) (M:=M) (M':=M') hgP (by rw[hgM _ (by omega)];omega) N _ hsh (hallP i hil'),hres]
   rfl
  ·rw[if_neg h10] at hres ⊢
   by_cases h12:rule=12
   ·rw[if_pos h12] at hres ⊢
    rw[hatg i hil',qke]
    by_cases hc1:N=0∧qce (qaG (qau T) i)=0
    ·rw[if_pos hc1] at hres ⊢
     have hai:=hallP i hil'
     generalize qaG (qau T) i=t at *
     cases t with
     | mk op n binds kids alts =>
     have hop:op=0:=hc1.2
     subst hop
     cases hai with
     | mk _ _ _ _ _ h0 _ _ =>
     have hnP:=h0 rfl
     rw[qbE]
     have e1:qCb (.mk 0 (qlf g 0 n) (qhr g 0 binds) (kids.map (qb4 g)) (alts.map (qhP g)))=g n:=rfl
     have e2:qCb (.mk 0 n binds kids alts)=n:=rfl
     rw[e1]
     rw[e2] at hres
     unfold qBh at hres ⊢
     rw[hlen,hroot,← hM] at hres
     rw[hlen',hroot',← hM']
     have hd:=qy7 hinj (qau T) (fun x hx b hb=>.inl (by
      have:=(qnq hTL b).2 (List.mem_flatMap.2 ⟨x,hx,hb⟩)
      rwa [hg1] at this)) (id:=n) (.inl hnP)
     rw[← hEg] at hd
     rw[hd]
     cases hdf:qiU (qau T) n with
     | none=>rw[hdf] at hres;cases hres
     | some r =>
       rw[hdf] at hres
       rw[Option.map_some] at hres ⊢
       injection hres with hres
       have hlabE:∀ x∈qau T,qbL false (qhb (qau T) x)=0:=fun x hx=>by
        have h2:qhb (qau T) x∈qbg T:=by
         have:=(qdy (qau T) hTL).mem_iff.2 (List.mem_map_of_mem hx)
         rwa [hg1] at this
        exact hT.lab _ h2
       have hr:=qnw hA (qn6 hlabE) hdf
       have hss:=hsub r hr
       have hts:=qoe hT hss
       have hBs:=qkw _ hts.lab
       obtain⟨s1,s2⟩:=qvP (g:=g) (M:=M) (d:=M'-M) hinjP hgP hgM (qaG (qau T) r) hBs (hallP r hr) (s:=([],M+1)) (s':=([],M'+1))
        ⟨by show M'+1=M+1+(M'-M);omega,by show M<M+1;omega,fun x y h=>(by cases h),fun x _=>rfl⟩
       refine⟨?_,by rw[hatf r hr,s1,hres]⟩
       obtain⟨_,cp⟩:=qgA (qaG (qau T) r) hBs ([],M+1)
       have hmxs:=qfs hts
       obtain⟨fn1,fn2⟩:=qxi hnd (fun x hx=>absurd hx (qlm hc x)) _ hss
       rw[← hres]
       refine qtP _ (fun x hx=>.inr ?_) fun y hy=>?_
       ·have:=qiA.1 (cp.mem_iff.1 hx)
        dsimp only at this
        omega
       ·obtain⟨x,hx,he⟩:=qsb (qaG (qau T) r) hBs ([],M+1) fn1 fn2 y hy
        have:y=x:=he
        rw[this]
        exact .inl (qtO (hallP r hr) x hx)
    ·rw[if_neg hc1] at hres;cases hres
   ·rw[if_neg h12] at hres ⊢
    refine⟨qwK rule N _ hsh (hallQ i hil') t' hres,?_⟩
    rw[hatg i hil',qAT hinj rule N _ hsh (hallQ i hil'),hres]
    rfl
 obtain⟨hallt,hres'⟩:=key
 have hrep:qbF (qau T') i (qb4 g t') (qaJ T-1)=qb4 g (qbF (qau T) i t' (qaJ T-1)):=by rw[hEg,qtj g hA i t' _ (by omega)]
 have hallF:=qtQ hA i hallt hallQ (qaJ T-1) (by omega)
 refine⟨qb4 g t',hres',?_⟩
 rw[hrep]
 generalize qbF (qau T) i t' (qaJ T-1)=F at *
 have hTF:TOk F:=by have:=qpV hck;rwa [qb5] at this
 have hcF:qda F=[]:=by obtain⟨_,_,_,_,_,h⟩:=qa8 hck;rwa [qb5] at h
 refine⟨by rw[qgi (qAF hinj hrange hTF hallF),if_pos (qs4 g hcF)],?_⟩
 exact (qyc F (qkw F hTF.lab) [] (fun x y h=>by cases h) fun x hx=>absurd hx (qlm hcF x)).1
end Go.Abs
