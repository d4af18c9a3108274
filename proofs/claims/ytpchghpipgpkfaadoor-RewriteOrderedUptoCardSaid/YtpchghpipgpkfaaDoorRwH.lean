/-
  Rewriting: the value of a primitive, the field of a record, what a case selects. Conditions: none.
-/
import Derived.Test.YtpchghpipgpkfaaDoorRD
set_option linter.unusedVariables false
set_option linter.unusedSimpArgs false
set_option maxRecDepth 100000
set_option maxHeartbeats 4000000
namespace Go.Abs
theorem qqN {pure:Nat→Bool} {call:CallT} {b:Nat} {keep fk:List Nat} {id:Nat} {body:ACode} (P:Nat→St→Prop) (n:Nat) (Q R:St→Prop)
  (hstep:∀ i s,i<n→P i s→(∃ s',qbc pure call b keep fk body s=some (.normal,s')∧P (i+1) s')∨(∃ s',qbc pure call b keep fk body s=some (.ret,s')∧R s')) (hend:∀ s,P n s→∃ T,qbc pure call b keep fk body s=some (.exit id,T)∧Q T) {s0:St} (h0:P 0 s0) :
  (∃ T,qba pure call b keep fk id body s0=some (.normal,T)∧Q T)∨(∃ T,qba pure call b keep fk id body s0=some (.ret,T)∧R T):=by
 have key:∀ k i s,i+k=n→P i s→(∃ T,qba pure call b keep fk id body s=some (.normal,T)∧Q T)∨(∃ T,qba pure call b keep fk id body s=some (.ret,T)∧R T):=by
  intro k
  induction k with
  | zero =>
    intro i s hi hp
    rw[Nat.add_zero] at hi
    subst hi
    obtain⟨T,h1,h2⟩:=hend s hp
    exact .inl ⟨T,qej h1,h2⟩
  | succ k ih =>
    intro i s hi hp
    rcases hstep i s (by omega) hp with ⟨s',h1,h2⟩ | ⟨s',h1,h2⟩
    ·rw[qfa h1]
     exact ih (i+1) s' (by omega) h2
    ·exact .inr ⟨s',qld h1,h2⟩
 exact key n 0 s0 (by omega) h0
def qjQ (H':Heap) (S:Nat→Prop) (b:Nat) (o:Option CTree) (r:AVal):Prop :=
 match o with
 | none=>r=.ptr none
 | some t=>∃ q,r=.ptr (some (q,0))∧WS H' (OrN S b) t q
inductive NW (H:Heap) (S:Nat→Prop):CTree→Nat→Prop
 | mk (op n:Int) (binds:List Int) (kids:List CTree) (alts:List CAlt) (p:Nat) (ps:List Nat) (ob ok:Option (Option Nat)) (avs:List AVal) (oa:Option (Option Nat)) (hp:True)
   (hbox:H[p]? = some (.box [.int .i64 op,.int .i64 n,.list (binds.map qav) ob,.list (ps.map qar) ok,.list avs oa])) (ha:RA alts avs) (hl:ps.length=kids.length)
   (hk:∀ (i:Nat) (hi:i<kids.length),WS H S kids[i] (ps[i]'(by omega))):NW H S (.mk op n binds kids alts) p
def qxS:Option AVal→Int
 | some (.int _ n)=>n
 | _=>0
def qlW (n:Int):Int:=qxS (qaA .add .i64 (qxS (qaA .and .i64 (qxS (qaA .sub .i64 n (-1073741824))) 2147483647)) (-1073741824))
def qyB (m:Int):CTree:=.mk 1 m [] [] []
def qBd (m:Int):CTree:=.mk 6 m [] [] []
def qeY (n a b:Int):Option CTree :=
 if n=0 then some (qyB (qlW (IntKind.i64.wrap (a+b)))) else if n=1 then some (qyB (qlW (IntKind.i64.wrap (a-b)))) else if n=2 then some (qyB (qlW (IntKind.i64.wrap (a*b))))
 else if n=3∨n=4 then (if b=0 then none else some (qyB (qlW (if n=4 then a.tmod b else IntKind.i64.wrap (a.tdiv b)))))
 else if n=5 then some (qBd (if a<b then 1 else 0)) else some (qBd (if a=b then 1 else 0))
def qrl:CTree→Option CTree
 | .mk _ n _ [.mk o0 a _ _ _,.mk o1 b _ _ _] _=>if 6<n∨o0≠1∨o1≠1 then none else qeY n a b
 | _=>none
def qcJ (n:Int):List Int→List CTree→Option CTree
 | l::ls,k::ks=>if l=n then some k else qcJ n ls ks
 | _,_=>none
def qrA:CTree→Option CTree
 | .mk _ n _ [.mk ro rn rb rk ra] _=>if ro≠9∨qeF (.mk ro rn rb rk ra)=false then none else qcJ n rb rk
 | _=>none
def qbI (cn:Int) (ck:List CTree) (c:CTree):List CAlt→List CTree→Option CTree
 | a::as,b::bs=>if a.tag=cn then (if a.binds.length≠ck.length then none else some (qdX a.binds ck b)) else if a.tag = -1∧qeF c=true then some b else qbI cn ck c as bs
 | _,_=>none
def qnu:CTree→Option CTree
 | .mk _ _ _ (.mk co cn cb ck ca::bodies) alts=>qbI cn ck (.mk co cn cb ck ca) alts bodies
 | _=>none
theorem qgd (op n:Int) (binds:List Int) (o0 a:Int) (b0:List Int) (k0:List CTree) (a0:List CAlt) (o1 b:Int) (b1:List Int) (k1:List CTree) (a1:List CAlt) (alts:List CAlt) :
  qrl (.mk op n binds [.mk o0 a b0 k0 a0,.mk o1 b b1 k1 a1] alts)=if 6<n∨o0≠1∨o1≠1 then none else qeY n a b:=rfl
theorem qgn (op n:Int) (binds:List Int) (ro rn:Int) (rb:List Int) (rk:List CTree) (ra:List CAlt) (alts:List CAlt) :
  qrA (.mk op n binds [.mk ro rn rb rk ra] alts)=if ro≠9∨qeF (.mk ro rn rb rk ra)=false then none else qcJ n rb rk:=rfl
theorem qe3 (op n:Int) (binds:List Int) (co cn:Int) (cb:List Int) (ck:List CTree) (ca:List CAlt) (bodies:List CTree) (alts:List CAlt) :
  qnu (.mk op n binds (.mk co cn cb ck ca::bodies) alts)=qbI cn ck (.mk co cn cb ck ca) alts bodies:=rfl
theorem qAy {H:Heap} {S:Nat→Prop} {k0 k1:CTree} {ps:List Nat} (hl:ps.length=[k0,k1].length) (hk:∀ (i:Nat) (hi:i < [k0,k1].length),WS H S [k0,k1][i] (ps[i]'(by omega))):∃ p0 p1,ps=[p0,p1]∧WS H S k0 p0∧WS H S k1 p1:=by
 match ps,hl,hk with
 | [p0,p1],_,hk=>exact⟨p0,p1,rfl,hk 0 (by simp),hk 1 (by simp)⟩
theorem qCx {H:Heap} {S:Nat→Prop} {k0:CTree} {ps:List Nat} (hl:ps.length=[k0].length) (hk:∀ (i:Nat) (hi:i < [k0].length),WS H S [k0][i] (ps[i]'(by omega))):∃ p0,ps=[p0]∧WS H S k0 p0:=by
 match ps,hl,hk with
 | [p0],_,hk=>exact⟨p0,rfl,hk 0 (by simp)⟩
theorem qqL {H:Heap} {S:Nat→Prop} (op n:Int) {p:Nat} {a b c:Option (Option Nat)} (hp:S p) (h:H[p]? = some (.box [.int .i64 op,.int .i64 n,.list [] a,.list [] b,.list [] c])):WS H S (.mk op n [] [] []) p :=
 .mk op n [] [] [] p [] a b [] c hp h rfl rfl fun i hi=>absurd hi (by simp)
theorem qv8 {op n:Int} {bl kl:Nat} {as:List CAlt} (h:qa2 op n bl kl as=true) (h0:op=9):kl=bl:=by
 subst h0
 have e:qa2 9 n bl kl as=qbN n bl kl as.length (bl,bl,false):=rfl
 rw[e] at h
 unfold qbN at h
 simp only[Bool.and_eq_true,beq_iff_eq] at h
 omega
theorem qkS {α:Type} (g:Nat→α→Option Nat):∀ (xs:List α) (k:Nat) {r:Nat},qaE g xs k=some r→(∀ i x r,g i x=some r→r=i)→k≤r
 | [],k,r,h,_=>by cases h
 | x :: xs,k,r,h,hg => by
   rw[qaE] at h
   cases hx:g k x with
   | some q =>
     rw[hx] at h
     injection h with h
     have:=hg k x q hx
     omega
   | none =>
     rw[hx] at h
     have:=qkS g xs (k+1) h hg
     omega
theorem qkT {α:Type} (g:Nat→α→Option Nat):∀ (xs:List α) (k:Nat) {r:Nat},qaE g xs k=some r→(∀ i x r,g i x=some r→r=i)→r<k+xs.length
 | [],k,r,h,_=>by cases h
 | x :: xs,k,r,h,hg => by
   rw[qaE] at h
   rw[List.length_cons]
   cases hx:g k x with
   | some q =>
     rw[hx] at h
     injection h with h
     have:=hg k x q hx
     omega
   | none =>
     rw[hx] at h
     have:=qkT g xs (k+1) h hg
     omega
theorem qqz {α:Type} (g:Nat→α→Option Nat) (xs:List α) (k:Nat) {r:Nat} (h:qaE g xs k=some r) (hg:∀ i x r,g i x=some r→r=i):r<k+xs.length:=qkT g xs k h hg
theorem qkR (n:Int):∀ (rb:List Int) (rk:List CTree),rb.length≤rk.length→∀ j0,qcJ n rb rk=(qaE (fun i l=>if (l==n)=true then some i else none) rb j0).bind fun i=>rk[i-j0]?
 | [],rk,_,_=>by cases rk<;>rfl
 | l::rb,[],h,_=>by simp at h
 | l :: rb,k :: rk,h,j0 => by
   rw[qcJ,qaE]
   by_cases e:l=n
   ·subst e
    simp
   ·have e':(l==n)=false:=by simpa using e
    rw[if_neg e,e',qkR n rb rk (by simpa using h) (j0+1)]
    simp only[Bool.false_eq_true,if_false]
    cases hq:qaE (fun i l=>if (l==n)=true then some i else none) rb (j0+1) with
    | none=>rfl
    | some i =>
      have hi:=qkS _ _ _ hq (by
       intro i x r hr
       split at hr
       ·injection hr with hr;exact hr.symm
       ·cases hr)
      simp only[Option.bind_some]
      rw[show i-j0=(i-(j0+1))+1 by omega,List.getElem?_cons_succ]
theorem ql4 (cn:Int) (ck:List CTree) (c:CTree) (alts:List CAlt) (bodies:List CTree) {i:Nat} (hi:i<alts.length) (hb:i<bodies.length) :
  qbI cn ck c (alts.drop i) (bodies.drop i)=if alts[i].tag=cn then (if alts[i].binds.length≠ck.length then none else some (qdX alts[i].binds ck bodies[i])) else if alts[i].tag = -1∧qeF c=true then some bodies[i] else qbI cn ck c (alts.drop (i+1)) (bodies.drop (i+1)):=by
 rw[List.drop_eq_getElem_cons hi,List.drop_eq_getElem_cons hb,qbI]
def qfM (op n:Int):AObj:=.box [.int .i64 op,.int .i64 n,.list [] (some none),.list [] (some none),.list [] (some none)]
theorem qef (H:Heap) (S:Nat→Prop) (op n:Int):qjQ (H++[qfM op n]) S H.length (some (.mk op n [] [] [])) (.ptr (some (H.length,0))):=⟨_,rfl,qqL _ _ (.inr (Nat.le_refl _)) (hgl rfl)⟩
section
variable {L:Lib} (hL:Plain L)
include hL
theorem qA9 (h318:L.fns 318=some fn318) (n:Int) (h:Heap):pcall L 318 [.int .i64 n] h=some (.val (.int .i64 (qlW n)),h):=by
 refine qaX hL h318 rfl ?_ h
 unfold fn318 qlW qxS
 simp -implicitDefEqProofs only[ev_,aOp,opd,qaa,qaB,qaA,qab,qan,qac,qae,qaj,↓reduceIte,reduceCtorEq,Int.reduceNeg,qak]
theorem qwN (h318:L.fns 318=some fn318) (h301:L.fns 301=some fn301) (op n:Int) (hn:0≤n∧n≤11) (binds:List Int) (k0 k1:CTree) (alts:List CAlt) (H:Heap) (S:Nat→Prop) (p:Nat) (hw:NW H S (.mk op n binds [k0,k1] alts) p) :
  ∃ H' r,call L 301 [.ptr (some (p,0))] H=some (.val r,H')∧qjQ H' S H.length (qrl (.mk op n binds [k0,k1] alts)) r∧H.length≤H'.length∧∀ i,i<H.length→H'[i]? = H[i]? := by
 have hp:=hL.pure
 have hs:=hL.summ 301 (by rw[h301];simp)
 cases hw with
 | mk _ _ _ _ _ _ ps ob ok avs oa hpS hbox ha hl hk =>
 obtain⟨p0,p1,rfl,w0,w1⟩:=qAy hl hk
 obtain⟨o0,a,b0,kk0,a0⟩:=k0
 obtain⟨o1,b,b1,kk1,a1⟩:=k1
 cases w0 with
 | mk _ _ _ _ _ _ ps0 ob0 ok0 avs0 oa0 hpS0 hbox0 _ _ _ =>
 cases w1 with
 | mk _ _ _ _ _ _ ps1 ob1 ok1 avs1 oa1 hpS1 hbox1 _ _ _ =>
 have hwr:=qA9 hL h318
 have hc0:(0:Int)≤0:=by omega
 simp only[List.map_cons,List.map_nil] at hbox
 rw[show qar p0=.ptr (some (p0,0)) from rfl,show qar p1=.ptr (some (p1,0)) from rfl] at hbox
 rw[qgd]
 by_cases h6:6<n
 ·rw[if_pos (.inl h6)]
  refine⟨H,.ptr none,qaL hs h301 ?_,rfl,Nat.le_refl _,fun _ _=>rfl⟩
  unfold fn301
  simp -implicitDefEqProofs only[ev_,aOp,opd,qaa,qaB,qaA,qab,qaf,qag,qai,qan,qac,qae,qaj,↓reduceIte,reduceCtorEq,Nat.reduceEqDiff,gt_iff_lt,hbox,h6]
 ·by_cases e0:o0=1
  ·by_cases e1:o1=1
   ·subst e0 e1
    rw[if_neg (by simp;omega)]
    have hcase:n=0∨n=1∨n=2∨n=3∨n=4∨n=5∨n=6:=by omega
    have hgl':∀ o:AObj,(H++[o])[H.length]? = some o:=fun o=>hgl rfl
    rcases hcase with rfl | rfl | rfl | rfl | rfl | rfl | rfl
    ·refine⟨H++[qfM 1 (qlW (IntKind.i64.wrap (a+b)))],.ptr (some (H.length,0)),qaL hs h301 (by unfold qfM;unfold fn301;simp -implicitDefEqProofs only[ev_,aOp,opd,qaa,qaB,qaA,qad,qab,qaf,qag,qai,qcj,qcK,qat,qan,qac,qae,qaj,qaz,↓reduceIte,reduceCtorEq,Nat.reduceEqDiff,Nat.reduceAdd,Nat.reduceLeDiff,Int.reduceToNat,Int.reduceLE,Int.reduceLT,Int.reduceBNe,gt_iff_lt,qaw,Int.le_refl,hbox,hbox0,hbox1,hwr,hgl',qal L hp,hp]),qef H S _ _,by simp,fun i hi=>hga hi⟩
    ·refine⟨H++[qfM 1 (qlW (IntKind.i64.wrap (a-b)))],.ptr (some (H.length,0)),qaL hs h301 (by unfold qfM;unfold fn301;simp -implicitDefEqProofs only[ev_,aOp,opd,qaa,qaB,qaA,qad,qab,qaf,qag,qai,qcj,qcK,qat,qan,qac,qae,qaj,qaz,↓reduceIte,reduceCtorEq,Nat.reduceEqDiff,Nat.reduceAdd,Nat.reduceLeDiff,Int.reduceToNat,Int.reduceLE,Int.reduceLT,Int.reduceBEq,Int.reduceBNe,gt_iff_lt,qaw,Int.le_refl,hbox,hbox0,hbox1,hwr,hgl',qal L hp,hp]),qef H S _ _,by simp,fun i hi=>hga hi⟩
    ·refine⟨H++[qfM 1 (qlW (IntKind.i64.wrap (a*b)))],.ptr (some (H.length,0)),qaL hs h301 (by unfold qfM;unfold fn301;simp -implicitDefEqProofs only[ev_,aOp,opd,qaa,qaB,qaA,qad,qab,qaf,qag,qai,qcj,qcK,qat,qan,qac,qae,qaj,qaz,↓reduceIte,reduceCtorEq,Nat.reduceEqDiff,Nat.reduceAdd,Nat.reduceLeDiff,Int.reduceToNat,Int.reduceLE,Int.reduceLT,Int.reduceBEq,Int.reduceBNe,gt_iff_lt,qaw,Int.le_refl,hbox,hbox0,hbox1,hwr,hgl',qal L hp,hp]),qef H S _ _,by simp,fun i hi=>hga hi⟩
    ·unfold qeY
     by_cases hb:b=0
     ·subst hb
      refine⟨H,.ptr none,qaL hs h301 (by unfold fn301;simp -implicitDefEqProofs only[ev_,aOp,opd,qaa,qaB,qaA,qad,qab,qaf,qag,qai,qan,qac,qae,qaj,qaz,↓reduceIte,reduceCtorEq,Nat.reduceEqDiff,Int.reduceToNat,Int.reduceLE,Int.reduceLT,Int.reduceBEq,Int.reduceBNe,gt_iff_lt,Int.le_refl,hbox,hbox0,hbox1,hwr,hgl',qal L hp,hp]),rfl,Nat.le_refl _,fun _ _=>rfl⟩
     ·have hb':(b==0)=false:=by simpa using hb
      simp only[hb,if_false]
      refine⟨H++[qfM 1 (qlW (IntKind.i64.wrap (a.tdiv b)))],.ptr (some (H.length,0)),qaL hs h301 (by unfold qfM;unfold fn301;simp -implicitDefEqProofs only[ev_,aOp,opd,qaa,qaB,qaA,qad,qab,qaf,qag,qai,qcj,qcK,qat,qan,qac,qae,qaj,qaz,↓reduceIte,reduceCtorEq,Nat.reduceEqDiff,Nat.reduceAdd,Nat.reduceLeDiff,Int.reduceToNat,Int.reduceLE,Int.reduceLT,Int.reduceBEq,Int.reduceBNe,gt_iff_lt,qaw,Int.le_refl,hbox,hbox0,hbox1,hwr,hgl',hb,hb',qal L hp,hp]),qef H S _ _,by simp,fun i hi=>hga hi⟩
    ·unfold qeY
     by_cases hb:b=0
     ·subst hb
      refine⟨H,.ptr none,qaL hs h301 (by unfold fn301;simp -implicitDefEqProofs only[ev_,aOp,opd,qaa,qaB,qaA,qad,qab,qaf,qag,qai,qan,qac,qae,qaj,qaz,↓reduceIte,reduceCtorEq,Nat.reduceEqDiff,Int.reduceToNat,Int.reduceLE,Int.reduceLT,Int.reduceBEq,Int.reduceBNe,gt_iff_lt,Int.le_refl,hbox,hbox0,hbox1,hwr,hgl',qal L hp,hp]),rfl,Nat.le_refl _,fun _ _=>rfl⟩
     ·have hb':(b==0)=false:=by simpa using hb
      simp only[hb,if_false]
      refine⟨H++[qfM 1 (qlW (a.tmod b))],.ptr (some (H.length,0)),qaL hs h301 (by unfold qfM;unfold fn301;simp -implicitDefEqProofs only[ev_,aOp,opd,qaa,qaB,qaA,qad,qab,qaf,qag,qai,qcj,qcK,qat,qan,qac,qae,qaj,qaz,↓reduceIte,reduceCtorEq,Nat.reduceEqDiff,Nat.reduceAdd,Nat.reduceLeDiff,Int.reduceToNat,Int.reduceLE,Int.reduceLT,Int.reduceBEq,Int.reduceBNe,gt_iff_lt,qaw,Int.le_refl,hbox,hbox0,hbox1,hwr,hgl',hb,hb',qal L hp,hp]),qef H S _ _,by simp,fun i hi=>hga hi⟩
    ·unfold qeY
     by_cases hb:a<b
     ·simp only[hb,if_true]
      refine⟨H++[qfM 6 1],.ptr (some (H.length,0)),qaL hs h301 (by unfold qfM;unfold fn301;simp -implicitDefEqProofs only[ev_,aOp,opd,qaa,qay,qaB,qaA,qad,qab,qaf,qag,qaT,qai,qcj,qcK,leaf,qat,qan,qac,qae,qaj,qaz,↓reduceIte,reduceCtorEq,Nat.reduceEqDiff,Nat.reduceAdd,Nat.reduceLeDiff,Int.reduceToNat,Int.reduceLE,Int.reduceLT,Int.reduceBEq,Int.reduceBNe,gt_iff_lt,Int.le_refl,hbox,hbox0,hbox1,hwr,hgl',hsl,hb,qal L hp,hp]),qef H S _ _,by simp,fun i hi=>hga hi⟩
     ·simp only[hb,if_false]
      refine⟨H++[qfM 6 0],.ptr (some (H.length,0)),qaL hs h301 (by unfold qfM;unfold fn301;simp -implicitDefEqProofs only[ev_,aOp,opd,qaa,qaB,qaA,qad,qab,qaf,qag,qai,qcj,qcK,qat,qan,qac,qae,qaj,qaz,↓reduceIte,reduceCtorEq,Nat.reduceEqDiff,Nat.reduceAdd,Nat.reduceLeDiff,Int.reduceToNat,Int.reduceLE,Int.reduceLT,Int.reduceBEq,Int.reduceBNe,gt_iff_lt,Int.le_refl,hbox,hbox0,hbox1,hwr,hgl',hsl,hb,qal L hp,hp]),qef H S _ _,by simp,fun i hi=>hga hi⟩
    ·unfold qeY
     by_cases hb:a=b
     ·subst hb
      have hb':(a==a)=true:=by simp
      simp only[if_true]
      refine⟨H++[qfM 6 1],.ptr (some (H.length,0)),qaL hs h301 (by unfold qfM;unfold fn301;simp -implicitDefEqProofs only[ev_,aOp,opd,qaa,qay,qaB,qaA,qad,qab,qaf,qag,qaT,qai,qcj,qcK,leaf,qat,qan,qac,qae,qaj,qaz,↓reduceIte,reduceCtorEq,Nat.reduceEqDiff,Nat.reduceAdd,Nat.reduceLeDiff,Int.reduceToNat,Int.reduceLE,Int.reduceLT,Int.reduceBEq,Int.reduceBNe,gt_iff_lt,Int.le_refl,hbox,hbox0,hbox1,hwr,hgl',hsl,hb',qal L hp,hp]),qef H S _ _,by simp,fun i hi=>hga hi⟩
     ·have hb':(a==b)=false:=by simpa using hb
      simp only[hb,if_false]
      refine⟨H++[qfM 6 0],.ptr (some (H.length,0)),qaL hs h301 (by unfold qfM;unfold fn301;simp -implicitDefEqProofs only[ev_,aOp,opd,qaa,qaB,qaA,qad,qab,qaf,qag,qai,qcj,qcK,qat,qan,qac,qae,qaj,qaz,↓reduceIte,reduceCtorEq,Nat.reduceEqDiff,Nat.reduceAdd,Nat.reduceLeDiff,Int.reduceToNat,Int.reduceLE,Int.reduceLT,Int.reduceBEq,Int.reduceBNe,gt_iff_lt,Int.le_refl,hbox,hbox0,hbox1,hwr,hgl',hsl,hb',qal L hp,hp]),qef H S _ _,by simp,fun i hi=>hga hi⟩
   ·have e1':(o1==1)=false:=by simpa using e1
    subst e0
    rw[if_pos (.inr (.inr e1))]
    refine⟨H,.ptr none,qaL hs h301 ?_,rfl,Nat.le_refl _,fun _ _=>rfl⟩
    unfold fn301
    simp -implicitDefEqProofs only[ev_,aOp,opd,qaa,qaB,qaA,qad,qab,qaf,qag,qai,qan,qac,qae,qaj,↓reduceIte,reduceCtorEq,Nat.reduceEqDiff,Int.reduceToNat,Int.reduceLE,gt_iff_lt,Int.le_refl,hbox,hbox0,hbox1,h6,e1',bne]
  ·have e0':(o0==1)=false:=by simpa using e0
   rw[if_pos (.inr (.inl e0))]
   refine⟨H,.ptr none,qaL hs h301 ?_,rfl,Nat.le_refl _,fun _ _=>rfl⟩
   unfold fn301
   simp -implicitDefEqProofs only[ev_,aOp,opd,qaa,qaB,qaA,qad,qab,qaf,qag,qai,qan,qac,qae,qaj,↓reduceIte,reduceCtorEq,Nat.reduceEqDiff,Int.reduceToNat,gt_iff_lt,Int.le_refl,hbox,hbox0,h6,e0',bne]
theorem qxe (h315:L.fns 315=some fn315) (h317:L.fns 317=some fn317) (h302:L.fns 302=some fn302) (op n:Int) (binds:List Int) (k0:CTree) (alts:List CAlt) (hf:TFit k0) (hsh:ShT k0) (hh:hgt k0≤900) (H:Heap) (S:Nat→Prop) (hS:∀ i,S i→i<H.length) (p:Nat) (hw:NW H S (.mk op n binds [k0] alts) p) :
  ∃ r,call L 302 [.ptr (some (p,0))] H=some (.val r,H)∧qjQ H S H.length (qrA (.mk op n binds [k0] alts)) r:=by
 have hp:=hL.pure
 have hs:=hL.summ 302 (by rw[h302];simp)
 cases hw with
 | mk _ _ _ _ _ _ ps ob ok avs oa hpS hbox ha hl hk =>
 obtain⟨p0,rfl,w0⟩:=qCx hl hk
 have hv:=qdE (L:=L) (f:=317) (args:=[.ptr (some (p0,0))]) (h:=H) (u:=.bool (qeF k0)) (by rw[List.map_cons,List.map_nil,w0.lookV hh]) (by rw[qax,qbY];rfl) rfl (qiM hL h315 h317 k0 hf hsh H)
 simp only[List.map_cons,List.map_nil] at hbox
 rw[show qar p0=.ptr (some (p0,0)) from rfl] at hbox
 obtain⟨ro,rn,rb,rk,ra⟩:=k0
 rw[qgn]
 cases w0 with
 | mk _ _ _ _ _ _ ps0 ob0 ok0 avs0 oa0 hpS0 hbox0 ha0 hl0 hk0 =>
 cases hsh with
 | mk _ _ _ _ _ hsp _ =>
 by_cases h9:ro=9
 ·have h9':(ro==9)=true:=by simpa using h9
  cases hval:qeF (.mk ro rn rb rk ra) with
  | false =>
    rw[hval] at hv
    rw[if_pos (.inr rfl)]
    refine⟨.ptr none,qaL hs h302 ?_,rfl⟩
    unfold fn302
    simp -implicitDefEqProofs only[ev_,aOp,opd,qaa,qaB,qaA,aUn,qad,qab,qaf,qag,qai,qan,qac,qae,qaj,↓reduceIte,reduceCtorEq,Nat.reduceEqDiff,Int.reduceToNat,Int.le_refl,hbox,hbox0,h9',hv,bne]
  | true =>
    rw[hval] at hv
    rw[if_neg (by simp[h9])]
    have hlr:rb.length=rk.length:=by
     have:=qv8 hsp h9
     omega
    have hrb:rb.length<2 ^ 30:=by
     cases hf with
     | mk _ _ _ _ _ hb _ _ _=>rw[List.length_append] at hb;omega
    have hloop:=qb6 (pure:=L.pure) (call:=call L) (b:=H.length) (keep:=[1000000,0,3,25,26,27]) (fk:=[1000000,2]) (id:=0) (body:=qin) rb (fun i l=>if (l==n)=true then some i else none)
     (fun i=>⟨kt [0,3,25,26,27] [.ptr (some (p,0)),.ptr (some (p0,0)),.list (rb.map qav) ob0,.int .i64 rb.length,.int .i64 i],H⟩) ⟨kt [2] [.junk],H⟩ (fun i=>⟨kt [2] [qar (ps0.getD i 0)],H⟩)
     (by
      intro i hi hq
      obtain⟨h1,h2,h3⟩:=qaN qav rb hrb i hi
      have hq':(rb[i]==n)=false:=by
       cases hx:rb[i]==n with
       | false=>rfl
       | true=>simp[hx] at hq
      generalize rb[i]=a at *
      unfold qin
      simp -implicitDefEqProofs only[ev_,aOp,opd,qaa,qaB,qaA,qad,qab,qag,qai,↓reduceIte,reduceCtorEq,Nat.reduceEqDiff,qa1,h1,h2,h3,hq',hbox])
     (by
      intro i hi r hq
      obtain⟨h1,h2,h3⟩:=qaN qav rb hrb i hi
      have hq':(rb[i]==n)=true:=by
       cases hx:rb[i]==n with
       | true=>rfl
       | false=>simp[hx] at hq
      rw[if_pos hq'] at hq
      injection hq with hq
      subst hq
      have hg:(ps0.map qar)[i]? = some (.ptr (some (ps0.getD i 0,0))):=by
       rw[List.getElem?_map,List.getD_eq_getElem?_getD,List.getElem?_eq_getElem (by omega)]
       rfl
      have hnn:(0:Int)≤(i:Int):=Int.natCast_nonneg _
      generalize rb[i]=a at *
      generalize ps0.getD i 0=pi at *
      rw[show qar pi=.ptr (some (pi,0)) from rfl]
      unfold qin
      simp -implicitDefEqProofs only[ev_,aOp,opd,qaa,qaB,qaA,qad,qab,qag,qai,gcE,↓reduceIte,reduceCtorEq,Nat.reduceEqDiff,qa1,h1,h2,h3,hq',hbox,hbox0,hg,hnn])
     (by
      have h0:=qaQ rb.length
      unfold qin
      simp -implicitDefEqProofs only[ev_,aOp,opd,qaa,qaB,qaA,qab,gcE,↓reduceIte,reduceCtorEq,Nat.reduceEqDiff,h0])
    simp only[Int.natCast_zero] at hloop
    rw[qkR n rb rk (by omega) 0]
    cases hq:qaE (fun i l=>if (l==n)=true then some i else none) rb 0 with
    | none =>
      rw[hq] at hloop
      simp only[qbh] at hloop
      refine⟨.ptr none,qaL hs h302 ?_,rfl⟩
      unfold fn302
      simp -implicitDefEqProofs only[ev_,aOp,opd,qaa,qaB,qbd,qaA,aUn,qad,qab,qaf,qag,qai,qan,qac,qae,qaj,↓reduceIte,reduceCtorEq,Nat.reduceEqDiff,Int.reduceToNat,Int.le_refl,hbox,hbox0,h9',hv,bne,hloop]
    | some i =>
      rw[hq] at hloop
      simp only[qbh] at hloop
      have hi:i<0+rb.length:=qqz _ _ _ hq (by
       intro i x r hr
       split at hr
       ·injection hr with hr;exact hr.symm
       ·cases hr)
      simp only[Option.bind_some,Nat.sub_zero]
      rw[List.getElem?_eq_getElem (by omega)]
      have hgd:ps0.getD i 0=ps0[i]'(by omega):=by
       rw[List.getD_eq_getElem?_getD,List.getElem?_eq_getElem (by omega)]
       rfl
      rw[hgd] at hloop
      refine⟨.ptr (some (ps0[i]'(by omega),0)),qaL hs h302 ?_,⟨_,rfl,(hk0 i (by omega)).mono fun j hj=>.inl hj⟩⟩
      generalize ps0[i]'(by omega)=pi at *
      rw[show qar pi=.ptr (some (pi,0)) from rfl] at hloop
      unfold fn302
      simp -implicitDefEqProofs only[ev_,aOp,opd,qaa,qaB,qbd,qaA,aUn,qad,qab,qaf,qag,qai,qan,qac,qae,qaj,↓reduceIte,reduceCtorEq,Nat.reduceEqDiff,Int.reduceToNat,Int.le_refl,hbox,hbox0,h9',hv,bne,hloop]
 ·have h9':(ro==9)=false:=by simpa using h9
  rw[if_pos (.inl h9)]
  refine⟨.ptr none,qaL hs h302 ?_,rfl⟩
  unfold fn302
  simp -implicitDefEqProofs only[ev_,aOp,opd,qaa,qaB,qaA,qad,qab,qaf,qag,qai,qan,qac,qae,qaj,↓reduceIte,reduceCtorEq,Nat.reduceEqDiff,Int.reduceToNat,Int.le_refl,hbox,hbox0,h9',bne]
theorem qt8 (h313:L.fns 313=some fn313) (h297:L.fns 297=some fn297) (h315:L.fns 315=some fn315) (h317:L.fns 317=some fn317) (h300:L.fns 300=some fn300) (op n:Int) (binds:List Int) (c:CTree) (bodies:List CTree) (alts:List CAlt) (hf:TFit c) (hsh:ShT c) (hh:hgt c≤900)
  (hal:alts.length<2 ^ 30) (hab:∀ a∈alts,a.binds.length<2 ^ 30) (hlb:bodies.length=alts.length) (H:Heap) (S:Nat→Prop) (hS:∀ i,S i→i<H.length) (p:Nat) (hw:NW H S (.mk op n binds (c::bodies) alts) p) :
  ∃ H' r,call L 300 [.ptr (some (p,0))] H=some (.val r,H')∧qjQ H' S H.length (qnu (.mk op n binds (c::bodies) alts)) r∧H.length≤H'.length∧∀ i,i<H.length→H'[i]? = H[i]? := by
 have hp:=hL.pure
 have hs:=hL.summ 300 (by rw[h300];simp)
 cases hw with
 | mk _ _ _ _ _ _ ps ob ok avs oa hpS hbox ha hl hk =>
 have hl':ps.length=bodies.length+1:=by simpa using hl
 have w0:WS H S c (ps[0]'(by omega)):=hk 0 (by simp)
 have wb:∀ (i:Nat) (hi:i<bodies.length),WS H S bodies[i] (ps[i+1]'(by omega)):=fun i hi=>hk (i+1) (by simpa using hi)
 have hg0:(ps.map qar)[0]? = some (.ptr (some (ps[0]'(by omega),0))):=by rw[List.getElem?_map,List.getElem?_eq_getElem (by omega)];rfl
 have hgb:∀ (i:Nat) (hi:i<bodies.length),(ps.map qar)[i+1]? = some (.ptr (some (ps[i+1]'(by omega),0))):=fun i hi=>by rw[List.getElem?_map,List.getElem?_eq_getElem (by omega)];rfl
 have hlp:=hlt hbox
 have hv:∀ H':Heap,(∀ i,i<H.length→H'[i]? = H[i]?)→qgI (call L) 317 [.ptr (some (ps[0]'(by omega),0))] H'=some (.val (.bool (qeF c)),H'):=fun H' he =>
  qdE (L:=L) (f:=317) (args:=[.ptr (some (ps[0]'(by omega),0))]) (h:=H') (u:=.bool (qeF c)) (by rw[List.map_cons,List.map_nil,(w0.frame' he).lookV hh]) (by rw[qax,qbY];rfl) rfl (qiM hL h315 h317 c hf hsh H')
 have hc0:=w0
 obtain⟨co,cn,cb,ck,ca⟩:=c
 rw[qe3]
 cases w0 with
 | mk _ _ _ _ _ _ ps0 ob0 ok0 avs0 oa0 hpS0 hbox0 ha0 hl0 hk0 =>
 have hckl:ck.length<2 ^ 30:=by
  cases hf with
  | mk _ _ _ _ _ _ hkk _ _=>exact hkk
 have hloop:(∃ T,qba L.pure (call L) H.length [1000000,0,3,15,16,17] [1000000,2] 0 qdi ⟨kt [0,3,15,16,17] [.ptr (some (p,0)),.ptr (some (ps[0]'(by omega),0)),.list avs oa,.int .i64 alts.length,.int .i64 0],H⟩=some (.normal,T)∧(∃ H',T=⟨kt [2] [.junk],H'⟩∧qbI cn ck (.mk co cn cb ck ca) alts bodies=none∧H.length≤H'.length∧∀ i,i<H.length→H'[i]? = H[i]?)) ∨
   (∃ T,qba L.pure (call L) H.length [1000000,0,3,15,16,17] [1000000,2] 0 qdi ⟨kt [0,3,15,16,17] [.ptr (some (p,0)),.ptr (some (ps[0]'(by omega),0)),.list avs oa,.int .i64 alts.length,.int .i64 0],H⟩=some (.ret,T)∧(∃ H' r,T=⟨kt [2] [r],H'⟩∧qjQ H' S H.length (qbI cn ck (.mk co cn cb ck ca) alts bodies) r∧H.length≤H'.length∧∀ i,i<H.length→H'[i]? = H[i]?)):=by
  refine qqN (pure:=L.pure) (call:=call L) (b:=H.length) (id:=0) (body:=qdi)
   (fun i s=>∃ H',s=⟨kt [0,3,15,16,17] [.ptr (some (p,0)),.ptr (some (ps[0]'(by omega),0)),.list avs oa,.int .i64 alts.length,.int .i64 i],H'⟩∧qbI cn ck (.mk co cn cb ck ca) alts bodies=qbI cn ck (.mk co cn cb ck ca) (alts.drop i) (bodies.drop i)∧H.length≤H'.length∧∀ i,i<H.length→H'[i]? = H[i]?) alts.length _ _ ?_ ?_ ?_
  ·intro i s hi hs'
   obtain⟨H',rfl,hce,hle,hkp⟩:=hs'
   have hib:i<bodies.length:=by omega
   rw[ql4 cn ck _ alts bodies hi hib] at hce
   obtain⟨h1,h2,_⟩:=qaN qas alts hal i hi
   have h3:avs[i]? = some (.agg [.int .i64 alts[i].tag,.list (alts[i].binds.map qav) none]):=by rw[show avs=_ from ha,List.getElem?_map,List.getElem?_eq_getElem hi];rfl
   have hbl:=hab _ (List.getElem_mem hi)
   have hgi:=hgb i hib
   have wi:=wb i hib
   have hw1:IntKind.i64.wrap (1+(i:Int))=((i+1:Nat):Int):=by rw[qcy (by omega) (by omega)];omega
   rw[hce]
   have hA:∀ o:AObj,∀ q,q<H.length→(H'++[o])[q]? = H[q]? := fun o q hq=>by rw[hga (by omega),hkp q hq]
   have hbx:∀ o:AObj,(H'++[o])[p]? = some (.box [.int .i64 op,.int .i64 n,.list (binds.map qav) ob,.list (ps.map qar) ok,.list avs oa]):=fun o=>by rw[hA o p hlp];exact hbox
   have hbx0:∀ o:AObj,(H'++[o])[ps[0]'(by omega)]? = some (.box [.int .i64 co,.int .i64 cn,.list (cb.map qav) ob0,.list (ps0.map qar) ok0,.list avs0 oa0]):=fun o=>by rw[hA o _ (hlt hbox0)];exact hbox0
   have hvv:=fun o=>hv (H'++[o]) (hA o)
   have hps0:((ps0.length:Nat):Int)=ck.length:=by rw[hl0]
   have hlets:=fun (o:AObj) (hle2:alts[i].binds.length≤ck.length)=>qu6 hL h313 h297 alts[i].binds hbl ps0 ck (by omega) hle2 bodies[i] ps[i+1] none ok0 (H'++[o]) S (fun q hq=>by have:=hS q hq;simp;omega)
    (fun q hq=>(hk0 q (by omega)).frame fun r hr=>hA o r (hS r hr)) (wi.frame fun r hr=>hA o r (hS r hr))
   obtain⟨r,hr0⟩:∃ r,qbc L.pure (call L) H.length [1000000,0,3,15,16,17] [1000000,2] qdi ⟨kt [0,3,15,16,17] [.ptr (some (p,0)),.ptr (some (ps[0]'(by omega),0)),.list avs oa,.int .i64 alts.length,.int .i64 i],H'⟩=r:=⟨_,rfl⟩
   have hr:=hr0
   generalize alts[i]=a at *
   generalize hpi:ps[i+1]'(by omega)=pi at *
   generalize hp0:ps[0]'(by omega)=p0 at *
   generalize bodies[i]=bi at *
   by_cases e1:a.tag=cn
   ·have e1':(a.tag==cn)=true:=by simpa using e1
    by_cases e2:a.binds.length=ck.length
    ·have e2':(((a.binds.length:Nat):Int)==(ck.length:Int))=true:=by simp[e2]
     rw[if_pos e1,if_neg (by simp[e2])]
     obtain⟨H2,q,c1,c2,c3,c4⟩:=hlets (.box [.int .i64 a.tag,.list (a.binds.map qav) none]) (by omega)
     rw[show qar pi=.ptr (some (pi,0)) from rfl,show qar q=.ptr (some (q,0)) from rfl] at c1
     unfold qdi at hr
     simp -implicitDefEqProofs only[ev_,aOp,opd,qaa,qay,qaB,qbd,qaA,qad,qab,qaf,qag,qaT,qaS,qai,leaf,qat,gcE,qaz,↓reduceIte,reduceCtorEq,Nat.reduceEqDiff,Nat.reduceAdd,Int.reduceNeg,h1,h2,h3,hgl,hsl,hbx,hbx0,e1',e2',hps0,hgi,hw1,c1,bne,Int.natCast_nonneg] at hr
     subst hr
     refine .inr ⟨_,hr0,H2,.ptr (some (q,0)),rfl,⟨q,rfl,c2.mono fun j hj=>?_⟩,by rw[List.length_append] at c3;omega,fun j hj=>by rw[c4 j (by simp;omega),hga (by omega),hkp j hj]⟩
     rcases hj with hj | hj
     ·exact .inl hj
     ·rw[List.length_append] at hj
      exact .inr (by omega)
    ·have e2':(((a.binds.length:Nat):Int)==(ck.length:Int))=false:=by simp;omega
     rw[if_pos e1,if_pos e2]
     unfold qdi at hr
     simp -implicitDefEqProofs only[ev_,aOp,opd,qaa,qay,qaB,qbd,qaA,qad,qab,qaf,qag,qaT,qaS,qai,leaf,qat,gcE,qaz,↓reduceIte,reduceCtorEq,Nat.reduceEqDiff,Nat.reduceAdd,Int.reduceNeg,h1,h2,h3,hgl,hsl,hbx,hbx0,e1',e2',hps0,bne] at hr
     subst hr
     exact .inr ⟨_,hr0,_,.ptr none,rfl,rfl,by simp;omega,fun j hj=>hA _ j hj⟩
   ·have e1':(a.tag==cn)=false:=by simpa using e1
    rw[if_neg e1]
    by_cases e3:a.tag = -1
    ·have e3':(a.tag == -1)=true:=by simpa using e3
     cases hval:qeF (.mk co cn cb ck ca) with
     | true =>
       rw[hval] at hvv
       rw[if_pos ⟨e3,rfl⟩]
       unfold qdi at hr
       simp -implicitDefEqProofs only[ev_,aOp,opd,qaa,qay,qaB,qaA,qad,qab,qaf,qag,qaT,qaS,qai,leaf,qat,gcE,qaz,↓reduceIte,reduceCtorEq,Nat.reduceEqDiff,Nat.reduceAdd,Int.reduceNeg,h1,h2,h3,hgl,hsl,hbx,hbx0,e1',e3',hps0,hgi,hw1,hvv,bne,Int.natCast_nonneg] at hr
       subst hr
       exact .inr ⟨_,hr0,_,.ptr (some (pi,0)),rfl,⟨pi,rfl,(wi.frame fun r hr=>hA _ r (hS r hr)).mono fun j hj=>.inl hj⟩,by simp;omega,fun j hj=>hA _ j hj⟩
     | false =>
       rw[hval] at hvv hce
       rw[if_neg e1,if_neg (by simp)] at hce
       unfold qdi at hr
       simp -implicitDefEqProofs only[ev_,aOp,opd,qaa,qay,qaB,qaA,qad,qab,qaf,qag,qaT,qaS,qai,leaf,qat,qaz,↓reduceIte,reduceCtorEq,Nat.reduceEqDiff,Nat.reduceAdd,Int.reduceNeg,h1,h2,h3,hgl,hsl,hbx,hbx0,e1',e3',hps0,hvv,bne] at hr
       subst hr
       exact .inl ⟨_,hr0,_,rfl,by rw[if_neg (by simp)],by simp;omega,fun j hj=>hA _ j hj⟩
    ·have e3':(a.tag == -1)=false:=by simpa using e3
     rw[if_neg e1,if_neg (fun h=>e3 h.1)] at hce
     unfold qdi at hr
     simp -implicitDefEqProofs only[ev_,aOp,opd,qaa,qay,qaB,qaA,qad,qab,qaf,qag,qaT,qaS,qai,leaf,qat,qaz,↓reduceIte,reduceCtorEq,Nat.reduceEqDiff,Nat.reduceAdd,Int.reduceNeg,h1,h2,h3,hgl,hsl,hbx,hbx0,e1',e3',hps0,bne] at hr
     subst hr
     exact .inl ⟨_,hr0,_,rfl,by rw[if_neg (fun h=>e3 h.1)],by simp;omega,fun j hj=>hA _ j hj⟩
  ·intro s hs'
   obtain⟨H',rfl,hce,hle,hkp⟩:=hs'
   have h0:=qaQ alts.length
   rw[List.drop_length] at hce
   refine⟨_,?_,H',rfl,by rw[hce];cases bodies.drop alts.length<;>rfl,hle,hkp⟩
   unfold qdi
   simp -implicitDefEqProofs only[ev_,aOp,opd,qaa,qaB,qaA,qab,gcE,↓reduceIte,reduceCtorEq,Nat.reduceEqDiff,Int.reduceNeg,h0]
  ·exact⟨H,rfl,by rw[List.drop_zero,List.drop_zero],Nat.le_refl _,fun _ _=>rfl⟩
 have havl:((avs.length:Nat):Int)=alts.length:=by rw[ha.len]
 rcases hloop with ⟨T,g1,H',rfl,g2,g3,g4⟩ | ⟨T,g1,H',r,rfl,g2,g3,g4⟩
 ·rw[g2]
  refine⟨H',.ptr none,qaL hs h300 ?_,rfl,g3,g4⟩
  unfold fn300
  simp -implicitDefEqProofs only[ev_,aOp,opd,qaa,qbd,qad,qag,qai,qan,qac,qae,qaj,↓reduceIte,reduceCtorEq,Nat.reduceEqDiff,Int.reduceToNat,Int.le_refl,hbox,hg0,havl,g1]
 ·refine⟨H',r,qaL hs h300 ?_,g2,g3,g4⟩
  unfold fn300
  simp -implicitDefEqProofs only[ev_,aOp,opd,qaa,qbd,qad,qag,qai,qan,qac,qae,qaj,↓reduceIte,reduceCtorEq,Nat.reduceEqDiff,Int.reduceToNat,Int.le_refl,hbox,hg0,havl,g1]
end
end Go.Abs
