/-
  slices.SortFunc at usages, ordered by their identifiers, as this seat's program has it. Conditions: none.
-/
import Derived.Test.YtjbgooldkkbdmaaDoorShelfNU
import Derived.Test.YtjbgooldkkbdmaaDoorSeatPN
import Derived.Test.YtjbgooldkkbdmaaDoorUK
import Derived.WalkKit
set_option linter.unusedVariables false
set_option linter.unusedSimpArgs false
set_option maxRecDepth 100000
set_option maxHeartbeats 4000000
namespace Go.Proofs
open Go.Shelf Go.RowKit Go.Lib Go.Sort
def qd7 (x:Int × Int):List Value:=[.int .i64 x.1,.int .i64 x.2]
theorem qrO (x y:Int × Int) (W:World):Calls Tryd.prog 15 #[.agg #[.int .i64 x.1,.int .i64 x.2],.agg #[.int .i64 y.1,.int .i64 y.2]] W fun e w'=>e=.returned (.int .i64 (Lib.compareInt x.1 y.1))∧∃ q os',w'=grow (W.drewN q) os':=by
 have hcon:=fun W'=>AnyG.cmp_Compare_int Tryd.cmpI x.1 y.1 W'
 change ∀ W',Calls Tryd.prog 16 _ _ _ at hcon
 generalize Lib.compareInt x.1 y.1=r at hcon ⊢
 go_enter Tryd.func15,Tryd.ntmps15
 go_wp2_with (go_at_call 16;refine (hcon _).mono ?_;rintro e w' ⟨rfl,rfl⟩)
 go_ret
 exact⟨rfl,0,_,by rw[alloc_eq_grow,alloc_eq_grow,grow_grow];rfl⟩
theorem qrP (blk off size:Nat) (w:World):CmpLays Tryd.prog 15 #[] qd7 2 (fun x y=>Lib.compareInt x.1 y.1) blk off size w :=
 fun _ _ _ _ x y=>qrO x y _
theorem ltU (x y:Int × Int):ltOf (fun x y:Int × Int=>Lib.compareInt x.1 y.1) x y=decide (x.1<y.1):=by
 unfold ltOf Lib.compareInt
 by_cases h1:x.1<y.1
 ·simp[h1]
 ·by_cases h2:y.1<x.1<;>simp[h1,h2]
theorem qvU:SWO (ltOf fun x y:Int × Int=>Lib.compareInt x.1 y.1) where
 irrefl x:=by rw[ltU];simp
 trans x y z h1 h2:=by rw[ltU] at *;simp at *;omega
 ntrans x y z h1 h2:=by rw[ltU] at *;simp at *;omega
end Go.Proofs
namespace Go.Abs
open Go.Proofs Go.RowKit Go.Sort
def qpn (l:List (Int × Int)):List (Int × Int):=(pdq (ltOf fun x y:Int × Int=>Lib.compareInt x.1 y.1) l.toArray 0 l.toArray.size (Lib.bitLen l.toArray.size) true true).toList
theorem qiY (l:List (Int × Int)):(qpn l).Perm l:=by
 have h:=(pdq_sorts (ltOf fun x y:Int × Int=>Lib.compareInt x.1 y.1) qvU l.toArray 0 l.toArray.size (Lib.bitLen l.toArray.size) true true (Nat.zero_le _) (Nat.le_refl _) (Or.inl rfl)).1
 obtain⟨hsz,_,hperm⟩:=h
 unfold qpn
 generalize pdq (ltOf fun x y:Int × Int=>Lib.compareInt x.1 y.1) l.toArray 0 l.toArray.size (Lib.bitLen l.toArray.size) true true=d' at *
 have e1:d'.extract 0 l.toArray.size=d':=by rw[← hsz];exact Array.extract_size
 rw[e1,Array.extract_size] at hperm
 exact hperm
theorem qhP (l:List (Int × Int)):(qpn l).length=l.length:=(qiY l).length_eq
def qdD:List AVal→List (Int × Int)
 | .int .i64 a::.int .i64 b::r=>(a,b)::qdD r
 | _=>[]
theorem qoq:∀ (l:List (Int × Int)),qdD (qaD l)=l
 | []=>rfl
 | p :: l => by
   have h:qaD (p::l)=.int .i64 p.1::.int .i64 p.2::qaD l:=rfl
   rw[h,qdD,qoq l]
def qhl (args:List AVal) (h:Heap):Option (ARes × Heap) :=
 match args with
 | [.list [] (some none),.func 287 [] []]=>some (.val (.tuple []),h)
 | [.vec id n,.func 287 [] []] =>
   (match h[id]? with
   | some (.vec cs 2)=>if (cs.all qiz && decide (n*2=cs.length) && decide (n<1073741824))=true then some (.val (.tuple []),h.set id (.vec (qaD (qpn (qdD cs))) 2)) else none
   | _=>none)
 | _=>none
theorem qpm (id n:Nat) (h:Heap):qhl [.vec id n,.func 287 [] []] h=(match h[id]? with
  | some (.vec cs 2)=>if (cs.all qiz && decide (n*2=cs.length) && decide (n<1073741824))=true then some (.val (.tuple []),h.set id (.vec (qaD (qpn (qdD cs))) 2)) else none
  | _=>none):=rfl
theorem qmw {id n:Nat} {h:Heap} {cs:List AVal} (he:h[id]? = some (.vec cs 2)):qhl [.vec id n,.func 287 [] []] h=if (cs.all qiz && decide (n*2=cs.length) && decide (n<1073741824))=true then some (.val (.tuple []),h.set id (.vec (qaD (qpn (qdD cs))) 2)) else none:=by
 rw[qpm,he]
 rfl
theorem qh7:∀ (cs:List AVal),cs.all qiz=true→(∃ n,n*2=cs.length)→qaD (qdD cs)=cs
 | [],_,_=>rfl
 | [x],_,⟨n,h⟩=>by simp at h;omega
 | x :: y :: r,h,⟨n,hn⟩ => by
   rw[List.all_cons,List.all_cons,Bool.and_eq_true,Bool.and_eq_true] at h
   obtain⟨h1,h2,h3⟩:=h
   have ih:=qh7 r h3 ⟨n-1,by simp at hn;omega⟩
   unfold qiz at h1 h2
   split at h1
   ·split at h2
    ·rw[qdD]
     have h:∀ p l,qaD (p::l)=.int .i64 p.1::.int .i64 p.2::qaD l:=fun _ _=>rfl
     rw[h,ih]
    ·cases h2
   ·cases h1
def qdr (l:List (Int × Int)):List Value:=l.flatMap qd7
theorem qgG (l:List (Int × Int)):(qdr l).length=l.length*2:=by
 unfold qdr
 induction l with
 | nil=>rfl
 | cons p l ih=>rw[List.flatMap_cons,List.length_append,ih,List.length_cons];show 2+_=_;omega
theorem qe0:∀ (l:List (Int × Int)) (j:Nat),j<l.length*2→∃ n:Int,(qaD l)[j]? = some (.int .i64 n)∧(qdr l)[j]? = some (.int .i64 n)
 | [],j,h=>by simp at h
 | p :: l,j,h => by
   have h1:qaD (p::l)=.int .i64 p.1::.int .i64 p.2::qaD l:=rfl
   have h2:qdr (p::l)=.int .i64 p.1::.int .i64 p.2::qdr l:=rfl
   rw[h1,h2]
   rcases j with _ | _ | j
   ·exact⟨_,rfl,rfl⟩
   ·exact⟨_,rfl,rfl⟩
   ·simp only[List.getElem?_cons_succ]
    exact qe0 l j (by simp at h;omega)
theorem qjK (l:List (Int × Int)):(flatK qd7 2 l.toArray).toList=qdr l:=by
 refine List.ext_getElem? fun j=>?_
 by_cases hj:j<l.length*2
 ·have hd:j / 2<l.length:=by omega
  have hx:l[j / 2]? = some l[j / 2]:=List.getElem?_eq_getElem hd
  have hg:(qd7 l[j / 2])[j % 2]? = some ((qd7 l[j / 2])[j % 2]'(by show _<2;omega)):=List.getElem?_eq_getElem _
  have h1:=qil (f:=qd7) (sz:=2) (xs:=l) (fun _ _=>rfl) hx hg
  have h2:j / 2*2+j % 2=j:=by omega
  rw[h2] at h1
  unfold qdr
  rw[h1]
  have hs:j<(flatK qd7 2 l.toArray).toList.length:=by simp;exact hj
  rw[List.getElem?_eq_getElem hs]
  congr 1
  have h3:=get_flatK qd7 2 l.toArray j (by simpa using hj)
  rw[getElem!_pos (flatK qd7 2 l.toArray) j (by simpa using hj)] at h3
  rw[Array.getElem_toList,h3]
  have h4:l.toArray[j / 2]! = l[j / 2]:=by rw[getElem!_pos l.toArray (j / 2) (by simpa using hd)];simp
  rw[h4,getElem!_pos (qd7 l[j / 2]) (j % 2) (by show _<2;omega)]
 ·rw[List.getElem?_eq_none (by simp;omega),List.getElem?_eq_none (by rw[qgG];omega)]
variable {G:Ghost} {h:Heap} {w w':World}
theorem qpQ {l:List (Int × Int)} {vs:List Value} (hl:vs.length=l.length*2) (hr:∀ (i:Nat) (c:AVal) (v:Value),(qaD l)[i]? = some c→vs[i]? = some v→Rep env G c v):vs=qdr l:=by
 refine List.ext_getElem? fun i=>?_
 by_cases hi:i<l.length*2
 ·obtain⟨n,h1,h2⟩:=qe0 l i hi
  have h3:i<vs.length:=by omega
  have:=hr i _ vs[i] h1 (List.getElem?_eq_getElem h3)
  rw[h2,List.getElem?_eq_getElem h3,qow this]
 ·rw[List.getElem?_eq_none (by omega),List.getElem?_eq_none (by rw[qgG];omega)]
theorem qq8:qk7 env 14 qhl:=by
 intro G h w args vs r h' hr ha hi hg
 unfold qhl at hr
 split at hr
 ·simp only[Option.some.injEq,Prod.mk.injEq] at hr
  obtain⟨rfl,rfl⟩:=hr
  obtain⟨x,y,rfl,hx,hy⟩:=qov ha
  cases hx with
  | list sz vs hn hcap hsz haa hl hrr ho =>
    rename_i A n cap
    rw[List.length_nil] at hn
    subst hn
    refine (AnyF.slices_SortFunc_none Tryd.sortU A cap y w).mono fun e w' ⟨he,hw⟩=>?_
    subst he hw
    exact⟨G,.refl hi,_,rfl,qhO⟩
 ·rename_i id n
  split at hr
  case h_2=>cases hr
  rename_i cs he
  split at hr
  case isFalse=>cases hr
  rename_i hc
  simp only[Bool.and_eq_true,decide_eq_true_eq] at hc
  obtain⟨⟨h3,h4⟩,h5⟩:=hc
  simp only[Option.some.injEq,Prod.mk.injEq] at hr
  obtain⟨rfl,rfl⟩:=hr
  obtain⟨x,y,rfl,hx,hy⟩:=qov ha
  have hz:=qh7 cs h3 ⟨n,h4⟩
  generalize qdD cs=ps at hz ⊢
  subst hz
  rw[qbJ] at h4
  have hn:n=ps.length:=by omega
  subst hn
  cases hy with
  | @func f _ _ _ va vb hk hla hlb _ _ =>
  have hf:=qsQ f 287 hk
  have hf2:qdp 287=15:=by kernel_rfl
  rw[hf2] at hf
  subst hf
  have hva:va = #[]:=Array.eq_empty_of_size_eq_zero (by simpa using hla)
  have hvb:vb = #[]:=Array.eq_empty_of_size_eq_zero (by simpa using hlb)
  subst hva hvb
  cases hx with
  | vec hb ht hn =>
    rename_i cap sz' b
    obtain⟨b',cap',old,t,g1,g2,g3,g4,g5,g6,g7⟩:=hi.obj id _ he
    have hbb:b'=b:=by rw[hb] at g1;injection g1 with g1;exact g1.symm
    subst hbb
    rw[qbJ] at *
    have hlen:(old.toList.take (ps.length*2)).length=ps.length*2:=by simp;omega
    have hvs:=qpQ hlen g5.rep
    have hget:∀ j (hj:j<ps.length*2),old[j]? = (qdr ps)[j]? := by
     intro j hj
     rw[← hvs,List.getElem?_take_of_lt hj]
     simp
    have hblk:b'<w.heap.size:=(Array.getElem?_eq_some_iff.1 g2).1
    have hH:HoldsK qd7 2 w b' 0 ps.toArray:=by
     intro j hj
     have hj':j<ps.length*2:=by simpa using hj
     have hcv:j<(qdr ps).length:=by rw[qgG];exact hj'
     have hfl:(flatK qd7 2 ps.toArray)[j]! = (qdr ps)[j]:=by
      have h1:(flatK qd7 2 ps.toArray).toList[j]? = (qdr ps)[j]? := by rw[qjK]
      rw[Array.getElem?_toList,List.getElem?_eq_getElem hcv,Array.getElem?_eq_getElem hj] at h1
      rw[getElem!_pos (flatK qd7 2 ps.toArray) j hj]
      exact Option.some.inj h1
     refine⟨?_,?_⟩
     ·unfold World.cell?
      rw[g2]
      dsimp only
      rw[if_neg (by simp),Nat.zero_add,hget j hj',List.getElem?_eq_getElem hcv,hfl]
      rfl
     ·unfold World.frozen?
      rw[g2]
      simp
    have eg:∀ args w,(callFunc 15 args).run Tryd.prog w=.ok (.enter 15 args) w:=enters_of Tryd.func15 (by kernel_rfl) rfl
    have hcon:=AnyQ.slices_SortFunc_eq Tryd.sortU 2 Tryd.isAgg29 Tryd.sizeOf29 qd7 (fun _=>rfl) (fun x v hv=>by simp[qd7] at hv;rcases hv with rfl | rfl<;>rfl) (fun x y=>Lib.compareInt x.1 y.1) qvU 15 #[] b' 0 cap ps.toArray w eg (qrP b' 0 ps.toArray.size w) hH hblk (by simp;omega)
    have hszp:ps.toArray.size=ps.length:=by simp
    change Calls Tryd.prog 14 _ _ _ at hcon
    rw[hszp] at hcon
    refine hcon.mono fun e w' ⟨he2,k,os,hw⟩=>?_
    subst he2
    have hsl:=qhP ps
    have hpd:(pdq (ltOf fun x y:Int × Int=>Lib.compareInt x.1 y.1) ps.toArray 0 ps.length (Lib.bitLen ps.length) true true)=(qpn ps).toArray:=by unfold qpn;rw[hszp]
    rw[hpd] at hw
    generalize qpn ps=ss at hw hsl ⊢
    have hfs:(flatK qd7 2 ss.toArray).size=ps.length*2:=by simp[hsl]
    have hft:(flatK qd7 2 ss.toArray).toList=qdr ss:=qjK ss
    unfold sortWorldK putRowK at hw
    generalize flatK qd7 2 ss.toArray=F at hw hfs hft
    have hb1:(putRow _root_.id (Go.Sort.ahead w k) b' 0 F).heap[b']? = some (.cells (putCells _root_.id 0 F old) t (0,0)):=by
     unfold putRow mapBlock
     dsimp only
     rw[Array.getElem?_modify,if_pos rfl]
     show (w.heap[b']?).map _=_
     rw[g2]
     rfl
    have hb2:∀ q,q≠b'→(putRow _root_.id (Go.Sort.ahead w k) b' 0 F).heap[q]? = w.heap[q]? := by
     intro q hq
     unfold putRow mapBlock
     dsimp only
     rw[Array.getElem?_modify,if_neg (fun hx=>hq hx.symm)]
     rfl
    have hsz1:(putCells _root_.id 0 F old).size=old.size:=by unfold putCells;simp
    have hnew:∀ j (hj:j<F.size),(putCells _root_.id 0 F old)[j]? = some F[j]:=by
     intro j hj
     unfold putCells
     have hjo:j<old.size:=by omega
     rw[Array.getElem?_mapIdx,Array.getElem?_eq_getElem hjo]
     simp[hj]
    have hrep:RepL env G (qaD ss) ((putCells _root_.id 0 F old).toList.take (qaD ss).length):=by
     refine⟨by simp[qbJ];omega,fun i c v e e'=>?_⟩
     have hi1:i<(qaD ss).length:=(List.getElem?_eq_some_iff.1 e).1
     have hi2:=hi1
     rw[qbJ] at hi1
     rw[List.getElem?_take_of_lt hi2,Array.getElem?_toList,hnew i (by omega)] at e'
     obtain⟨z,q1,q2⟩:=qe0 ss i (by omega)
     rw[q1] at e
     cases e
     have h1:F.toList[i]? = (qdr ss)[i]? := by rw[hft]
     rw[q2,Array.getElem?_toList,Array.getElem?_eq_getElem (by omega)] at h1
     rw[h1] at e'
     cases e'
     exact .int _ _
    have hlid:=(List.getElem?_eq_some_iff.1 he).1
    have hp1:Post env G h w G (h.set id (.vec (qaD ss) 2)) (putRow _root_.id (Go.Sort.ahead w k) b' 0 F):=by
     refine qc7 (id:=id) (o:=.vec (qaD ps) 2) (o':=.vec (qaD ss) 2) (b:=b') hi he hb G _ (.refl G) rfl (fun _ _ _=>rfl) (fun _ _ _=>rfl) (fun q v e=>by rw[g6] at e;cases e) (fun q v e=>by rw[g6] at e;cases e) hb2 (Go.Sort.size_putRow _ _ _ _ _) rfl rfl rfl
      (fun n hn=>absurd hn (by omega)) (fun b2 hw=>by have hw':G.blk id=some b2:=hw;rw[hb] at hw';injection hw' with hw';exact hw'.symm) ?_ (fun hx=>absurd (g6 0) hx)
     exact⟨b',cap',putCells _root_.id 0 F old,t,hb,hb1,by rw[hsz1];exact g3,by rw[hsz1,qbJ];omega,hrep,g6,g7⟩
    have hp2:Post env G (h.set id (.vec (qaD ss) 2)) (putRow _root_.id (Go.Sort.ahead w k) b' 0 F) G (h.set id (.vec (qaD ss) 2)) w':=by
     subst hw
     refine qfp hp1.inv ⟨rfl,rfl,rfl,by show _≤((putRow _root_.id (Go.Sort.ahead w k) b' 0 F).heap++os).size;rw[Array.size_append];omega,fun q hq=>?_⟩
     show ((putRow _root_.id (Go.Sort.ahead w k) b' 0 F).heap++os)[q]? = _
     rw[Array.getElem?_append_left hq]
    exact⟨G,hp1.trans hp2,_,rfl,qhO⟩
 ·cases hr
theorem qq9 {L:Lib} (hs:L.summ 286=some qhl):qpz L qpn:=by
 intro out H v hv hl
 rcases hv with ⟨rfl,rfl⟩ | ⟨h1,id,rfl,h3,h4⟩
 ·refine⟨H,qdb hs rfl,.inl ⟨?_,rfl⟩⟩
  exact List.eq_nil_of_length_eq_zero (by rw[qhP];rfl)
 ·refine⟨H.set id (.vec (qaD (qpn out)) 2),qdb hs ?_,.inr ⟨fun hx=>h1 (List.eq_nil_of_length_eq_zero (by rw[← qhP,hx];rfl)),id,by rw[qhP],h3,hgs (hlt h4)⟩⟩
  rw[qmw h4]
  have hall:(qaD out).all qiz=true:=by
   unfold qaD
   rw[List.all_eq_true]
   intro v hv
   obtain⟨x,hx,hv⟩:=List.mem_flatMap.1 hv
   obtain⟨p,_,rfl⟩:=List.mem_map.1 hx
   rw[qf8] at hv
   simp only[acells,List.mem_cons,List.not_mem_nil,or_false] at hv
   rcases hv with rfl | rfl<;>rfl
  rw[if_pos (by rw[hall,qbJ];simpa using hl),qoq]
theorem qpl {L:Lib} (hs:L.summ 286=some qhl):qmT L:=by
 intro a b id h he
 refine qdb hs ?_
 rw[qmw he]
 have h1:qpn (qdD [.int .i64 a,.int .i64 b])=[(a,b)]:=List.perm_singleton.1 (qiY [(a,b)])
 refine (if_pos rfl).trans ?_
 rw[h1]
 exact congrArg (fun x=>some (ARes.val (AVal.tuple []),x)) (quY he)
end Go.Abs
