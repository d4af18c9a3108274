/-
  slices.SortFunc at usages, ordered by their identifiers, as this seat's program has it. Conditions: none.
-/
import Derived.Test.YtjbgooldkkbdmaaDoorShelfNU
import Derived.Test.YtjbgooldkkbdmaaDoorSeatPN
import Derived.Test.YtjbgooldkkbdmaaDoorUK
import Derived.WalkKit
set_option linter.unusedVariables false
set_option linter.unusedSimpArgs false
set_option maxRecDepth 100000
set_option maxHeartbeats 4000000
namespace Go.Proofs
open Go.Shelf Go.RowKit Go.Lib Go.Sort
def qeH (x:Int × Int):List Value:=[.int .i64 x.1,.int .i64 x.2]
theorem qtl (x y:Int × Int) (W:World):Calls Tryd.prog 15 #[.agg #[.int .i64 x.1,.int .i64 x.2],.agg #[.int .i64 y.1,.int .i64 y.2]] W fun e w'=>e=.returned (.int .i64 (Lib.compareInt x.1 y.1))∧∃ q os',w'=grow (W.drewN q) os':=by
 have hcon:=fun W'=>AnyG.cmp_Compare_int Tryd.cmpI x.1 y.1 W'
 change ∀ W',Calls Tryd.prog 16 _ _ _ at hcon
 generalize Lib.compareInt x.1 y.1=r at hcon ⊢
 go_enter Tryd.func15,Tryd.ntmps15
 go_wp2_with (go_at_call 16;refine (hcon _).mono ?_;rintro e w' ⟨rfl,rfl⟩)
 go_ret
 exact⟨rfl,0,_,by rw[alloc_eq_grow,alloc_eq_grow,grow_grow];rfl⟩
theorem qtm (blk off size:Nat) (w:World):CmpLays Tryd.prog 15 #[] qeH 2 (fun x y=>Lib.compareInt x.1 y.1) blk off size w :=
 fun _ _ _ _ x y=>qtl x y _
theorem ltU (x y:Int × Int):ltOf (fun x y:Int × Int=>Lib.compareInt x.1 y.1) x y=decide (x.1<y.1):=by
 unfold ltOf Lib.compareInt
 by_cases h1:x.1<y.1
 ·simp[h1]
 ·by_cases h2:y.1<x.1<;>simp[h1,h2]
theorem qyq:SWO (ltOf fun x y:Int × Int=>Lib.compareInt x.1 y.1) where
 irrefl x:=by rw[ltU];simp
 trans x y z h1 h2:=by rw[ltU] at *;simp at *;omega
 ntrans x y z h1 h2:=by rw[ltU] at *;simp at *;omega
end Go.Proofs
namespace Go.Abs
open Go.Proofs Go.RowKit Go.Sort
def qqn (l:List (Int × Int)):List (Int × Int):=(pdq (ltOf fun x y:Int × Int=>Lib.compareInt x.1 y.1) l.toArray 0 l.toArray.size (Lib.bitLen l.toArray.size) true true).toList
theorem qjI (l:List (Int × Int)):(qqn l).Perm l:=by
 have h:=(pdq_sorts (ltOf fun x y:Int × Int=>Lib.compareInt x.1 y.1) qyq l.toArray 0 l.toArray.size (Lib.bitLen l.toArray.size) true true (Nat.zero_le _) (Nat.le_refl _) (Or.inl rfl)).1
 obtain⟨hsz,_,hperm⟩:=h
 unfold qqn
 generalize pdq (ltOf fun x y:Int × Int=>Lib.compareInt x.1 y.1) l.toArray 0 l.toArray.size (Lib.bitLen l.toArray.size) true true=d' at *
 have e1:d'.extract 0 l.toArray.size=d':=by rw[← hsz];exact Array.extract_size
 rw[e1,Array.extract_size] at hperm
 exact hperm
theorem qiB (l:List (Int × Int)):(qqn l).length=l.length:=(qjI l).length_eq
def qd9:List AVal→List (Int × Int)
 | .int .i64 a::.int .i64 b::r=>(a,b)::qd9 r
 | _=>[]
theorem qpc:∀ (l:List (Int × Int)),qd9 (qaG l)=l
 | []=>rfl
 | p :: l => by
   have h:qaG (p::l)=.int .i64 p.1::.int .i64 p.2::qaG l:=rfl
   rw[h,qd9,qpc l]
def qh4 (args:List AVal) (h:Heap):Option (ARes × Heap) :=
 match args with
 | [.list [] (some none),.func 287 [] []]=>some (.val (.tuple []),h)
 | [.vec id n,.func 287 [] []] =>
   (match h[id]? with
   | some (.vec cs 2)=>if (cs.all qji && decide (n*2=cs.length) && decide (n<1073741824))=true then some (.val (.tuple []),h.set id (.vec (qaG (qqn (qd9 cs))) 2)) else none
   | _=>none)
 | _=>none
theorem qqm (id n:Nat) (h:Heap):qh4 [.vec id n,.func 287 [] []] h=(match h[id]? with
  | some (.vec cs 2)=>if (cs.all qji && decide (n*2=cs.length) && decide (n<1073741824))=true then some (.val (.tuple []),h.set id (.vec (qaG (qqn (qd9 cs))) 2)) else none
  | _=>none):=rfl
theorem qna {id n:Nat} {h:Heap} {cs:List AVal} (he:h[id]? = some (.vec cs 2)):qh4 [.vec id n,.func 287 [] []] h=if (cs.all qji && decide (n*2=cs.length) && decide (n<1073741824))=true then some (.val (.tuple []),h.set id (.vec (qaG (qqn (qd9 cs))) 2)) else none:=by
 rw[qqm,he]
 rfl
theorem qiU:∀ (cs:List AVal),cs.all qji=true→(∃ n,n*2=cs.length)→qaG (qd9 cs)=cs
 | [],_,_=>rfl
 | [x],_,⟨n,h⟩=>by simp at h;omega
 | x :: y :: r,h,⟨n,hn⟩ => by
   rw[List.all_cons,List.all_cons,Bool.and_eq_true,Bool.and_eq_true] at h
   obtain⟨h1,h2,h3⟩:=h
   have ih:=qiU r h3 ⟨n-1,by simp at hn;omega⟩
   unfold qji at h1 h2
   split at h1
   ·split at h2
    ·rw[qd9]
     have h:∀ p l,qaG (p::l)=.int .i64 p.1::.int .i64 p.2::qaG l:=fun _ _=>rfl
     rw[h,ih]
    ·cases h2
   ·cases h1
def qd0 (l:List (Int × Int)):List Value:=l.flatMap qeH
theorem qhk (l:List (Int × Int)):(qd0 l).length=l.length*2:=by
 unfold qd0
 induction l with
 | nil=>rfl
 | cons p l ih=>rw[List.flatMap_cons,List.length_append,ih,List.length_cons];show 2+_=_;omega
theorem qfB:∀ (l:List (Int × Int)) (j:Nat),j<l.length*2→∃ n:Int,(qaG l)[j]? = some (.int .i64 n)∧(qd0 l)[j]? = some (.int .i64 n)
 | [],j,h=>by simp at h
 | p :: l,j,h => by
   have h1:qaG (p::l)=.int .i64 p.1::.int .i64 p.2::qaG l:=rfl
   have h2:qd0 (p::l)=.int .i64 p.1::.int .i64 p.2::qd0 l:=rfl
   rw[h1,h2]
   rcases j with _ | _ | j
   ·exact⟨_,rfl,rfl⟩
   ·exact⟨_,rfl,rfl⟩
   ·simp only[List.getElem?_cons_succ]
    exact qfB l j (by simp at h;omega)
theorem qkp (l:List (Int × Int)):(flatK qeH 2 l.toArray).toList=qd0 l:=by
 refine List.ext_getElem? fun j=>?_
 by_cases hj:j<l.length*2
 ·have hd:j / 2<l.length:=by omega
  have hx:l[j / 2]? = some l[j / 2]:=List.getElem?_eq_getElem hd
  have hg:(qeH l[j / 2])[j % 2]? = some ((qeH l[j / 2])[j % 2]'(by show _<2;omega)):=List.getElem?_eq_getElem _
  have h1:=qi7 (f:=qeH) (sz:=2) (xs:=l) (fun _ _=>rfl) hx hg
  have h2:j / 2*2+j % 2=j:=by omega
  rw[h2] at h1
  unfold qd0
  rw[h1]
  have hs:j<(flatK qeH 2 l.toArray).toList.length:=by simp;exact hj
  rw[List.getElem?_eq_getElem hs]
  congr 1
  have h3:=get_flatK qeH 2 l.toArray j (by simpa using hj)
  rw[getElem!_pos (flatK qeH 2 l.toArray) j (by simpa using hj)] at h3
  rw[Array.getElem_toList,h3]
  have h4:l.toArray[j / 2]! = l[j / 2]:=by rw[getElem!_pos l.toArray (j / 2) (by simpa using hd)];simp
  rw[h4,getElem!_pos (qeH l[j / 2]) (j % 2) (by show _<2;omega)]
 ·rw[List.getElem?_eq_none (by simp;omega),List.getElem?_eq_none (by rw[qhk];omega)]
variable {G:Ghost} {h:Heap} {w w':World}
theorem qqY {l:List (Int × Int)} {vs:List Value} (hl:vs.length=l.length*2) (hr:∀ (i:Nat) (c:AVal) (v:Value),(qaG l)[i]? = some c→vs[i]? = some v→Rep env G c v):vs=qd0 l:=by
 refine List.ext_getElem? fun i=>?_
 by_cases hi:i<l.length*2
 ·obtain⟨n,h1,h2⟩:=qfB l i hi
  have h3:i<vs.length:=by omega
  have:=hr i _ vs[i] h1 (List.getElem?_eq_getElem h3)
  rw[h2,List.getElem?_eq_getElem h3,qpl this]
 ·rw[List.getElem?_eq_none (by omega),List.getElem?_eq_none (by rw[qhk];omega)]
theorem qsA:qlS env 14 qh4:=by
 intro G h w args vs r h' hr ha hi hg
 unfold qh4 at hr
 split at hr
 ·simp only[Option.some.injEq,Prod.mk.injEq] at hr
  obtain⟨rfl,rfl⟩:=hr
  obtain⟨x,y,rfl,hx,hy⟩:=qpk ha
  cases hx with
  | list sz vs hn hcap hsz haa hl hrr ho =>
    rename_i A n cap
    rw[List.length_nil] at hn
    subst hn
    refine (AnyF.slices_SortFunc_none Tryd.sortU A cap y w).mono fun e w' ⟨he,hw⟩=>?_
    subst he hw
    exact⟨G,.refl hi,_,rfl,qiA⟩
 ·rename_i id n
  split at hr
  case h_2=>cases hr
  rename_i cs he
  split at hr
  case isFalse=>cases hr
  rename_i hc
  simp only[Bool.and_eq_true,decide_eq_true_eq] at hc
  obtain⟨⟨h3,h4⟩,h5⟩:=hc
  simp only[Option.some.injEq,Prod.mk.injEq] at hr
  obtain⟨rfl,rfl⟩:=hr
  obtain⟨x,y,rfl,hx,hy⟩:=qpk ha
  have hz:=qiU cs h3 ⟨n,h4⟩
  generalize qd9 cs=ps at hz ⊢
  subst hz
  rw[qb1] at h4
  have hn:n=ps.length:=by omega
  subst hn
  cases hy with
  | @func f _ _ _ va vb hk hla hlb _ _ =>
  have hf:=quX f 287 hk
  have hf2:qc8 287=15:=by kernel_rfl
  rw[hf2] at hf
  subst hf
  have hva:va = #[]:=Array.eq_empty_of_size_eq_zero (by simpa using hla)
  have hvb:vb = #[]:=Array.eq_empty_of_size_eq_zero (by simpa using hlb)
  subst hva hvb
  cases hx with
  | vec hb ht hn =>
    rename_i cap sz' b
    obtain⟨b',cap',old,t,g1,g2,g3,g4,g5,g6,g7⟩:=hi.obj id _ he
    have hbb:b'=b:=by rw[hb] at g1;injection g1 with g1;exact g1.symm
    subst hbb
    rw[qb1] at *
    have hlen:(old.toList.take (ps.length*2)).length=ps.length*2:=by simp;omega
    have hvs:=qqY hlen g5.rep
    have hget:∀ j (hj:j<ps.length*2),old[j]? = (qd0 ps)[j]? := by
     intro j hj
     rw[← hvs,List.getElem?_take_of_lt hj]
     simp
    have hblk:b'<w.heap.size:=(Array.getElem?_eq_some_iff.1 g2).1
    have hH:HoldsK qeH 2 w b' 0 ps.toArray:=by
     intro j hj
     have hj':j<ps.length*2:=by simpa using hj
     have hcv:j<(qd0 ps).length:=by rw[qhk];exact hj'
     have hfl:(flatK qeH 2 ps.toArray)[j]! = (qd0 ps)[j]:=by
      have h1:(flatK qeH 2 ps.toArray).toList[j]? = (qd0 ps)[j]? := by rw[qkp]
      rw[Array.getElem?_toList,List.getElem?_eq_getElem hcv,Array.getElem?_eq_getElem hj] at h1
      rw[getElem!_pos (flatK qeH 2 ps.toArray) j hj]
      exact Option.some.inj h1
     refine⟨?_,?_⟩
     ·unfold World.cell?
      rw[g2]
      dsimp only
      rw[if_neg (by simp),Nat.zero_add,hget j hj',List.getElem?_eq_getElem hcv,hfl]
      rfl
     ·unfold World.frozen?
      rw[g2]
      simp
    have eg:∀ args w,(callFunc 15 args).run Tryd.prog w=.ok (.enter 15 args) w:=enters_of Tryd.func15 (by kernel_rfl) rfl
    have hcon:=AnyQ.slices_SortFunc_eq Tryd.sortU 2 Tryd.isAgg29 Tryd.sizeOf29 qeH (fun _=>rfl) (fun x v hv=>by simp[qeH] at hv;rcases hv with rfl | rfl<;>rfl) (fun x y=>Lib.compareInt x.1 y.1) qyq 15 #[] b' 0 cap ps.toArray w eg (qtm b' 0 ps.toArray.size w) hH hblk (by simp;omega)
    have hszp:ps.toArray.size=ps.length:=by simp
    change Calls Tryd.prog 14 _ _ _ at hcon
    rw[hszp] at hcon
    refine hcon.mono fun e w' ⟨he2,k,os,hw⟩=>?_
    subst he2
    have hsl:=qiB ps
    have hpd:(pdq (ltOf fun x y:Int × Int=>Lib.compareInt x.1 y.1) ps.toArray 0 ps.length (Lib.bitLen ps.length) true true)=(qqn ps).toArray:=by unfold qqn;rw[hszp]
    rw[hpd] at hw
    generalize qqn ps=ss at hw hsl ⊢
    have hfs:(flatK qeH 2 ss.toArray).size=ps.length*2:=by simp[hsl]
    have hft:(flatK qeH 2 ss.toArray).toList=qd0 ss:=qkp ss
    unfold sortWorldK putRowK at hw
    generalize flatK qeH 2 ss.toArray=F at hw hfs hft
    have hb1:(putRow _root_.id (Go.Sort.ahead w k) b' 0 F).heap[b']? = some (.cells (putCells _root_.id 0 F old) t (0,0)):=by
     unfold putRow mapBlock
     dsimp only
     rw[Array.getElem?_modify,if_pos rfl]
     show (w.heap[b']?).map _=_
     rw[g2]
     rfl
    have hb2:∀ q,q≠b'→(putRow _root_.id (Go.Sort.ahead w k) b' 0 F).heap[q]? = w.heap[q]? := by
     intro q hq
     unfold putRow mapBlock
     dsimp only
     rw[Array.getElem?_modify,if_neg (fun hx=>hq hx.symm)]
     rfl
    have hsz1:(putCells _root_.id 0 F old).size=old.size:=by unfold putCells;simp
    have hnew:∀ j (hj:j<F.size),(putCells _root_.id 0 F old)[j]? = some F[j]:=by
     intro j hj
     unfold putCells
     have hjo:j<old.size:=by omega
     rw[Array.getElem?_mapIdx,Array.getElem?_eq_getElem hjo]
     simp[hj]
    have hrep:RepL env G (qaG ss) ((putCells _root_.id 0 F old).toList.take (qaG ss).length):=by
     refine⟨by simp[qb1];omega,fun i c v e e'=>?_⟩
     have hi1:i<(qaG ss).length:=(List.getElem?_eq_some_iff.1 e).1
     have hi2:=hi1
     rw[qb1] at hi1
     rw[List.getElem?_take_of_lt hi2,Array.getElem?_toList,hnew i (by omega)] at e'
     obtain⟨z,q1,q2⟩:=qfB ss i (by omega)
     rw[q1] at e
     cases e
     have h1:F.toList[i]? = (qd0 ss)[i]? := by rw[hft]
     rw[q2,Array.getElem?_toList,Array.getElem?_eq_getElem (by omega)] at h1
     rw[h1] at e'
     cases e'
     exact .int _ _
    have hlid:=(List.getElem?_eq_some_iff.1 he).1
    have hp1:Post env G h w G (h.set id (.vec (qaG ss) 2)) (putRow _root_.id (Go.Sort.ahead w k) b' 0 F):=by
     refine qdI (id:=id) (o:=.vec (qaG ps) 2) (o':=.vec (qaG ss) 2) (b:=b') hi he hb G _ (.refl G) rfl (fun _ _ _=>rfl) (fun _ _ _=>rfl) (fun q v e=>by rw[g6] at e;cases e) (fun q v e=>by rw[g6] at e;cases e) hb2 (Go.Sort.size_putRow _ _ _ _ _) rfl rfl rfl
      (fun n hn=>absurd hn (by omega)) (fun b2 hw=>by have hw':G.blk id=some b2:=hw;rw[hb] at hw';injection hw' with hw';exact hw'.symm) ?_ (fun hx=>absurd (g6 0) hx)
     exact⟨b',cap',putCells _root_.id 0 F old,t,hb,hb1,by rw[hsz1];exact g3,by rw[hsz1,qb1];omega,hrep,g6,g7⟩
    have hp2:Post env G (h.set id (.vec (qaG ss) 2)) (putRow _root_.id (Go.Sort.ahead w k) b' 0 F) G (h.set id (.vec (qaG ss) 2)) w':=by
     subst hw
     refine qf1 hp1.inv ⟨rfl,rfl,rfl,by show _≤((putRow _root_.id (Go.Sort.ahead w k) b' 0 F).heap++os).size;rw[Array.size_append];omega,fun q hq=>?_⟩
     show ((putRow _root_.id (Go.Sort.ahead w k) b' 0 F).heap++os)[q]? = _
     rw[Array.getElem?_append_left hq]
    exact⟨G,hp1.trans hp2,_,rfl,qiA⟩
 ·cases hr
theorem qsB {L:Lib} (hs:L.summ 286=some qh4):qot L qqn:=by
 intro out H v hv hl
 rcases hv with ⟨rfl,rfl⟩ | ⟨h1,id,rfl,h3,h4⟩
 ·refine⟨H,qdL hs rfl,.inl ⟨?_,rfl⟩⟩
  exact List.eq_nil_of_length_eq_zero (by rw[qiB];rfl)
 ·refine⟨H.set id (.vec (qaG (qqn out)) 2),qdL hs ?_,.inr ⟨fun hx=>h1 (List.eq_nil_of_length_eq_zero (by rw[← qiB,hx];rfl)),id,by rw[qiB],h3,hgs (hlt h4)⟩⟩
  rw[qna h4]
  have hall:(qaG out).all qji=true:=by
   unfold qaG
   rw[List.all_eq_true]
   intro v hv
   obtain⟨x,hx,hv⟩:=List.mem_flatMap.1 hv
   obtain⟨p,_,rfl⟩:=List.mem_map.1 hx
   rw[qgL] at hv
   simp only[acells,List.mem_cons,List.not_mem_nil,or_false] at hv
   rcases hv with rfl | rfl<;>rfl
  rw[if_pos (by rw[hall,qb1];simpa using hl),qpc]
theorem qql {L:Lib} (hs:L.summ 286=some qh4):qnt L:=by
 intro a b id h he
 refine qdL hs ?_
 rw[qna he]
 have h1:qqn (qd9 [.int .i64 a,.int .i64 b])=[(a,b)]:=List.perm_singleton.1 (qjI [(a,b)])
 refine (if_pos rfl).trans ?_
 rw[h1]
 exact congrArg (fun x=>some (ARes.val (AVal.tuple []),x)) (qxk he)
end Go.Abs
