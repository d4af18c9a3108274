/-
  The library's functions as this seat's program has them: slices.Clone and slices.Sort at numbers. Conditions: none.
-/
import Derived.Test.YtpchghpipgpkfaaDoorE
import Derived.Test.YtpchghpipgpkfaaDoorU
import Derived.Test.YtpchghpipgpkfaaDoorCL
import Derived.KernelRfl
set_option linter.unusedVariables false
set_option linter.unusedSimpArgs false
set_option maxRecDepth 100000
set_option maxHeartbeats 4000000
namespace Go.Abs
open Go.Proofs Go.RowKit Go.Sort
def qBr (P:Program) (T:List (Option Nat)):Bool:=(List.range T.length).all fun f=>match (T[f]?).join with
 | none=>true
 | some _ => match P.funcs[f]? with
   | some fn => (fn.name == "runtime.NumGoroutine") == false && fn.body.isSome
   | none=>false
theorem qzb:qBr Tryd.prog fnTable=true:=by kernel_rfl
theorem qyy:EnvOk env:=by
 refine⟨by kernel_rfl,fun f k hf=>?_⟩
 have hf':(fnTable[f]?).join=some k:=hf
 have hl:f<fnTable.length:=by
  rcases Nat.lt_or_ge f fnTable.length with h | h
  ·exact h
  ·rw[List.getElem?_eq_none h] at hf'
   cases hf'
 have h1:=List.all_eq_true.1 qzb f (by simpa using hl)
 rw[hf'] at h1
 dsimp only at h1
 show ∃ fn,Tryd.prog.funcs[f]? = some fn∧_
 split at h1
 ·rename_i fn hfn
  rw[Bool.and_eq_true] at h1
  exact⟨fn,hfn,by simpa using h1.1,h1.2⟩
 ·cases h1
def qcQ (k:Nat):Nat:=(fnTable.findIdx? (· == some k)).getD 0
theorem qBv (f k:Nat) (hf:env.fm f=some k):f=qcQ k:=by
 have hf':(fnTable[f]?).join=some k:=hf
 have hl:f<fnTable.length:=by
  rcases Nat.lt_or_ge f fnTable.length with h | h
  ·exact h
  ·rw[List.getElem?_eq_none h] at hf'
   cases hf'
 have h:((List.range fnTable.length).all fun f=>match (fnTable[f]?).join with | none=>true | some k=>f==qcQ k)=true:=by kernel_rfl
 have h1:=List.all_eq_true.1 h f (by simpa using hl)
 rw[hf'] at h1
 simpa using h1
theorem qaO {L:Lib} {f:FuncId} {k:Nat} {lit:AFn} (hs:L.summ k=none) (hf:L.fns k=some lit)
  (h:((Tryd.prog.funcs[f]?).bind fun fn=>fn.body.map fun c=>(qaP fn.ntmps c,cFn env fn lit.body c))=some (true,lit)):FnOk env L f k:=by
 obtain⟨fn,hfn,h⟩:=Option.bind_eq_some_iff.1 h
 obtain⟨c,hc,h⟩:=Option.map_eq_some_iff.1 h
 simp only[Prod.mk.injEq] at h
 obtain⟨h1,h2⟩:=h
 refine⟨.inr ⟨hs,fn,c,hfn,hc,h1,lit.body,?_,?_⟩⟩
 ·have:=congrArg AFn.body h2
  exact this
 ·have:=congrArg AFn.results h2
  rw[hf]
  cases lit
  exact congrArg (fun x=>some (AFn.mk x _)) this.symm
def quW:AVal→Bool
 | .int .i64 _=>true
 | _=>false
def quQ:AVal→Int
 | .int _ n=>n
 | _=>0
theorem quU {xs:List AVal} (h:xs.all quW=true):xs=(xs.map quQ).map qav:=by
 induction xs with
 | nil=>rfl
 | cons x xs ih =>
   rw[List.all_cons,Bool.and_eq_true] at h
   rw[List.map_cons,List.map_cons,← ih h.2]
   congr 1
   obtain⟨h1,_⟩:=h
   unfold quW at h1
   split at h1
   ·rfl
   ·cases h1
theorem qrK (l:List Int):(l.map qav).all quW=true:=by
 rw[List.all_eq_true]
 intro x hx
 obtain⟨n,_,rfl⟩:=List.mem_map.1 hx
 rfl
theorem quR (l:List Int):(l.map qav).map quQ=l:=by
 rw[List.map_map]
 exact (List.map_congr_left fun n _=>rfl).trans (List.map_id l)
theorem quT (l:List Int):(l.map qav).flatMap acells=l.map qav:=by
 induction l with
 | nil=>rfl
 | cons n l ih=>rw[List.map_cons,List.flatMap_cons,ih];rfl
variable {G:Ghost} {h:Heap} {w w':World}
theorem qwn {l:List Int} {vs:List Value} (hl:vs.length=l.length) (hr:∀ (i:Nat) (c:AVal) (v:Value),(l.map qav)[i]? = some c→vs[i]? = some v→Rep env G c v):vs=l.map (Value.int .i64):=by
 refine List.ext_getElem (by simpa using hl) fun i h1 h2=>?_
 have h3:i<l.length:=by simpa using h2
 have:=hr i (qav l[i]) vs[i] (by simp[h3]) (List.getElem?_eq_getElem h1)
 rw[qx8 this]
 simp
def qkK (args:List AVal) (h:Heap):Option (ARes × Heap) :=
 match args with
 | [.list xs _]=>if (xs.all quW && decide (xs.length<2 ^ 30))=true then (if xs=[] then some (.val (.list [] none),h) else some (.val (.vec h.length xs.length),h++[.vec xs 1])) else none
 | _=>none
theorem qq0 (v:Value) (a:Option Addr) (c:Nat) (hv:v=.slice a 0 c):Rep env G (.list [] none) v:=by
 subst hv
 exact .list 1 [] rfl (Nat.zero_le _) (by simp) (fun h=>absurd rfl h) rfl (fun i c v e=>by simp at e) trivial
theorem qt9:qrf env 58 qkK:=by
 intro G h w args vs r h' hr ha hi hg
 unfold qkK at hr
 split at hr
 case h_2=>cases hr
 rename_i xs own
 split at hr
 case isFalse=>cases hr
 rename_i hc
 rw[Bool.and_eq_true] at hc
 obtain⟨x,rfl,hx⟩:=qn1 ha
 have hlt:xs.length<2 ^ 30:=by simpa using hc.2
 have hz:=quU hc.1
 generalize xs.map quQ=zs at hz
 subst hz
 rw[List.length_map] at hlt
 cases hx with
 | list sz vs hn hcap hsz haa hl hrr ho =>
   rename_i A n cap
   rw[List.length_map] at hn
   split at hr
   ·rename_i hz0
    simp only[Option.some.injEq,Prod.mk.injEq] at hr
    obtain⟨rfl,rfl⟩:=hr
    have hz1:zs=[]:=by simpa using hz0
    subst hz1
    rw[List.length_nil] at hn
    subst hn
    cases A with
    | none =>
      refine (Tryd.slices_Clone_int_nil 0 cap w).mono fun e w' ⟨he,hw⟩=>?_
      subst he hw
      exact⟨G,.refl hi,_,rfl,qq0 _ none 0 rfl⟩
    | some a =>
      refine (Tryd.slices_Clone_int_zero a cap w).mono fun e w' ⟨v,he,ho,_,hb⟩=>?_
      subst he
      refine⟨G,qjc hi hb,_,rfl,?_⟩
      rcases ho.2 with ⟨h1,_⟩ | ⟨g,c,cur,h1,_⟩
      ·exact qq0 _ none 0 h1
      ·exact qq0 _ _ _ h1
   ·rename_i hne
    simp only[Option.some.injEq,Prod.mk.injEq] at hr
    obtain⟨rfl,rfl⟩:=hr
    obtain⟨b,o,hA,hfix⟩:=haa hne
    rw[quT] at hl hrr
    rw[List.length_map] at hl
    have hvs:=qwn hl hrr
    subst hvs hA hn
    refine (Tryd.slices_Clone_int b o zs.length cap zs w (Nat.le_refl _) (by omega) (fun j hj=>hi.fix b (o+j) _ (hfix j _ (by simp[hj,List.getD_eq_getElem?_getD])))).mono fun e w' ⟨v,he,ho,hnn,hb⟩=>?_
    subst he
    rcases ho.2 with ⟨h1,h2⟩ | ⟨g,c,cur,h1,hge,hcell,hnc,_,hcs,htk⟩
    ·exact absurd h1 hnn
    ·rw[List.take_length,Nat.mul_one] at htk
     refine⟨_,qmc hi hb hge (zs.map qav) cur _ c zs.length 1 hcell hcs (by rw[List.length_map];omega) ⟨by simp;omega,fun i cc v e e'=>?_⟩,v,rfl,?_⟩
     ·rw[List.length_map,htk,List.getElem?_map] at e'
      rw[List.getElem?_map] at e
      cases hq:zs[i]? with
      | none=>rw[hq] at e;cases e
      | some n =>
        rw[hq] at e e'
        cases e
        cases e'
        exact .int _ _
     ·rw[h1,List.length_map]
      exact .vec (cap:=c) (sz:=1) (b:=g) (by simp[Ghost.withVec]) (by simp[Ghost.withVec]) hnc
def qpN (args:List AVal) (h:Heap):Option (ARes × Heap) :=
 match args with
 | [.list [] _]=>some (.val (.tuple []),h)
 | [.vec id n] => match h with
   | [.vec cs sz]=>if (id==0 && sz==1 && cs.all quW && decide (n=cs.length) && decide (n<2 ^ 30))=true then some (.val (.tuple []),[.vec ((qa6 (cs.map quQ)).map qav) 1]) else none
   | _=>none
 | _=>none
theorem qxJ (zs:List Int):zs.mergeSort (fun x y=>decide (x≤y))=qa6 zs:=by
 refine qlK ?_ (qcF zs) ((List.mergeSort_perm zs _).trans (qci zs).symm)
 refine (List.pairwise_mergeSort (le:=fun x y:Int=>decide (x≤y)) (fun a b c h1 h2=>?_) (fun a b=>?_) zs).imp fun {a b} h=>by simpa using h
 ·simp at h1 h2 ⊢;omega
 ·simp;omega
theorem qsc:Rep env G (.tuple []) (.tuple #[]):=.tuple rfl fun i c v e=>by simp at e
theorem qyg:qrf env 98 qpN:=by
 intro G h w args vs r h' hr ha hi hg
 unfold qpN at hr
 split at hr
 ·rename_i own
  simp only[Option.some.injEq,Prod.mk.injEq] at hr
  obtain⟨rfl,rfl⟩:=hr
  obtain⟨x,rfl,hx⟩:=qn1 ha
  cases hx with
  | list sz vs hn hcap hsz haa hl hrr ho =>
    rename_i A n cap
    rw[List.length_nil] at hn
    subst hn
    refine (Tryd.slices_Sort_int_none A cap w).mono fun e w' ⟨he,hw⟩=>?_
    subst he hw
    exact⟨G,.refl hi,_,rfl,qsc⟩
 ·rename_i id n
  split at hr
  case h_2=>cases hr
  rename_i cs sz
  split at hr
  case isFalse=>cases hr
  rename_i hc
  simp only[Bool.and_eq_true,beq_iff_eq,decide_eq_true_eq] at hc
  obtain⟨⟨⟨⟨h1,h2⟩,h3⟩,h4⟩,h5⟩:=hc
  simp only[Option.some.injEq,Prod.mk.injEq] at hr
  obtain⟨rfl,rfl⟩:=hr
  subst h1 h2 h4
  obtain⟨x,rfl,hx⟩:=qn1 ha
  have hz:=quU h3
  generalize cs.map quQ=zs at hz ⊢
  subst hz
  cases hx with
  | vec hb ht hn =>
    rename_i cap sz' b
    obtain⟨b',cap',old,t,g1,g2,g3,g4,g5,g6,g7⟩:=hi.obj 0 _ rfl
    have hbb:b'=b:=by rw[hb] at g1;injection g1 with g1;exact g1.symm
    subst hbb
    rw[List.length_map] at *
    have hlen:(old.toList.take zs.length).length=zs.length:=by simp;omega
    have hvs:=qwn hlen g5.rep
    have hget:∀ j (hj:j<zs.length),old[j]? = some (Value.int .i64 zs[j]):=by
     intro j hj
     have:(old.toList.take zs.length)[j]? = some (Value.int .i64 zs[j]):=by rw[hvs];simp[hj]
     rw[List.getElem?_take_of_lt hj] at this
     simpa using this
    have hblk:b'<w.heap.size:=(Array.getElem?_eq_some_iff.1 g2).1
    have hH:Holds (Value.int .i64) w b' 0 zs.toArray:=by
     intro j hj
     have hj':j<zs.length:=by simpa using hj
     refine⟨?_,?_⟩
     ·unfold World.cell?
      rw[g2]
      dsimp only
      rw[if_neg (by simp),Nat.zero_add,hget j hj',getElem!_pos zs.toArray j hj]
      simp
     ·unfold World.frozen?
      rw[g2]
      simp
    refine (Tryd.slices_Sort_int b' 0 cap zs w hH hblk (by omega)).mono fun e w' ⟨he,k,os,hw⟩=>?_
    subst he
    rw[qxJ] at hw
    have hsl:=qeO zs
    generalize qa6 zs=ss at hw hsl ⊢
    have hb1:(putRow (Value.int .i64) (Go.Sort.ahead w k) b' 0 ss.toArray).heap[b']? = some (.cells (putCells (Value.int .i64) 0 ss.toArray old) t (0,0)):=by
     unfold putRow mapBlock
     dsimp only
     rw[Array.getElem?_modify,if_pos rfl]
     show (w.heap[b']?).map _=_
     rw[g2]
     rfl
    have hb2:∀ q,q≠b'→(putRow (Value.int .i64) (Go.Sort.ahead w k) b' 0 ss.toArray).heap[q]? = w.heap[q]? := by
     intro q hq
     unfold putRow mapBlock
     dsimp only
     rw[Array.getElem?_modify,if_neg (fun hx=>hq hx.symm)]
     rfl
    have hsz1:(putCells (Value.int .i64) 0 ss.toArray old).size=old.size:=by unfold putCells;simp
    have hnew:∀ j (hj:j<ss.length),(putCells (Value.int .i64) 0 ss.toArray old)[j]? = some (Value.int .i64 ss[j]):=by
     intro j hj
     unfold putCells
     have hjo:j<old.size:=by omega
     rw[Array.getElem?_mapIdx,Array.getElem?_eq_getElem hjo]
     simp[hj]
    have hp1:Post env G [.vec (zs.map qav) 1] w G [.vec (ss.map qav) 1] (putRow (Value.int .i64) (Go.Sort.ahead w k) b' 0 ss.toArray):=by
     refine qfh (id:=0) (o:=.vec (zs.map qav) 1) (o':=.vec (ss.map qav) 1) (b:=b') hi rfl hb G _ (.refl G) rfl (fun _ _ _=>rfl) (fun _ _ _=>rfl) (fun q v e=>by rw[g6] at e;cases e) (fun q v e=>by rw[g6] at e;cases e) hb2 (size_putRow _ _ _ _ _) rfl rfl rfl
      (fun n hn=>by simp at hn) (fun b2 hw=>by have hw':G.blk 0=some b2:=hw;rw[hb] at hw';injection hw' with hw';exact hw'.symm) ?_ (fun hx=>absurd (g6 0) hx)
     refine⟨b',cap',putCells (Value.int .i64) 0 ss.toArray old,t,hb,hb1,by rw[hsz1];exact g3,by rw[hsz1,List.length_map,hsl];exact g4,⟨by simp;omega,fun i c v e e'=>?_⟩,g6,g7⟩
     rw[List.length_map] at e'
     rw[List.getElem?_map] at e
     cases hq:ss[i]? with
     | none=>rw[hq] at e;cases e
     | some n =>
       rw[hq] at e
       cases e
       obtain⟨hi1,hn1⟩:=List.getElem?_eq_some_iff.1 hq
       rw[List.getElem?_take_of_lt hi1] at e'
       have:=hnew i hi1
       rw[Array.getElem?_toList,this] at e'
       cases e'
       rw[hn1]
       exact .int _ _
    have hp2:Post env G [.vec (ss.map qav) 1] (putRow (Value.int .i64) (Go.Sort.ahead w k) b' 0 ss.toArray) G [.vec (ss.map qav) 1] w':=by
     subst hw
     refine qjc hp1.inv ⟨rfl,rfl,rfl,by simp[Go.Sort.grow],fun q hq=>?_⟩
     unfold Go.Sort.grow
     dsimp only
     rw[Array.getElem?_append_left hq]
    exact⟨G,hp1.trans hp2,_,rfl,qsc⟩
 ·cases hr
end Go.Abs
