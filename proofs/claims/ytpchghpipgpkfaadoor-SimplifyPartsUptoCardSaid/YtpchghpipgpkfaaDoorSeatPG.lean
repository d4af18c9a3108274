/-
  slices.Grow of a nil slice of steps, as this seat's program has it. Conditions: none.
-/
import Derived.Test.YtpchghpipgpkfaaDoorE
import Derived.Test.YtpchghpipgpkfaaDoorSeatPE
import Derived.Test.YtpchghpipgpkfaaDoorRAE
set_option linter.unusedVariables false
set_option linter.unusedSimpArgs false
set_option maxRecDepth 100000
set_option maxHeartbeats 4000000
namespace Go.Abs
open Go.Proofs Go.RowKit
section
variable {E:Env} {G:Ghost} {h:Heap} {w w':World}
theorem qjG (hi:Inv E G h w) (hb:Below w.heap.size w w') {g:Nat} (hg:w.heap.size≤g) (vs:Array Value) (t:TypeId) (cap sz:Nat) (hc:w'.heap[g]? = some (.cells vs t (0,0)))
  (hs:vs.size=cap*sz):Post E G h w (G.withVec h.length g 0 cap sz) (h++[.tail 0 sz]) w':=by
 have hp:=qfT hi hb
 have hle:G.le (G.withVec h.length g 0 cap sz):=⟨fun _ _ _ e=>e,fun id b e=>by
  have:id≠h.length:=fun hx=>by
   have:=(hi.dom id (by omega)).1
   rw[e] at this;cases this
  simpa[Ghost.withVec,this] using e,fun id m x e=>by
  have:id≠h.length:=fun hx=>by
   have:=(hi.dom id (by omega)).2 m
   rw[e] at this;cases this
  simpa[Ghost.withVec,this] using e⟩
 have hold:∀ id o',h[id]? = some o'→∀ b,qbY (G.withVec h.length g 0 cap sz) id o' b→qbY G id o' b:=by
  intro id o' he b hw
  have hne:id≠h.length:=fun hx=>by
   have:=(List.getElem?_eq_some_iff.1 he).1
   omega
  cases o' with
  | gone=>exact hw
  | tail n sz=>obtain⟨c,e⟩:=hw;simp only[Ghost.withVec,if_neg hne] at e;exact⟨c,e⟩
  | _=>have hw':(G.withVec h.length g 0 cap sz).blk id=some b:=hw;simp only[Ghost.withVec,if_neg hne] at hw';exact hw'
 have hnew:∀ {b'},qbY (G.withVec h.length g 0 cap sz) h.length (.tail 0 sz) b'→b'=g:=fun {b'} hw=>by
  obtain⟨c,e⟩:=hw
  simp[Ghost.withVec] at e
  exact e.1.symm
 have hgf:∀ o,G.fix g o=none:=by
  intro o
  cases hx:G.fix g o with
  | none=>rfl
  | some v=>exact absurd (hi.fix_lt (b:=g) (o:=o) (by rw[hx];simp)) (by omega)
 refine⟨hle,⟨hp.inv.fix,hi.one,fun id o' e=>?_,fun id o1 id' o2 b e e' h1 h2=>?_,fun id e=>?_,hi.tab.keep (fun _ _ _ e=>e) hb.block⟩,hb.size,fun b hlt _=>hb.block b hlt,fun _ _ e=>.inl e,fun b ho=>?_,hb.os,hb.tape,hb.output⟩
 ·rcases qaP e with ⟨hlt,e'⟩ | ⟨rfl,rfl⟩
  ·exact (hi.obj id o' e').keep hle (fun b hb'=>hb.block b (hi.owns_lt e' hb')) (fun b _ q=>rfl) (fun m=>if_neg (by omega))
  ·refine⟨g,cap,vs,t,by simp[Ghost.withVec],hc,hs,Nat.zero_le _,fun o _=>hgf o,fun m hm=>?_⟩
   simp only[Ghost.withVec,if_true]
   rw[if_neg (by omega)]
 ·rcases qaP e with ⟨hlt,e1⟩ | ⟨rfl,rfl⟩<;>rcases qaP e' with ⟨hlt',e2⟩ | ⟨rfl,rfl⟩
  ·exact hi.sep id o1 id' o2 b e1 e2 (hold _ _ e1 _ h1) (hold _ _ e2 _ h2)
  ·have:=hi.owns_lt e1 (hold _ _ e1 _ h1)
   have:=hnew h2
   omega
  ·have:=hi.owns_lt e2 (hold _ _ e2 _ h2)
   have:=hnew h1
   omega
  ·rfl
 ·have h0:h.length≠id:=by simp at e;omega
  have hd:=hi.dom id (by simp at e;omega)
  simp only[Ghost.withVec,if_neg (Ne.symm h0)]
  exact hd
 ·obtain⟨id,o',e,hw⟩:=ho
  rcases qaP e with ⟨hlt,e'⟩ | ⟨rfl,rfl⟩
  ·exact .inl ⟨id,o',e',hold _ _ e' _ hw⟩
  ·have:=hnew hw
   exact .inr (by omega)
end
variable {G:Ghost} {h:Heap} {w w':World}
theorem qu2:∃ i z,Tryd.prog.info? 24=some i∧i.zero=some z∧i.size=3∧i.bytes=24∧z.cells.size=3:=by
 have h1:((Tryd.prog.info? 24).bind fun i=>i.zero.map fun z=>(i.size,i.bytes,z.cells.size))=some (3,24,3):=by kernel_rfl
 obtain⟨i,hi,h2⟩:=Option.bind_eq_some_iff.1 h1
 obtain⟨z,hz,h3⟩:=Option.map_eq_some_iff.1 h2
 simp only[Prod.mk.injEq] at h3
 exact⟨i,z,hi,hz,h3.1,h3.2.1,h3.2.2⟩
theorem qud:ql7 env 48 growS:=by
 intro G h w args vs r h' hr ha hi hg
 unfold growS at hr
 split at hr
 case h_2=>cases hr
 rename_i n
 obtain⟨x,y,rfl,hx,hy⟩:=quS ha
 cases hy with
 | int _ _ =>
 cases hx with
 | list sz vs hn hcap hsz haa hl hrr ho =>
   rename_i A n0 cap
   rw[List.length_nil] at hn
   subst hn
   have hcap0:cap=0:=ho
   subst hcap0
   split at hr
   ·rename_i hz
    subst hz
    simp only[Option.some.injEq,Prod.mk.injEq] at hr
    obtain⟨rfl,rfl⟩:=hr
    refine (Any8.slices_Grow_room Tryd.growS A 0 0 0 w (Nat.le_refl _) (by omega) (by omega) (Nat.le_refl _)).mono fun e w' ⟨he,hw⟩=>?_
    subst he hw
    exact⟨G,.refl hi,_,rfl,.list sz vs rfl (Nat.le_refl _) hsz haa hl hrr rfl⟩
   ·split at hr
    case isFalse=>cases hr
    rename_i hne hlt
    simp only[Option.some.injEq,Prod.mk.injEq] at hr
    obtain⟨rfl,rfl⟩:=hr
    obtain⟨m,rfl⟩:∃ m:Nat,n=(m:Int):=⟨n.toNat,by omega⟩
    obtain⟨i0,z,hi0,hz0,h3,h24,hzs⟩:=qu2
    refine (Any8.slices_Grow_grow Tryd.growS i0 z hi0 hz0 (by omega) A 0 0 m [] w (Nat.le_refl _) (by omega) (by rw[h24];omega) (by omega) (by simp) (fun _=>rfl) (fun a _ j v e=>by simp at e)).mono fun e w' ⟨he,hw⟩=>?_
    subst he
    have hgc:(0+m)≤grownCap w (0+m) 0 (Tryd.growS_ren.t 25):=grownCap_ge w _ _ _
    generalize grownCap w (0+m) 0 (Tryd.growS_ren.t 25)=K at hw hgc ⊢
    have hb:Below w.heap.size w w':=by
     subst hw
     exact⟨rfl,rfl,rfl,by show _≤(w.heap.push _).size;simp,fun q hq=>by show (w.heap.push _)[q]? = _;rw[Array.getElem?_push_lt hq,Array.getElem?_eq_getElem hq]⟩
    refine⟨_,qjG hi hb (Nat.le_refl _) (#[]++Builtin.zeroCells z.cells (0+m-0)++Builtin.zeroCells z.cells (K-(0+m))) (Tryd.growS_ren.t 25) K 3 (by subst hw;exact heap_alloc_new w.drew _) ?_,_,rfl,?_⟩
    ·simp only[Array.size_append,size_zeroCells,hzs]
     simp
     omega
    ·exact .list 3 [] rfl (Nat.zero_le _) (by simp) (fun h=>absurd rfl h) rfl (fun i c v e=>by simp at e) ⟨w.heap.size,rfl,by simp[Ghost.withVec]⟩
end Go.Abs
