/-
  Forgetting is sound: what is kept says the same under its new names. Conditions: none.
-/
import Derived.Test.YtpchghpipgpkfaaDoorAbsM
set_option linter.unusedVariables false
namespace Go.Abs
variable {E:Env} {G:Ghost} {w:World}
def qqZ (n:Nat) (l:List Nat) (G:Ghost):Ghost where
 fix:=G.fix
 blk j:=if j<n then G.blk j else match l[j-n]? with | some i=>G.blk i | none=>none
 tl j:=if j<n then G.tl j else match l[j-n]? with | some i=>G.tl i | none=>fun _=>none
theorem qvK (n:Nat) (l:List Nat) (G:Ghost):RenOk G (qqZ n l G) (qe6 n l) where
 fix b o v h:=h
 blk i j h:=by
  unfold qe6 at h
  split at h
  ·rename_i hi
   injection h with h
   subst h
   simp[qqZ,hi]
  ·obtain⟨h1,h2⟩:=qfg h
   have:¬ j<n:=by omega
   simp[qqZ,this,h2]
 tl i j m h:=by
  unfold qe6 at h
  split at h
  ·rename_i hi
   injection h with h
   subst h
   simp[qqZ,hi]
  ·obtain⟨h1,h2⟩:=qfg h
   have:¬ j<n:=by omega
   simp[qqZ,this,h2]
def qmb (n:Nat) (l:List Nat) (j:Nat):Nat:=if j<n then j else (l[j-n]?).getD 0
theorem qki {n:Nat} {l:List Nat} {j:Nat} (hj:j<n∨j-n<l.length):(qqZ n l G).blk j=G.blk (qmb n l j):=by
 unfold qqZ qmb
 by_cases h:j<n
 ·simp[h]
 ·have h2:j-n<l.length:=by omega
  simp[h,List.getElem?_eq_getElem h2]
theorem qn0 {n:Nat} {l:List Nat} {j m:Nat} (hj:j<n∨j-n<l.length):(qqZ n l G).tl j m=G.tl (qmb n l j) m:=by
 unfold qqZ qmb
 by_cases h:j<n
 ·simp[h]
 ·have h2:j-n<l.length:=by omega
  simp[h,List.getElem?_eq_getElem h2]
def qmC (n:Nat) (l:List Nat) (h:Heap):Heap:=(h.take n).map (qfp (qe6 n l))++l.map fun id=>qfp (qe6 n l) ((h[id]?).getD .gone)
theorem qha {n:Nat} {l:List Nat} {h:Heap} (hn:n≤h.length) {j:Nat} {o:AObj} (e:(qmC n l h)[j]? = some o) :
  (j<n∨j-n<l.length)∧((o=.gone)∨∃ o0,h[qmb n l j]? = some o0∧o=qfp (qe6 n l) o0):=by
 unfold qmC at e
 have hlen:((h.take n).map (qfp (qe6 n l))).length=n:=by simp;omega
 by_cases hj:j<n
 ·rw[List.getElem?_append_left (by rw[hlen];exact hj),List.getElem?_map,List.getElem?_take,if_pos hj] at e
  obtain⟨o0,h1,rfl⟩:=Option.map_eq_some_iff.1 e
  refine⟨.inl hj,.inr ⟨o0,?_,rfl⟩⟩
  simp only[qmb,hj,if_true]
  exact h1
 ·rw[List.getElem?_append_right (by rw[hlen];omega),hlen,List.getElem?_map] at e
  obtain⟨i,h1,rfl⟩:=Option.map_eq_some_iff.1 e
  refine⟨.inr (List.getElem?_eq_some_iff.1 h1).1,?_⟩
  cases hx:h[i]? with
  | none=>exact .inl rfl
  | some o0 =>
    refine .inr ⟨o0,?_,rfl⟩
    simp only[qmb,hj,if_false,h1,Option.getD_some]
    exact hx
theorem qvl {n:Nat} {l:List Nat} (hnd:l.Nodup) (hge:∀ i∈l,n≤i) {j j':Nat} (hj:j<n∨j-n<l.length) (hj':j'<n∨j'-n<l.length) (h:qmb n l j=qmb n l j'):j=j':=by
 unfold qmb at h
 have hm:∀ k (hk:k<l.length),n≤l[k]:=fun k hk=>hge _ (List.getElem_mem hk)
 by_cases h1:j<n
 ·by_cases h2:j'<n
  ·simpa[h1,h2] using h
  ·have h3:j'-n<l.length:=by omega
   simp only[h1,h2,if_true,if_false,List.getElem?_eq_getElem h3,Option.getD_some] at h
   have:=hm _ h3
   omega
 ·have h4:j-n<l.length:=by omega
  by_cases h2:j'<n
  ·simp only[h1,h2,if_true,if_false,List.getElem?_eq_getElem h4,Option.getD_some] at h
   have:=hm _ h4
   omega
  ·have h3:j'-n<l.length:=by omega
   simp only[h1,h2,if_false,List.getElem?_eq_getElem h3,List.getElem?_eq_getElem h4,Option.getD_some] at h
   have:=(List.getElem_inj hnd).1 h
   omega
theorem qyC {h:Heap} (hi:Inv E G h w) {n:Nat} (hn:n≤h.length) {l:List Nat} (hnd:l.Nodup) (hge:∀ i∈l,n≤i):Inv E (qqZ n l G) (qmC n l h) w where
 fix:=hi.fix
 one:=hi.one
 tab:=hi.tab
 obj j o e:=by
  obtain⟨hj,h1⟩:=qha hn e
  rcases h1 with rfl | ⟨o0,h2,rfl⟩
  ·trivial
  ·exact qlB (qvK n l G) (fun _ _=>rfl) (qki hj) (fun m=>qn0 hj) (hi.obj _ _ h2)
 sep j o j' o' b e e' ho ho':=by
  obtain⟨hj,h1⟩:=qha hn e
  obtain⟨hj',h1'⟩:=qha hn e'
  rcases h1 with rfl | ⟨o0,h2,rfl⟩
  ·exact ho.elim
  ·rcases h1' with rfl | ⟨o0',h2',rfl⟩
   ·exact ho'.elim
   ·exact qvl hnd hge hj hj' (hi.sep _ _ _ _ b h2 h2' ((qed (qki hj) (fun m=>qn0 hj)).1 ho) ((qed (qki hj') (fun m=>qn0 hj')).1 ho'))
 dom j hj:=by
  have hlen:(qmC n l h).length=n+l.length:=by unfold qmC;simp;omega
  rw[hlen] at hj
  have h1:¬ j<n:=by omega
  have h2:l[j-n]? = none:=List.getElem?_eq_none (by omega)
  simp[qqZ,h1,h2]
theorem qBM {h:Heap} {n:Nat} (hn:n≤h.length) {l:List Nat} {b:Nat} (ho:Own (qqZ n l G) (qmC n l h) b):Own G h b:=by
 obtain⟨j,o,e,ho⟩:=ho
 obtain⟨hj,h1⟩:=qha hn e
 rcases h1 with rfl | ⟨o0,h2,rfl⟩
 ·exact ho.elim
 ·exact⟨_,o0,h2,(qed (qki hj) (fun m=>qn0 hj)).1 ho⟩
theorem quJ {G0:Ghost} {h0:Heap} {w0:World} (hi0:Inv E G0 h0 w0) {nt:Nat} {s:St} {a:Act} (hf:Fr E G nt s a w) (hp:Post E G0 h0 w0 G s.h w) (hg:GlobOk E G) (keep:List Nat) :
  ∃ G',Post E G0 h0 w0 G' (gc h0.length keep s).h w∧Fr E G' nt (gc h0.length keep s) a w∧GlobOk E G':=by
 unfold gc
 split
 ·refine⟨G,hp,⟨hf.inv,fun t=>?_,hf.size,hf.defers⟩,hg⟩
  simp only[qCE]
  split
  ·exact hf.tmps t
  ·exact .junk _
 split
 case isFalse=>exact⟨G,hp,hf,hg⟩
 rename_i hn
 obtain⟨hnd,hge⟩:=qey h0.length (keep.flatMap (fun t=>qa9 (s.tm t))++(s.h.take h0.length).flatMap qp9) [] List.nodup_nil (by simp)
 have hρ:=qvK h0.length (qhf h0.length keep s) G
 refine⟨qqZ h0.length (qhf h0.length keep s) G,⟨⟨hp.le.fix,fun i b e=>?_,fun i m x e=>?_⟩,qyC hf.inv hn hnd hge,hp.size,hp.block,hp.fixed,fun b ho=>hp.owned b (qBM hn ho),hp.os,hp.tape,hp.output⟩,⟨qyC hf.inv hn hnd hge,fun t=>?_,hf.size,hf.defers⟩,fun g cs e=>⟨(hg g cs e).1,(hg g cs e).2.data hρ.fix (hg g cs e).1⟩⟩
 ·have hi:i<h0.length:=by
   by_cases h:i<h0.length
   ·exact h
   ·have:=(hi0.dom i (by omega)).1
    rw[this] at e
    cases e
  simp only[qqZ,hi,if_true]
  exact hp.le.blk _ _ e
 ·have hi:i<h0.length:=by
   by_cases h:i<h0.length
   ·exact h
   ·have:=(hi0.dom i (by omega)).2 m
    rw[this] at e
    cases e
  simp only[qqZ,hi,if_true]
  exact hp.le.tl _ _ _ e
 ·simp only[gc1]
  split
  ·exact (hf.tmps t).ren hρ
  ·exact .junk _
def qoK (id b:Nat) (vs:Array Value) (G:Ghost):Ghost:={ G with fix:=fun b' o=>if b'=b then vs[o]? else G.fix b' o }
theorem Rep.frzC {G':Ghost} (hle:G.le G') {id sz b:Nat} {cs:List AVal} {vs:List Value} (hlf:cs.all leaf=true) (hb:G.blk id=some b) (hvs:RepL E G' cs vs) (hf:∀ (i:Nat) (v:Value),vs[i]? = some v→G'.fix b i=some v) {a:AVal} {v:Value} (h:Rep E G a v):Rep E G' (frzC id sz cs a) v:=by
 unfold Abs.frzC
 split
 ·rename_i i o
  split
  ·rename_i hi
   subst hi
   cases h with
   | ptr hb' =>
     rw[hb] at hb'
     injection hb' with hb'
     subst hb'
     exact .vptr_at (o:=0) vs hvs.len (fun i v e=>by rw[Nat.zero_add];exact hf i v e) hvs.rep (Nat.zero_add _).symm
  ·exact h.mono hle
 ·rename_i i m
  split
  ·rename_i hi
   subst hi
   cases h with
   | @vec _ _ cap szr b2 hb' ht hn =>
     rw[hb] at hb'
     injection hb' with hb'
     subst hb'
     have hat:∀ xs:List AVal,xs≠[]→∃ b1 o,some (⟨b,0,none⟩:Addr)=some ⟨b1,o,none⟩∧∀ (i:Nat) (v:Value),vs[i]? = some v→G'.fix b1 (o+i)=some v:=fun xs _=>⟨b,0,rfl,fun i v e=>by rw[Nat.zero_add];exact hf i v e⟩
     split
     ·rename_i hc
      obtain⟨_,rfl⟩:=hc
      have hfl:=qmK hlf
      exact .list 1 vs rfl hn (fun x hx=>by rw[qhx (List.all_eq_true.1 hlf x hx)];rfl) (hat cs) (by rw[hfl];exact hvs.len) (fun i c v e e'=>by rw[hfl] at e;exact hvs.rep i c v e e') trivial
     ·split
      ·rename_i hc
       obtain⟨_,hc⟩:=hc
       obtain⟨h1,h2⟩:=qhE sz m cs hc
       exact .list sz vs (qgk sz m cs).symm hn h2 (hat _) (by rw[h1];exact hvs.len) (fun i c v e e'=>by rw[h1] at e;exact hvs.rep i c v e e') trivial
      ·exact .junk _
  ·exact h.mono hle
 ·exact h.mono hle
theorem Rep.frz {G':Ghost} (hle:G.le G') {id sz b:Nat} {cs:List AVal} {vs:List Value} (hlf:cs.all leaf=true) (hb:G.blk id=some b) (hvs:RepL E G' cs vs) (hf:∀ (i:Nat) (v:Value),vs[i]? = some v→G'.fix b i=some v) {a:AVal} {v:Value} (h:Rep E G a v):Rep E G' (frz id sz cs a) v:=by
 unfold Abs.frz
 split
 ·cases h with
  | agg hl hr =>
    refine .agg (by simpa using hl) fun i c v e e'=>?_
    rw[List.getElem?_map] at e
    obtain⟨c0,hc0,rfl⟩:=Option.map_eq_some_iff.1 e
    exact (hr i c0 v hc0 e').frzC hle hlf hb hvs hf
 ·cases h with
  | tuple hl hr =>
    refine .tuple (by simpa using hl) fun i c v e e'=>?_
    rw[List.getElem?_map] at e
    obtain⟨c0,hc0,rfl⟩:=Option.map_eq_some_iff.1 e
    exact (hr i c0 v hc0 e').frzC hle hlf hb hvs hf
 ·cases h with
  | func hk hla hlb ha hb' =>
    refine .func hk (by simpa using hla) (by simpa using hlb) (fun i c v e e'=>?_) (fun i c v e e'=>?_)
    ·rw[List.getElem?_map] at e
     obtain⟨c0,hc0,rfl⟩:=Option.map_eq_some_iff.1 e
     exact (ha i c0 v hc0 e').frzC hle hlf hb hvs hf
    ·rw[List.getElem?_map] at e
     obtain⟨c0,hc0,rfl⟩:=Option.map_eq_some_iff.1 e
     exact (hb' i c0 v hc0 e').frzC hle hlf hb hvs hf
 ·exact h.frzC hle hlf hb hvs hf
theorem RepL.wipeC {cs:List AVal} {vs:List Value} (h:RepL E G cs vs):RepL E G (cs.map wipeCell) vs :=
 ⟨by simpa using h.len,fun i c v e e'=>by
  rw[List.getElem?_map] at e
  obtain⟨c0,h0,rfl⟩:=Option.map_eq_some_iff.1 e
  exact (h.rep i c0 v h0 e').wipeCell⟩
theorem qoJ {nt:Nat} {s:St} {a:Act} (hf:Fr E G nt s a w) {id sz b:Nat} {o:AObj} {cs:List AVal} {vs:Array Value} (hcs:s.h[id]? = some o) (ho:qcz G id o b) (hb:G.blk id=some b) (hr:RepL E G cs vs.toList)
  (hn:∀ q,G.fix b q=none) (hcell:∀ (j:Nat) (v:Value),vs[j]? = some v→w.cell? ⟨b,j,none⟩=some v):∃ G',Post E G s.h w G' (qjR id sz cs s).h w∧Fr E G' nt (qjR id sz cs s) a w:=by
 unfold qjR
 split
 case isFalse=>exact⟨G,Post.refl hf.inv,hf⟩
 rename_i hd
 have hi:=hf.inv
 have hle:G.le (qoK id b vs G):=by
  refine⟨fun b' o v e=>?_,fun _ _ e=>e,fun _ _ _ e=>e⟩
  by_cases h:b'=b
  ·subst h
   rw[hn o] at e
   cases e
  ·simp only[qoK,if_neg h]
   exact e
 have hvs:RepL E (qoK id b vs G) cs vs.toList:=hr.mono hle
 have hfx:∀ (i:Nat) (v:Value),vs.toList[i]? = some v→(qoK id b vs G).fix b i=some v:=fun i v e=>by simp only[qoK,if_true];simpa using e
 have hown:Own G s.h b:=⟨id,_,hcs,ho⟩
 have hget:∀ {j:Nat} {o:AObj},((s.h.set id .gone).map (qlY id sz cs))[j]? = some o→(j=id∧o=.gone)∨(j≠id∧∃ o0,s.h[j]? = some o0∧o=qlY id sz cs o0):=by
  intro j o e
  rw[List.getElem?_map] at e
  obtain⟨o0,h0,rfl⟩:=Option.map_eq_some_iff.1 e
  by_cases hj:j=id
  ·subst hj
   rw[List.getElem?_set_self (List.getElem?_eq_some_iff.1 hcs).1] at h0
   injection h0 with h0
   subst h0
   exact .inl ⟨rfl,rfl⟩
  ·rw[List.getElem?_set_ne (fun h=>hj h.symm)] at h0
   exact .inr ⟨hj,o0,h0,rfl⟩
 have howns:∀ {j b':Nat} {o:AObj},qcz (qoK id b vs G) j (qlY id sz cs o) b'↔qcz G j o b':=by
  intro j b' o
  cases o<;>exact Iff.rfl
 have hother:∀ {j b':Nat} {o':AObj},j≠id→s.h[j]? = some o'→qcz G j o' b'→b'≠b:=by
  intro j b' o' hj e hoo hb'
  subst hb'
  exact hj (hi.sep j o' id _ b' e hcs hoo ho)
 have hinv:Inv E (qoK id b vs G) ((s.h.set id .gone).map (qlY id sz cs)) w:=by
  refine⟨fun b' o v e=>?_,fun b' o v e=>?_,fun j o e=>?_,fun j o j' o' b' e e' h h'=>?_,fun j hj=>?_,hi.tab.keep hle.fix fun _ _=>rfl⟩
  ·by_cases h:b'=b
   ·subst h
    simp only[qoK,if_true] at e
    exact hcell o v e
   ·simp only[qoK,if_neg h] at e
    exact hi.fix b' o v e
  ·by_cases h:b'=b
   ·subst h
    simp only[qoK,if_true] at e
    have hsz:o<vs.size:=(Array.getElem?_eq_some_iff.1 e).1
    have hcl:o<cs.length:=by have:=hr.len;simp at this;omega
    have hce:cs[o]? = some cs[o]:=List.getElem?_eq_getElem hcl
    have hlf:leaf cs[o]=true:=(List.all_eq_true.1 hd.2) _ (List.getElem_mem hcl)
    exact (hr.rep o _ v hce (by simpa using e)).oneCell hlf
   ·simp only[qoK,if_neg h] at e
    exact hi.one b' o v e
  ·rcases hget e with ⟨rfl,rfl⟩ | ⟨hj,o0,h0,rfl⟩
   ·trivial
   ·have hk:=hi.obj j o0 h0
    cases o0 with
    | gone=>trivial
    | box us =>
      obtain⟨b',vs',t',h1,h2,h3,h4⟩:=hk
      have hne:b'≠b:=hother hj h0 h1
      refine⟨b',vs',t',h1,h2,⟨by simpa using h3.len,fun k c v e e'=>?_⟩,fun o=>by simp only[qoK,if_neg hne];exact h4 o⟩
      rw[List.getElem?_map] at e
      obtain⟨c0,hc0,rfl⟩:=Option.map_eq_some_iff.1 e
      exact (h3.rep k c0 v hc0 e').frz hle hd.2 hb hvs hfx
    | map es =>
      obtain⟨b',vs',clk,es',h1,h2,hpm,hkd,h3,hst,h4⟩:=hk
      have hne:b'≠b:=hother hj h0 h1
      exact⟨b',vs',clk,es',h1,h2,hpm,hkd,⟨h3.len,fun k c v e e'=>⟨(h3.rep k c v e e').1.mono hle,(h3.rep k c v e e').2.mono hle⟩⟩,hst,fun o=>by simp only[qoK,if_neg hne];exact h4 o⟩
    | tail n sz =>
      obtain⟨b',cap,vs',t',h1,h2,h3,h4,h5,h6⟩:=hk
      have hne:b'≠b:=hother hj h0 ⟨cap,h1⟩
      exact⟨b',cap,vs',t',h1,h2,h3,h4,fun o ho=>by simp only[qoK,if_neg hne];exact h5 o ho,h6⟩
    | vec us sz =>
      obtain⟨b',cap,vs',t',h1,h2,h3,h4,h5,h6,h7⟩:=hk
      have hne:b'≠b:=hother hj h0 h1
      refine⟨b',cap,vs',t',h1,h2,h3,by simpa using h4,?_,fun o=>by simp only[qoK,if_neg hne];exact h6 o,h7⟩
      rw[List.length_map]
      exact⟨by simpa using h5.len,fun k c v e e'=>by
       rw[List.getElem?_map] at e
       obtain⟨c0,hc0,rfl⟩:=Option.map_eq_some_iff.1 e
       exact (h5.rep k c0 v hc0 e').frz hle hd.2 hb hvs hfx⟩
  ·rcases hget e with ⟨rfl,rfl⟩ | ⟨hj,o0,h0,rfl⟩
   ·exact h.elim
   ·rcases hget e' with ⟨rfl,rfl⟩ | ⟨hj',o0',h0',rfl⟩
    ·exact h'.elim
    ·exact hi.sep j o0 j' o0' b' h0 h0' (howns.1 h) (howns.1 h')
  ·exact hi.dom j (by simpa using hj)
 refine⟨qoK id b vs G,⟨hle,hinv,Nat.le_refl _,fun _ _ _=>rfl,fun b' o e=>?_,fun b' ho=>?_,rfl,rfl,rfl⟩,⟨hinv,fun i=>(hf.tmps i).frz hle hd.2 hb hvs hfx,hf.size,hf.defers⟩⟩
 ·by_cases h:b'=b
  ·subst h
   exact .inr (.inl hown)
  ·simp only[qoK,if_neg h] at e
   exact .inl e
 ·obtain⟨j,o,e,ho⟩:=ho
  rcases hget e with ⟨rfl,rfl⟩ | ⟨hj,o0,h0,rfl⟩
  ·exact ho.elim
  ·exact .inl ⟨j,o0,h0,howns.1 ho⟩
theorem quI {nt:Nat} {s:St} {a:Act} (hf:Fr E G nt s a w) (hg:GlobOk E G) (t:Nat):∃ G',Post E G s.h w G' (qfI t s).h w∧Fr E G' nt (qfI t s) a w:=by
 unfold qfI
 split
 ·rename_i id ht
  split
  case h_2=>exact⟨G,Post.refl hf.inv,hf⟩
  rename_i cs hcs
  obtain⟨b,vs,ts,hb,hw,hr,hn⟩:=hf.inv.obj id _ hcs
  exact qoJ hf hcs hb hb hr.wipeC hn (fun j v e=>by simp only[World.cell?,hw];simpa using e)
 ·rename_i id m ht
  split
  case h_2=>exact⟨G,Post.refl hf.inv,hf⟩
  rename_i cs sz hcs
  obtain⟨b,cap,vs,ts,hb,hw,_,_,hr,hn,_⟩:=hf.inv.obj id _ hcs
  refine qoJ (vs:=(vs.toList.take cs.length).toArray) hf hcs hb hb (by simpa using hr.wipeC) hn (fun j v e=>?_)
  have e':(vs.toList.take cs.length)[j]? = some v:=by simpa using e
  rw[List.getElem?_take] at e'
  split at e'
  ·simp only[World.cell?,hw]
   simpa using e'
  ·cases e'
 ·exact⟨G,Post.refl hf.inv,hf⟩
end Go.Abs
