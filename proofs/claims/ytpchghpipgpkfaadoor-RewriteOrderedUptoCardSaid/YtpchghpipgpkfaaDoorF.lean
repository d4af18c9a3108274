/-
  PARTS OF A PROOF, joined: an abstract machine for quiet code, its evaluation, and what the seat's functions answer on it. Conditions: none.
-/
import Derived.Test.YtpchghpipgpkfaaDoorAbsE
import Derived.Great.BuildSlice
set_option linter.unusedVariables false
namespace Go.Abs
variable {E:Env} {G:Ghost} {h:Heap} {w:World}
theorem qpc (hi:Inv E G h w) {av:AVal} {x:Value} (hx:Rep E G av x) {t:TypeId} {d:TypeDesc} {i:TypeInfo} (hd:E.P.underlying t=some d) (hn:E.P.info? t=some i) (ha:qf3 d=true)
  {cs:List AVal} (hr:qaS h av i.size=some cs):∃ v,(Instr.loadAt t x).run E.P w=.ok v w∧Rep E G (.agg cs) v:=by
 obtain⟨b,o,vs,rfl,hl,hrep,hc⟩:=qjJ hi hx hr
 have hlen:vs.length=i.size:=by rw[hrep.len,hl]
 have hld:=run_loadCells_list (P:=E.P) w ⟨b,o,none⟩ vs (fun j v e=>by rw[qcr];exact hc j v e)
 rw[hlen] at hld
 refine⟨.agg vs.toArray,?_,.agg (by simpa using hrep.len) (fun i c v e e'=>hrep.rep i c v e (by simpa using e'))⟩
 simp[Instr.loadAt,Instr.sureAddr,loadVar,qfn hd,ha,qbu hn,hld]
theorem qpb (hi:Inv E G h w) {av:AVal} {x:Value} (hx:Rep E G av x) {t:TypeId} {d:TypeDesc} (hd:E.P.underlying t=some d) (ha:qf3 d=false)
  {c:AVal} (hr:qag h av=some c):∃ v,(Instr.loadAt t x).run E.P w=.ok v w∧Rep E G c v:=by
 obtain⟨b,o,v,rfl,hrep,hc⟩:=qlb hi hx hr
 exact⟨v,by simp[Instr.loadAt,Instr.sureAddr,loadVar,qfn hd,ha,hc],hrep⟩
theorem qwb (hi:Inv E G h w) {av vv:AVal} {x y:Value} (hx:Rep E G av x) (hy:Rep E G vv y) {t:TypeId} {i:TypeInfo} (hn:E.P.info? t=some i) {h':Heap}
  (hs:qaT h i.size av vv=some h'):∃ w',(Instr.storeAt t x y).run E.P w=.ok () w'∧Post E G h w G h' w':=by
 obtain⟨b,o,w',rfl,hsz,hrun,hp⟩:=qq6 hi hx hy hs
 exact⟨w',by simp[Instr.storeAt,Instr.sureAddr,storeVar,qbu hn,hsz,hrun],hp⟩
theorem quz {av:AVal} {x:Value} (hx:Rep E G av x) {s:TypeId} {fs:Array Field} {k:Nat} {f:Field} {i:TypeInfo} (hd:E.P.underlying s=some (.struct fs)) (hf:fs[k]? = some f)
  (hn:E.P.info? f.type=some i) (h0:¬ i.size=0) {r:AVal} (hr:qai f.offset av=some r):∃ v,(Instr.fieldAt s x k).run E.P w=.ok v w∧Rep E G r v:=by
 unfold qai at hr
 split at hr
 ·injection hr with hr
  subst hr
  cases hx with
  | ptr hb=>exact⟨_,by simp[Instr.fieldAt,Instr.sureAddr,run_underlying hd,hf,fieldPlace,qbu hn,h0,qcr],.ptr hb⟩
 ·rename_i cells off
  injection hr with hr
  subst hr
  cases hx with
  | @vptr _ _ b o vs hl hff hrr=>exact⟨.pointer (some ⟨b,o+off+f.offset,none⟩),by simp[Instr.fieldAt,Instr.sureAddr,run_underlying hd,hf,fieldPlace,qbu hn,h0,qcr],.vptr_at vs hl hff hrr (by omega)⟩
 ·cases hr
theorem qpp {cs:List AVal} {vs:Array Value} (hx:Rep E G (.agg cs) (.agg vs)) {t:TypeId} {d:TypeDesc} (hd:E.P.underlying t=some d) (ha:qf3 d=false) {off:Nat} {c:AVal}
  (hr:cs[off]? = some c):∃ v,(part t vs off).run E.P w=.ok v w∧Rep E G c v:=by
 cases hx with
 | agg hl hrr =>
   have hlt:off<vs.size:=by rw[hl];exact (List.getElem?_eq_some_iff.1 hr).1
   have hv:vs[off]? = some vs[off]:=Array.getElem?_eq_getElem hlt
   exact⟨_,by simp[part,qfn hd,ha,hv],hrr off c _ hr hv⟩
theorem qvt {cs:List AVal} {vs:Array Value} (hx:Rep E G (.agg cs) (.agg vs)) {t:TypeId} {d:TypeDesc} {i:TypeInfo} (hd:E.P.underlying t=some d) (hn:E.P.info? t=some i) (ha:qf3 d=true) {off:Nat}
  (hr:off+i.size≤cs.length):∃ v,(part t vs off).run E.P w=.ok v w∧Rep E G (.agg ((cs.drop off).take i.size)) v:=by
 cases hx with
 | agg hl hrr =>
   refine⟨.agg (vs.extract off (off+i.size)),by simp[part,qfn hd,ha,qbu hn],.agg (by simp;omega) fun j c v e e'=>?_⟩
   rw[List.getElem?_take] at e
   split at e
   ·rename_i hj
    rw[List.getElem?_drop] at e
    refine hrr (off+j) c v e ?_
    rw[Array.getElem?_extract] at e'
    split at e'
    ·exact e'
    ·cases e'
   ·cases e
theorem qjx {av:AVal} {x:Value} (hx:Rep E G av x) {s:TypeId} {fs:Array Field} {k:Nat} {f:Field} (hd:E.P.underlying s=some (.struct fs)) (hf:fs[k]? = some f)
  {d:TypeDesc} {i:TypeInfo} (hdt:E.P.underlying f.type=some d) (hn:E.P.info? f.type=some i) {r:AVal}
  (hr:(if qf3 d=true then qtJ f.offset i.size av else qrg f.offset av)=some r):∃ v,(Instr.field s x k).run E.P w=.ok v w∧Rep E G r v:=by
 split at hr
 ·rename_i ha
  unfold qtJ at hr
  split at hr
  ·split at hr
   ·rename_i hle
    injection hr with hr
    subst hr
    cases hx with
    | agg hl hrr =>
      obtain⟨v,h1,h2⟩:=qvt (w:=w) (Rep.agg hl hrr) hdt hn ha hle
      exact⟨v,by simp[Instr.field,run_underlying hd,hf,asAgg,h1],h2⟩
   ·cases hr
  ·cases hr
 ·rename_i ha
  unfold qrg at hr
  split at hr
  ·cases hx with
   | agg hl hrr =>
     obtain⟨v,h1,h2⟩:=qpp (w:=w) (Rep.agg hl hrr) hdt (by simpa using ha) hr
     exact⟨v,by simp[Instr.field,run_underlying hd,hf,asAgg,h1],h2⟩
  ·cases hr
theorem qqA {α β:Type} {f:α→List β} {sz:Nat}:∀ {xs:List α},(∀ x∈xs,(f x).length=sz)→∀ {i:Nat} {x:α},xs[i]? = some x→∀ {j:Nat} {c:β},(f x)[j]? = some c→(xs.flatMap f)[i*sz+j]? = some c:=by
 intro xs
 induction xs with
 | nil=>intro _ i x e;simp at e
 | cons y ys ih =>
   intro hs i x e j c e'
   have hy:=hs y (by simp)
   rw[List.flatMap_cons]
   cases i with
   | zero =>
     simp at e
     subst e
     rw[List.getElem?_append_left (by simp;exact (List.getElem?_eq_some_iff.1 e').1)]
     simpa using e'
   | succ i =>
     have h1:=ih (fun x hx=>hs x (by simp[hx])) (i:=i) (x:=x) (by simpa using e) e'
     have h2:(i+1)*sz+j=(f y).length+(i*sz+j):=by rw[hy,Nat.succ_mul];omega
     rw[h2,List.getElem?_append_right (by omega)]
     rw[show (f y).length+(i*sz+j)-(f y).length=i*sz+j by omega]
     exact h1
theorem qhn {α β:Type} {f:α→List β} {sz:Nat}:∀ {xs:List α},(∀ x∈xs,(f x).length=sz)→(xs.flatMap f).length=xs.length*sz:=by
 intro xs
 induction xs with
 | nil=>intro _;simp
 | cons y ys ih =>
   intro hs
   rw[List.flatMap_cons,List.length_append,hs y (by simp),ih (fun x hx=>hs x (by simp[hx])),List.length_cons,Nat.succ_mul]
   omega
theorem qnF {av iv:AVal} {x ix:Value} (hx:Rep E G av x) (hix:Rep E G iv ix) {t e:TypeId} {j:TypeInfo} (hd:E.P.underlying t=some (.slice e)) (hn:E.P.info? e=some j)
  {r:AVal} (hr:qad j.size av iv=some r):∃ v,(Instr.indexAt t x ix).run E.P w=.ok v w∧Rep E G r v:=by
 unfold qad at hr
 split at hr
 ·rename_i xs own k i
  split at hr
  ·rename_i h0
   split at hr
   ·rename_i v hv
    split at hr
    ·rename_i hsz0
     injection hr with hr
     subst hr
     cases hix with
     | int k i =>
       cases hx with
       | list sz vs hlen hcap hsz ha hl hrr ho =>
         have hlt:=(List.getElem?_eq_some_iff.1 hv).1
         have hne:xs≠[]:=fun hx=>by rw[hx] at hv;simp at hv
         obtain⟨b,o,rfl,hfx⟩:=ha hne
         have hszj:sz=j.size:=by rw[← hsz v (List.mem_of_getElem? hv)];exact hsz0
         subst hszj
         have hii:i<(xs.length:Int):=by omega
         refine⟨.pointer (some ⟨b,o+i.toNat*j.size,none⟩),?_,?_⟩
         ·simp[Instr.indexAt,asIntOf,run_underlying hd,qbu hn,hlen,h0,hii,qcr]
         ·have hfl:=qhn (f:=acells) hsz
          have hb:i.toNat*j.size+(acells v).length≤vs.length:=by
           rw[hl,hfl,hsz0,← Nat.succ_mul]
           exact Nat.mul_le_mul_right _ hlt
          have:=Rep.vptr (E:=E) (G:=G) (cells:=acells v) (off:=0) (b:=b) (o:=o+i.toNat*j.size) ((vs.drop (i.toNat*j.size)).take (acells v).length) (by simp;omega)
           (fun q u e=>by
            rw[List.getElem?_take] at e
            split at e
            ·rw[List.getElem?_drop] at e
             rw[Nat.add_assoc]
             exact hfx _ u e
            ·cases e)
           (fun q c u e e'=>by
            rw[List.getElem?_take] at e'
            split at e'
            ·rw[List.getElem?_drop] at e'
             exact hrr _ c u (qqA hsz hv e) e'
            ·cases e')
          simpa using this
    ·cases hr
   ·cases hr
  ·cases hr
 ·rename_i id off len k i
  split at hr
  ·rename_i hc
   obtain⟨hc1,hc2,hc3⟩:=hc
   injection hr with hr
   subst hr
   cases hix with
   | int k i =>
     cases hx with
     | ref hb hcap =>
       refine⟨_,?_,.ptr hb⟩
       simp[Instr.indexAt,asIntOf,run_underlying hd,qbu hn,hc1,hc2,hc3,qcr]
  ·cases hr
 ·rename_i id n k i
  split at hr
  ·rename_i hc
   obtain⟨hc1,hc2⟩:=hc
   injection hr with hr
   subst hr
   cases hix with
   | int k i =>
     cases hx with
     | vec hb ht hcap =>
       refine⟨_,?_,.ptr hb⟩
       simp[Instr.indexAt,asIntOf,run_underlying hd,qbu hn,hc1,hc2,qcr]
  ·cases hr
 ·cases hr
theorem qoP {av iv:AVal} {x ix:Value} (hx:Rep E G av x) (hix:Rep E G iv ix) {t e:TypeId} {n:Nat} {j:TypeInfo} (hd:E.P.underlying t=some (.array n e)) (hn:E.P.info? e=some j)
  {r:AVal} (hr:qhT n j.size av iv=some r):∃ v,(Instr.indexAt t x ix).run E.P w=.ok v w∧Rep E G r v:=by
 unfold qhT at hr
 split at hr
 ·rename_i cells off k i
  split at hr
  ·rename_i hc
   injection hr with hr
   subst hr
   cases hix with
   | int k i =>
     cases hx with
     | @vptr _ _ b o vs hl hff hrr=>exact⟨.pointer (some ⟨b,o+off+i.toNat*j.size,none⟩),by simp[Instr.indexAt,asIntOf,run_underlying hd,qbu hn,hc,qcr,Instr.sureAddr],.vptr_at vs hl hff hrr (by omega)⟩
  ·cases hr
 ·split at hr
  ·rename_i hc
   injection hr with hr
   subst hr
   cases hix with
   | int k i =>
     cases hx with
     | ptr hb=>exact⟨_,by simp[Instr.indexAt,asIntOf,run_underlying hd,qbu hn,hc,qcr,Instr.sureAddr],.ptr hb⟩
  ·cases hr
 ·cases hr
theorem qoO {av iv:AVal} {x ix:Value} (hx:Rep E G av x) (hix:Rep E G iv ix) {t e:TypeId} {n:Nat} {d:TypeDesc} {j:TypeInfo} (hd:E.P.underlying t=some (.array n e)) (hde:E.P.underlying e=some d) (hn:E.P.info? e=some j)
  (ha:qf3 d=false) (hj:j.size=1) {r:AVal} (hr:qkm n av iv=some r):∃ v,(Instr.index t x ix).run E.P w=.ok v w∧Rep E G r v:=by
 unfold qkm at hr
 split at hr
 ·split at hr
  ·rename_i hc
   cases hix with
   | int k i =>
     cases hx with
     | agg hl hrr =>
       obtain⟨v,h1,h2⟩:=qpp (w:=w) (Rep.agg hl hrr) hde ha hr
       exact⟨v,by simp[Instr.index,asIntOf,run_underlying hd,qbu hn,hj,hc,h1],h2⟩
  ·cases hr
 ·cases hr
theorem qoQ {av iv:AVal} {x ix:Value} (hx:Rep E G av x) (hix:Rep E G iv ix) {t:TypeId} (hd:E.P.underlying t=some .string)
  {r:AVal} (hr:qkn av iv=some r):∃ v,(Instr.index t x ix).run E.P w=.ok v w∧Rep E G r v:=by
 unfold qkn at hr
 split at hr
 ·split at hr
  ·rename_i h0
   obtain⟨b,hb,rfl⟩:=Option.map_eq_some_iff.1 hr
   cases hix with
   | int k i =>
     cases hx with
     | str s=>exact⟨.int .u8 b.toNat,by simp[Instr.index,asIntOf,run_underlying hd,h0,hb],.int _ _⟩
  ·cases hr
 ·cases hr
theorem qt0 (hg:GlobOk E G) {tm:Tmps} {a:Act} (ht:RelT E G tm a) {t:TypeId} {parts:Array (Nat × Operand)} {z:List AVal} {ps:List (Nat × Nat × Opd)} (hc:qms E t parts=.build z ps) {cs:List AVal}
  (hf:qcj z (ps.map fun p=>(p.1,p.2.1,opd tm p.2.2))=some cs):∃ v,(Instr.build t (parts.map fun (i,x)=>(i,a.eval x))).run E.P w=.ok v w∧Rep E G (.agg cs) v:=by
 have hl:(parts.map fun (i,x)=>(i,a.eval x)).toList=parts.toList.map fun p=>(p.1,a.eval p.2):=by simp
 unfold qms at hc
 split at hc
 ·rename_i fs i hd hi
  split at hc
  ·rename_i zv hzv
   split at hc
   ·rename_i hall0
    obtain⟨hkn,hall⟩:=hall0
    have hzr:=(qdz E G zv).cells (qkc hkn)
    split at hc
    ·rename_i ps' hps
     injection hc with h1 h2
     subst h1 h2
     have hmap:∀ fs:List Field,(fs.all fun f=>(E.P.info? f.type).isSome)=true→((fs.mapM fun f=>(do pure (f.offset,← sizeOf f.type):Sem (Nat × Nat)))).run E.P w=.ok (fs.map fun f=>(f.offset,(qjg E f.type).getD 0)) w:=by
      intro fs
      induction fs with
      | nil=>intro _;simp
      | cons f fs ih =>
        intro hh
        simp only[List.all_cons,Bool.and_eq_true] at hh
        obtain⟨j,hj⟩:=Option.isSome_iff_exists.1 hh.1
        have hone:(do pure (f.offset,← sizeOf f.type):Sem (Nat × Nat)).run E.P w=.ok (f.offset,j.size) w:=by rw[Sem.run_bind,qbu hj];rfl
        rw[List.mapM_cons,Sem.run_bind,hone,Result.andThen_ok,Sem.run_bind,ih hh.2,Result.andThen_ok]
        simp[qjg,hj]
     have hm:=hmap fs.toList hall
     have hplace:(fun k=>(fs.map fun f=>(f.offset,(qjg E f.type).getD 0))[k]?)=qfz E fs:=by
      funext k
      simp only[qfz,Array.getElem?_map]
      cases hk:fs[k]? with
      | none=>rfl
      | some f =>
        have hm:f∈fs.toList:=by
         have:=Array.mem_of_getElem? hk
         simpa using this
        obtain⟨j,hj⟩:=Option.isSome_iff_exists.1 (List.all_eq_true.1 hall f hm)
        simp[qjg,hj]
     ·obtain⟨cells',h1,h2⟩:=qgR hg ht (qfz E fs) parts.toList _ _ zv.cells cs hps hzr hf
      refine⟨.agg cells',?_,.agg (by simpa using h2.len) (fun i c v e e'=>h2.rep i c v e (by simpa using e'))⟩
      have hm':(fs.mapM fun f=>(do pure (f.offset,← sizeOf f.type):Sem (Nat × Nat))).run E.P w=.ok (fs.map fun f=>(f.offset,(qjg E f.type).getD 0)) w:=by
       rw[Array.mapM_eq_mapM_toList,Sem.run_map,hm,Result.andThen_ok]
       congr 1
       rw[← List.map_toArray,Array.toArray_toList]
      unfold Instr.build
      rw[Sem.run_bind,qgB hi hzv,Result.andThen_ok,Sem.run_bind,run_underlying hd,Result.andThen_ok]
      simp only[]
      rw[Sem.run_bind,hm',Result.andThen_ok,hplace,hl,h1]
      rfl
    ·cases hc
   ·cases hc
  ·cases hc
 ·rename_i n e i hd hi
  split at hc
  ·rename_i zv j hzv hj
   split at hc
   ·rename_i hkn
    have hzr:=(qdz E G zv).cells (qkc hkn)
    split at hc
    ·rename_i ps' hps
     injection hc with h1 h2
     subst h1 h2
     obtain⟨cells',h1,h2⟩:=qgR hg ht (fun k=>some (k*j.size,j.size)) parts.toList _ _ zv.cells cs hps hzr hf
     refine⟨.agg cells',?_,.agg (by simpa using h2.len) (fun i c v e e'=>h2.rep i c v e (by simpa using e'))⟩
     unfold Instr.build
     rw[Sem.run_bind,qgB hi hzv,Result.andThen_ok,Sem.run_bind,run_underlying hd,Result.andThen_ok]
     simp only[]
     rw[Sem.run_bind,qbu hj,Result.andThen_ok,hl,h1]
     rfl
    ·cases hc
   ·cases hc
  ·cases hc
 ·cases hc
variable {E:Env} {G:Ghost} {h:Heap} {w:World}
def Ghost.withTail (G:Ghost) (id n b cap sz:Nat) (vs:List Value):Ghost :=
 { fix:=(G.withRow b vs).fix,blk:=G.blk,tl:=fun i m=>if i=id∧m=n then some (b,cap,sz) else G.tl i m }
theorem qvz (hi:Inv E G h w) (id n sz cap:Nat) (vs:List Value) (cells:Array Value) (t:TypeId) (hv:∀ (i:Nat) (v:Value),vs[i]? = some v→cells[i]? = some v) (h1:∀ v∈vs,v.oneCell'=true)
  (hcells:cells.size=cap*sz) (hlen:vs.length=n*sz) (hn:n≤cap) (h':Heap) (hh:∀ k o,h'[k]? = some o→(k=id∧o=.tail n sz)∨(k≠id∧h[k]? = some o))
  (hdom:∀ k,h'.length≤k→h.length≤k∧k≠id) (hfresh:∀ m,n≤m→G.tl id m=none) :
  Post E G h w (G.withTail id n w.heap.size cap sz vs) h' (w.alloc (.cells cells t)):=by
 have hrow:=qjo hi vs
 have hle:G.le (G.withTail id n w.heap.size cap sz vs):=⟨hrow.fix,fun _ _ e=>e,fun i m x e=>by
  have hne:¬ (i=id∧m=n):=fun hx=>by
   rw[hx.1,hx.2,hfresh n (Nat.le_refl _)] at e;cases e
  simpa[Ghost.withTail,hne] using e⟩
 have hir:=quV hi vs cells t hv h1
 have hold:∀ k o,k≠id→∀ b,qcz (G.withTail id n w.heap.size cap sz vs) k o b→qcz G k o b:=by
  intro k o hne b hw
  cases o with
  | gone=>exact hw
  | box cs=>exact hw
  | map cs=>exact hw
  | tail n' sz'=>obtain⟨cap',e⟩:=hw;exact⟨cap',by simpa[Ghost.withTail,hne] using e⟩
  | vec cs sz'=>exact hw
 have hnew:∀ b,qcz (G.withTail id n w.heap.size cap sz vs) id (.tail n sz) b→b=w.heap.size:=by
  rintro b ⟨cap',e⟩
  simp[Ghost.withTail] at e
  exact e.1.symm
 refine⟨hle,⟨hir.fix,hir.one,fun k o e=>?_,fun k1 o1 k2 o2 b e1 e2 h1 h2=>?_,fun k e=>?_,hir.tab⟩,by simp,fun b hb _=>heap_alloc_old w _ b hb,fun b o e=>?_,?_,rfl,rfl,rfl⟩
 ·rcases hh k o e with ⟨rfl,rfl⟩ | ⟨hne,e'⟩
  ·refine⟨w.heap.size,cap,cells,t,by simp[Ghost.withTail],heap_alloc_new w _,hcells,hn,fun q hq=>?_,fun m hm=>?_⟩
   ·simp[Ghost.withTail,Ghost.withRow]
    omega
   ·have:¬ m=n:=by omega
    simp[Ghost.withTail,this]
    exact hfresh m (by omega)
  ·refine (hi.obj k o e').keep hle (fun b hb=>heap_alloc_old w _ b (hi.owns_lt e' hb)) (fun b hb q=>?_) (fun m=>?_)
   ·have:b≠w.heap.size:=Nat.ne_of_lt (hi.owns_lt e' hb)
    simp[Ghost.withTail,Ghost.withRow,this]
   ·simp[Ghost.withTail,hne]
 ·rcases hh k1 o1 e1 with ⟨rfl,rfl⟩ | ⟨hn1,f1⟩<;>rcases hh k2 o2 e2 with ⟨rfl,rfl⟩ | ⟨hn2,f2⟩
  ·rfl
  ·have:=hnew b h1
   have:=hi.owns_lt f2 (hold _ _ hn2 _ h2)
   omega
  ·have:=hnew b h2
   have:=hi.owns_lt f1 (hold _ _ hn1 _ h1)
   omega
  ·exact hi.sep k1 o1 k2 o2 b f1 f2 (hold _ _ hn1 _ h1) (hold _ _ hn2 _ h2)
 ·obtain⟨h3,h4⟩:=hdom k e
  exact⟨(hi.dom k h3).1,fun m=>by simp[Ghost.withTail,h4];exact (hi.dom k h3).2 m⟩
 ·by_cases hb:b=w.heap.size
  ·exact .inr (.inr (by omega))
  ·simp[Ghost.withTail,Ghost.withRow,hb] at e
   exact .inl (by simpa using e)
 ·rintro b ⟨k,o,e,hw⟩
  rcases hh k o e with ⟨rfl,rfl⟩ | ⟨hne,e'⟩
  ·exact .inr (by rw[hnew b hw];exact Nat.le_refl _)
  ·exact .inl ⟨k,o,e',hold _ _ hne _ hw⟩
structure Cells (E:Env) (G:Ghost) (xs:List AVal) (A:Option Addr) (sz:Nat) (vs:List Value):Prop where
 size:∀ x∈xs,(acells x).length=sz
 at_:xs≠[]→∃ b o,A=some ⟨b,o,none⟩∧∀ (i:Nat) (v:Value),vs[i]? = some v→G.fix b (o+i)=some v
 rep:RepL E G (xs.flatMap acells) vs
theorem Cells.length {xs:List AVal} {A:Option Addr} {sz:Nat} {vs:List Value} (hc:Cells E G xs A sz vs):vs.length=xs.length*sz:=by
 rw[hc.rep.len,qhn hc.size]
theorem Cells.one (hi:Inv E G h w) {xs:List AVal} {A:Option Addr} {sz:Nat} {vs:List Value} (hc:Cells E G xs A sz vs):∀ v∈vs,v.oneCell'=true:=by
 intro v hv
 obtain⟨i,hiv⟩:=List.getElem?_of_mem hv
 have hne:xs≠[]:=fun hx=>by
  have:=hc.length
  rw[hx] at this
  simp at this
  rw[this] at hiv
  simp at hiv
 obtain⟨b,o,_,hf⟩:=hc.at_ hne
 exact hi.one _ _ _ (hf i v hiv)
theorem Cells.read (hi:Inv E G h w) {xs:List AVal} {a:Addr} {sz:Nat} {vs:List Value} (hc:Cells E G xs (some a) sz vs):∀ (j:Nat) (v:Value),vs[j]? = some v→w.cell? (a.add j)=some v:=by
 intro j v e
 have hne:xs≠[]:=fun hx=>by
  have:=hc.length
  rw[hx] at this
  simp at this
  rw[this] at e
  simp at e
 obtain⟨b,o,ha,hf⟩:=hc.at_ hne
 injection ha with ha
 subst ha
 rw[qcr]
 exact hi.fix _ _ _ (hf j v e)
theorem Cells.append {G':Ghost} (hle:G.le G') {xs ys:List AVal} {A A':Option Addr} {sz:Nat} {vs us:List Value} (hx:Cells E G xs A sz vs) (hy:Cells E G ys A' sz us) {b:Nat}
  (hf:∀ (i:Nat) (v:Value),(vs++us)[i]? = some v→G'.fix b i=some v):Cells E G' (xs++ys) (some ⟨b,0,none⟩) sz (vs++us):=by
 refine⟨fun x hx'=>?_,fun _=>⟨b,0,rfl,fun i v e=>by rw[Nat.zero_add];exact hf i v e⟩,?_⟩
 ·rcases List.mem_append.1 hx' with h1 | h1
  ·exact hx.size x h1
  ·exact hy.size x h1
 ·rw[List.flatMap_append]
  exact (hx.rep.append hy.rep).mono hle
theorem qgc {P:Program} (w:World) (t ty e:TypeId) (i:TypeInfo) (ht:P.underlying t=some (.slice e)) (hi:P.info? e=some i)
  (g sLen sCap:Nat) (cur:Array Value) (t':TypeId) (hg:w.heap[g]? = some (.cells cur t' (0,0)))
  (a:Addr) (m c:Nat) (news:List Value) (hl:news.length=m*i.size) (hnews:∀ (j:Nat) (u:Value),news[j]? = some u→w.cell? (a.add j)=some u) (h1:∀ u∈news,u.oneCell'=true)
  (hroom:sLen+m≤sCap) (hfit:sLen*i.size+news.length≤cur.size) :
  (Builtin.append_ #[t,t] ty #[.slice (some ⟨g,0,none⟩) sLen sCap,.slice (some a) m c]).run P w =
   .ok (.slice (some ⟨g,0,none⟩) (sLen+m) sCap) (w.setRow g (cur.toList.take (sLen*i.size)++news++cur.toList.drop (sLen*i.size+news.length)).toArray):=by
 have hf:=run_firstCells_some (P:=P) w i.size m a m c news hl hnews
 have hst:=run_storeCells_at P g (sLen*i.size) t' news 0 cur w hg (by simpa using hfit) h1
 simp only[Nat.add_zero] at hst
 simp[Builtin.append_,run_underlying ht,sizeOf,typeInfo,hi,Builtin.lenOf,hroom,hf,Addr.add_lit,hst]
theorem qjh {n b:Nat} (hn:n≤qfN) (hb:b≤2 ^ 12):n*b≤140737488355328:=by
 have h1:n*b≤2 ^ 30*2 ^ 12:=Nat.mul_le_mul hn hb
 omega
theorem qsr {vs us:List Value} {rest:Array Value} {i:Nat} {v:Value} (e:(vs++us)[i]? = some v):(vs.toArray++us.toArray++rest)[i]? = some v:=by
 have hlt:=(List.getElem?_eq_some_iff.1 e).1
 have:(vs.toArray++us.toArray++rest)[i]? = (vs++us++rest.toList)[i]? := by
  rw[← Array.getElem?_toList]
  simp
 rw[this,List.getElem?_append_left hlt]
 exact e
theorem qnn (hi:Inv E G h w) {t e:TypeId} (ty:TypeId) {i:TypeInfo} {z:Value} (htu:E.P.underlying t=some (.slice e)) (hn:E.P.info? e=some i) (hz:i.zero=some z) (hzs:z.cells.size=i.size)
  (hs0:0<i.size) (hb0:0<i.bytes) (hb1:i.bytes≤2 ^ 12) {id n:Nat} {ys:List AVal} {own2:Option (Option Nat)} {r:AVal} {x y:Value} (hx:Rep E G (.vec id n) x) (hy:Rep E G (.list ys own2) y) {h':Heap}
  (hr:(if ys=[] then some (.vec id n,h)
   else match h[id]? with
    | some (.vec cs sz') =>
      if sz'=i.size∧cs.length=n*i.size∧(ys.all fun v=>(acells v).length=i.size)=true∧n+ys.length≤qfN then
       some (.vec h.length (n+ys.length),h.set id .gone++[.vec (cs++ys.flatMap acells) i.size])
      else none
    | _=>none:Option (AVal × Heap))=some (r,h')) :
  ∃ v w' G',(Builtin.append_ #[t,t] ty #[x,y]).run E.P w=.ok v w'∧Post E G h w G' h' w'∧Rep E G' r v:=by
 cases hx with
 | @vec _ _ cap szr b hb htl hncap =>
 cases hy with
 | @list _ _ A' m cap' sy us hml hcap' hsz' ha' hl' hrr' ho' =>
 split at hr
 ·rename_i hys
  simp only[Option.some.injEq,Prod.mk.injEq] at hr
  obtain⟨rfl,rfl⟩:=hr
  subst hys
  have hm0:m=0:=by rw[hml];rfl
  subst hm0
  refine⟨.slice (some ⟨b,0,none⟩) n cap,w,G,?_,Post.refl hi,.vec hb htl hncap⟩
  cases A'<;>simp[Builtin.append_,run_underlying htu,qbu hn,Builtin.lenOf,hncap,Builtin.firstCells,loadCells,loadCellsFrom,storeCells]
 rename_i hys
 split at hr
 case h_2=>cases hr
 rename_i cs sz' hobj
 split at hr
 case isFalse=>cases hr
 rename_i hc
 obtain⟨rfl,hc1,hc2,hc3⟩:=hc
 simp only[Option.some.injEq,Prod.mk.injEq] at hr
 obtain⟨rfl,rfl⟩:=hr
 obtain⟨b',cap1,vs,t',k1,k2,k3,k4,k5,k6,k7⟩:=hi.obj id _ hobj
 have hx1:=k7 n _ htl
 simp only[Prod.mk.injEq] at hx1
 obtain⟨rfl,rfl,rfl⟩:=hx1
 have hsy:∀ v∈ys,(acells v).length=i.size:=fun v hv=>by simpa using List.all_eq_true.1 hc2 v hv
 have hcy':Cells E G ys A' i.size us:=⟨hsy,ha',⟨hl',hrr'⟩⟩
 obtain⟨yb,yo,rfl,hyf⟩:=ha' hys
 have hul:=hcy'.length
 have hm1:0<m:=by rw[hml];exact List.length_pos_iff.2 hys
 have hnm:n+m≤qfN:=by rw[hml];exact hc3
 have hnm':n+m≤1073741824:=hnm
 have hby:(n+m)*i.bytes≤140737488355328:=qjh hnm hb1
 have hur:=hcy'.read hi
 have hone:=hcy'.one hi
 have hulm:us.length=m*i.size:=by rw[hul,hml]
 have hlf:(ys.flatMap acells).length=us.length:=hcy'.rep.len.symm
 have htk:(vs.toList.take (n*i.size)).length=n*i.size:=by rw[List.length_take,Array.length_toList];omega
 have hnew:(cs++ys.flatMap acells).length=n*i.size+us.length:=by rw[List.length_append,hlf,hc1]
 have hA:(vs.toList.take (n*i.size)++us).length=n*i.size+us.length:=by rw[List.length_append,htk]
 by_cases hroom:n+m≤cap
 ·have hfit:n*i.size+us.length≤vs.size:=by rw[hulm,k3,← Nat.add_mul];exact Nat.mul_le_mul_right _ hroom
  have hrun:=qgc (P:=E.P) w t ty e i htu hn b n cap vs t' k2 ⟨yb,yo,none⟩ m cap' us hulm hur hone hroom hfit
  have hsplen:=qcA vs.toList (n*i.size) us (by simpa using hfit)
  refine⟨_,_,_,hrun,qpv hi hobj (cs++ys.flatMap acells) b cap (n+ys.length) i.size _ (.inl k1) (fun k _ hk=>qiF w b k _ hk) (by rw[qfW];exact Nat.le_refl _) rfl rfl rfl k6 (fun G' hle=>⟨_,t',qdB w b vs _ t' k2,?_,?_,?_⟩),?_⟩
  ·rw[List.size_toArray,hsplen,Array.length_toList]
   exact k3
  ·rw[hnew,List.size_toArray,hsplen,Array.length_toList]
   exact hfit
  ·have hq:(vs.toList.take (n*i.size)++us++vs.toList.drop (n*i.size+us.length)).toArray.toList.take (cs++ys.flatMap acells).length=vs.toList.take cs.length++us:=by
    rw[List.toList_toArray,hnew,hc1]
    exact List.take_left' hA
   rw[hq]
   exact (k5.append hcy'.rep).mono hle
  ·rw[← hml]
   exact .vec (cap:=cap) (sz:=i.size) (b:=b) (by simp[Ghost.withVec]) (by simp[Ghost.withVec]) hroom
 ·have holds:∀ (j:Nat) (v:Value),(vs.toList.take (n*i.size))[j]? = some v→w.cell? ((⟨b,0,none⟩:Addr).add j)=some v:=fun j v ej=>by
   rw[List.getElem?_take] at ej
   split at ej
   ·rw[qcr]
    simp[World.cell?,k2]
    simpa using ej
   ·cases ej
  have hrun:=run_append_grow (P:=E.P) w t ty e i z htu hn hz ⟨b,0,none⟩ n cap (vs.toList.take (n*i.size)) htk holds ⟨yb,yo,none⟩ m cap' us hulm hur (by omega) (by omega) (growslice_fits (by omega) hby)
  have hge:n+m≤grownCap w (n+m) cap e:=grownCap_ge w (n+m) cap e
  have hsize:((vs.toList.take (n*i.size)).toArray++us.toArray++Builtin.zeroCells z.cells (grownCap w (n+m) cap e-(n+m))).size=grownCap w (n+m) cap e*i.size:=by
   simp only[Array.size_append,List.size_toArray,size_zeroCells,hzs]
   rw[htk,hulm,← Nat.add_mul,← Nat.add_mul]
   congr 1
   omega
  have hbig:w.heap.size≤w.drew.heap.size:=Nat.le_refl _
  refine⟨_,_,_,hrun,(Post.drew hi).trans (qpv hi.drew hobj (cs++ys.flatMap acells) w.heap.size (grownCap w (n+m) cap e) (n+ys.length) i.size _ (.inr (Nat.le_refl _)) (fun k hk _=>heap_alloc_old w.drew _ k hk) (by simp) rfl rfl rfl (fun q=>?_) (fun G' hle=>⟨_,e,heap_alloc_new w.drew _,hsize,?_,?_⟩)),?_⟩
  ·cases hx:G.fix w.heap.size q with
   | none=>rfl
   | some v=>exact absurd (hi.fix_lt (b:=w.heap.size) (o:=q) (by rw[hx];simp)) (Nat.lt_irrefl _)
  ·rw[hsize,hnew,hulm,← Nat.add_mul]
   exact Nat.mul_le_mul_right _ hge
  ·have hq:((vs.toList.take (n*i.size)).toArray++us.toArray++Builtin.zeroCells z.cells (grownCap w (n+m) cap e-(n+m))).toList.take (cs++ys.flatMap acells).length=vs.toList.take cs.length++us:=by
    rw[Array.toList_append,Array.toList_append,List.toList_toArray,List.toList_toArray,hnew,hc1]
    exact List.take_left' hA
   rw[hq]
   exact (k5.append hcy'.rep).mono hle
  ·rw[← hml]
   exact .vec (cap:=grownCap w (n+m) cap e) (sz:=i.size) (b:=w.heap.size) (by simp[Ghost.withVec]) (by simp[Ghost.withVec]) hge
theorem qiR (hi:Inv E G h w) {t e:TypeId} (ty:TypeId) {i:TypeInfo} {z:Value} (htu:E.P.underlying t=some (.slice e)) (hn:E.P.info? e=some i) (hz:i.zero=some z) (hzs:z.cells.size=i.size)
  (hs0:0<i.size) (hb0:0<i.bytes) (hb1:i.bytes≤2 ^ 12) {ax ay r:AVal} {x y:Value} (hx:Rep E G ax x) (hy:Rep E G ay y) {h':Heap} (hr:qbO h i.size i.bytes ax ay=some (r,h')) :
  ∃ v w' G',(Builtin.append_ #[t,t] ty #[x,y]).run E.P w=.ok v w'∧Post E G h w G' h' w'∧Rep E G' r v:=by
 unfold qbO at hr
 split at hr
 ·rename_i xs own ys own2
  cases hx with
  | @list _ _ A n cap sx vs hnl hcap hsz ha hl hrr ho =>
  cases hy with
  | @list _ _ A' m cap' sy us hml hcap' hsz' ha' hl' hrr' ho' =>
  have hcx:Cells E G xs A sx vs:=⟨hsz,ha,⟨hl,hrr⟩⟩
  have hcy:Cells E G ys A' sy us:=⟨hsz',ha',⟨hl',hrr'⟩⟩
  split at hr
  ·rename_i hys
   simp only[Option.some.injEq,Prod.mk.injEq] at hr
   obtain⟨hr1,hr2⟩:=hr
   subst hr1 hr2
   subst hys
   have hm0:m=0:=by rw[hml];rfl
   subst hm0
   refine⟨.slice A n cap,w,G,?_,Post.refl hi,.list sx vs hnl hcap hsz ha hl hrr ho⟩
   cases A with
   | none=>cases A'<;>simp[Builtin.append_,run_underlying htu,qbu hn,Builtin.lenOf,hcap,Builtin.firstCells,loadCells,loadCellsFrom]
   | some a=>cases A'<;>simp[Builtin.append_,run_underlying htu,qbu hn,Builtin.lenOf,hcap,Builtin.firstCells,loadCells,loadCellsFrom,storeCells]
  ·rename_i hys
   split at hr
   ·rename_i hc
    obtain⟨hc1,hc2,hc3⟩:=hc
    have hsx:∀ v∈xs,(acells v).length=i.size:=fun v hv=>by simpa using List.all_eq_true.1 hc1 v hv
    have hsy:∀ v∈ys,(acells v).length=i.size:=fun v hv=>by simpa using List.all_eq_true.1 hc2 v hv
    have hcx':Cells E G xs A i.size vs:=⟨hsx,ha,⟨hl,hrr⟩⟩
    have hcy':Cells E G ys A' i.size us:=⟨hsy,ha',⟨hl',hrr'⟩⟩
    obtain⟨yb,yo,rfl,hyf⟩:=ha' hys
    have hvl:=hcx'.length
    have hul:=hcy'.length
    have hm1:0<m:=by rw[hml];exact List.length_pos_iff.2 hys
    have hnm:n+m≤qfN:=by rw[hnl,hml];exact hc3
    have hnm':n+m≤1073741824:=hnm
    have hby:(n+m)*i.bytes≤140737488355328:=qjh hnm hb1
    have hur:=hcy'.read hi
    have hone:∀ v∈vs++us,v.oneCell'=true:=fun v hv=>by
     rcases List.mem_append.1 hv with h1 | h1
     ·exact hcx'.one hi v h1
     ·exact hcy'.one hi v h1
    have hlen:(vs++us).length=(n+m)*i.size:=by rw[List.length_append,hvl,hul,hnl,hml,Nat.add_mul]
    have grown:∀ (id:Nat) (h2:Heap),(∀ k o,h2[k]? = some o→(k=id∧o=.tail (n+m) i.size)∨(k≠id∧h[k]? = some o))→(∀ k,h2.length≤k→h.length≤k∧k≠id) →
      (∀ q,n+m≤q→G.tl id q=none)→∀ old,old<n+m →
      (Builtin.append_ #[t,t] ty #[.slice A n cap,.slice (some ⟨yb,yo,none⟩) m cap']).run E.P w =
       .ok (.slice (some ⟨w.heap.size,0,none⟩) (n+m) (grownCap w (n+m) old e)) (w.drew.alloc (.cells (vs.toArray++us.toArray++Builtin.zeroCells z.cells (grownCap w (n+m) old e-(n+m))) e)) →
      ∃ v w' G',(Builtin.append_ #[t,t] ty #[.slice A n cap,.slice (some ⟨yb,yo,none⟩) m cap']).run E.P w=.ok v w'∧Post E G h w G' h2 w'∧Rep E G' (.list (xs++ys) (some (some id))) v:=by
     intro id h2 hh hd hfr old hold hrun
     have hge:n+m≤grownCap w (n+m) old e:=grownCap_ge w (n+m) old e
     have hsize:(vs.toArray++us.toArray++Builtin.zeroCells z.cells (grownCap w (n+m) old e-(n+m))).size=grownCap w (n+m) old e*i.size:=by
      simp only[Array.size_append,List.size_toArray,size_zeroCells,hzs]
      rw[hvl,hul,← Nat.add_mul,← Nat.add_mul,← hnl,← hml]
      congr 1
      omega
     have hp:=qvz hi.drew id (n+m) i.size (grownCap w (n+m) old e) (vs++us) _ e (fun j v ej=>qsr (rest:=Builtin.zeroCells z.cells (grownCap w (n+m) old e-(n+m))) ej) hone hsize hlen hge h2 hh hd hfr
     refine⟨_,_,_,hrun,(Post.drew hi).trans hp,?_⟩
     have hcc:=Cells.append hp.le hcx' hcy' (b:=w.heap.size) (fun j v ej=>by simpa[Ghost.withTail,Ghost.withRow] using ej)
     exact .list i.size (vs++us) (by rw[List.length_append,hnl,hml]) hge hcc.size hcc.at_ hcc.rep.len hcc.rep.rep ⟨w.heap.size,rfl,by simp[Ghost.withTail]⟩
    split at hr
    ·-- the capacity is the length
     simp only[Option.some.injEq,Prod.mk.injEq] at hr
     obtain⟨hr1,hr2⟩:=hr
     subst hr1 hr2
     have hcn:cap=n:=ho
     refine grown h.length _ (fun k o ek=>?_) (fun k ek=>by simp at ek;omega) (fun q _=>(hi.dom _ (Nat.le_refl _)).2 q) n (by omega) ?_
     ·rcases qbk ek with ⟨hlt,ek'⟩ | ⟨rfl,rfl⟩
      ·exact .inr ⟨by omega,ek'⟩
      ·exact .inl ⟨rfl,by rw[hnl,hml]⟩
     ·cases A with
      | none =>
        have hxs:xs=[]:=Classical.byContradiction fun hx=>by
         obtain⟨b,o,hab,_⟩:=ha hx
         cases hab
        have hn0:n=0:=by rw[hnl,hxs];rfl
        have hvs:vs=[]:=List.eq_nil_of_length_eq_zero (by rw[hvl,hxs];simp)
        subst hn0 hvs hcn
        have hrun:=run_append_nil (P:=E.P) w t ty e i z htu hn hz ⟨yb,yo,none⟩ m cap' us (by rw[hul,hml]) hur hm1 (by omega) (by have:=hby;simp only[Nat.zero_add] at this;omega)
        simpa using hrun
      | some a =>
        subst hcn
        exact run_append_grow (P:=E.P) w t ty e i z htu hn hz a cap cap vs (by rw[hvl,← hnl]) (hcx'.read hi) ⟨yb,yo,none⟩ m cap' us (by rw[hul,hml]) hur (by omega) (by omega) (growslice_fits (by omega) hby)
    ·-- a list of the call's own
     rename_i id
     split at hr
     ·rename_i nt szt hobj
      split at hr
      ·rename_i hnn
       obtain⟨hnn,hss⟩:=hnn
       subst hss
       simp only[Option.some.injEq,Prod.mk.injEq] at hr
       obtain⟨hr1,hr2⟩:=hr
       subst hr1 hr2
       obtain⟨b,hA,htl⟩:=ho
       subst hA
       obtain⟨b',capt,cur,tt,k1,k2,k3,k4,k5,k6⟩:=hi.obj id _ hobj
       have hntn:nt=n:=by omega
       subst hntn
       rw[htl] at k1
       simp only[Option.some.injEq,Prod.mk.injEq] at k1
       obtain⟨rfl,rfl,hszz⟩:=k1
       subst hszz
       by_cases hroom:nt+m≤cap
       ·have hfit:nt*i.size+us.length≤cur.size:=by rw[hul,k3,← hml,← Nat.add_mul];exact Nat.mul_le_mul_right _ hroom
        have hrun:=qgc (P:=E.P) w t ty e i htu hn b nt cap cur tt k2 ⟨yb,yo,none⟩ m cap' us (by rw[hul,hml]) hur (fun u hu=>hone u (by simp[hu])) hroom hfit
        let G2:Ghost:={ fix:=fun b2 q=>if b2=b∧nt*i.size≤q then us[q-nt*i.size]? else G.fix b2 q,blk:=G.blk,tl:=fun i2 q=>if i2=id∧q=nt+m then some (b,cap,i.size) else G.tl i2 q }
        have hle:G.le G2:=by
         refine⟨fun b2 o v ev=>?_,fun _ _ ev=>ev,fun i2 q xq ev=>?_⟩
         ·have:¬ (b2=b∧nt*i.size≤o):=fun hx=>by
           obtain⟨rfl,hx2⟩:=hx
           rw[k5 o hx2] at ev;cases ev
          simpa[G2,this] using ev
         ·have:¬ (i2=id∧q=nt+m):=fun hx=>by
           obtain⟨rfl,rfl⟩:=hx
           rw[k6 (nt+m) (by omega)] at ev;cases ev
          simpa[G2,this] using ev
        have hnewcell:∀ q v,G2.fix b q=some v→(cur.toList.take (nt*i.size)++us++cur.toList.drop (nt*i.size+us.length))[q]? = some v:=by
         intro q v ev
         by_cases hq:nt*i.size≤q
         ·simp[G2,hq] at ev
          have hlt:=(List.getElem?_eq_some_iff.1 ev).1
          rw[List.append_assoc,List.getElem?_append_right (by simp;omega)]
          rw[show (List.take (nt*i.size) cur.toList).length=nt*i.size by simp;omega]
          rw[List.getElem?_append_left hlt]
          exact ev
         ·simp[G2,hq] at ev
          have hcl:=hi.fix b q v ev
          simp[World.cell?,k2] at hcl
          rw[List.append_assoc,List.getElem?_append_left (by simp;omega),List.getElem?_take,if_pos (by omega)]
          simpa using hcl
        have hp:Post E G h w G2 (h.set id (.tail (xs.length+ys.length) i.size)) (w.setRow b (cur.toList.take (nt*i.size)++us++cur.toList.drop (nt*i.size+us.length)).toArray):=by
         refine qfh hi hobj (b:=b) ⟨cap,htl⟩ G2 _ hle rfl (fun i2 hne q=>by simp[G2,hne]) (fun b2 hne q=>by simp[G2,hne]) (fun q v ev=>?_) (fun q v ev=>?_) (fun k hk=>qiF w b k _ hk) (qfW w b _) rfl rfl rfl
          (fun q hq=>?_) (fun b2 hw=>?_) ?_ (fun _ cs0 t0 fz0 e0=>⟨_,_,_,qdB w b cur _ tt k2,by
           rw[k2] at e0
           injection e0 with e0
           injection e0 with e0 _ _
           rw[← e0,List.size_toArray,qcA cur.toList _ us (by simpa using hfit),Array.length_toList]⟩)
         ·simp[World.cell?,qdB w b cur _ tt k2]
          simpa using hnewcell q v ev
         ·by_cases hq:nt*i.size≤q
          ·simp[G2,hq] at ev
           exact hone v (by simp[List.mem_of_getElem? ev])
          ·simp[G2,hq] at ev
           exact hi.one b q v ev
         ·have:=(List.getElem?_eq_some_iff.1 hobj).1
          omega
         ·obtain⟨cap2,e2⟩:=hw
          simp[G2,hnl,hml] at e2
          exact e2.1.symm
         ·refine⟨b,cap,_,tt,by simp[G2,hnl,hml],qdB w b cur _ tt k2,?_,by omega,fun q hq=>?_,fun q hq=>?_⟩
          ·simp only[List.size_toArray]
           rw[qcA cur.toList _ us (by simpa using hfit)]
           simpa using k3
          ·have hqq:nt*i.size≤q:=by
            refine Nat.le_trans (Nat.mul_le_mul_right _ ?_) hq
            omega
           simp[G2,hqq]
           rw[hul,← hml]
           rw[← hnl,← hml,Nat.add_mul] at hq
           omega
          ·have:¬ (q=nt+m):=by omega
           simp[G2,this]
           exact k6 q (by omega)
        refine⟨_,_,G2,hrun,hp,?_⟩
        have hcc:=Cells.append hle hcx' hcy' (b:=b) (fun j v ej=>by
         by_cases hj:nt*i.size≤j
         ·rw[List.getElem?_append_right (by rw[hvl,← hnl];exact hj),hvl,← hnl] at ej
          simpa[G2,hj] using ej
         ·rw[List.getElem?_append_left (by rw[hvl,← hnl];omega)] at ej
          have hne:xs≠[]:=fun hx=>by
           rw[hx] at hvl;simp at hvl;rw[hvl] at ej;simp at ej
          obtain⟨b2,o2,hb2,hf2⟩:=ha hne
          injection hb2 with hb2
          injection hb2 with hb3 hb4
          subst hb3 hb4
          have:=hf2 j v ej
          simp only[Nat.zero_add] at this
          simpa[G2,hj] using this)
        exact .list i.size (vs++us) (by rw[List.length_append,hnl,hml]) hroom hcc.size hcc.at_ hcc.rep.len hcc.rep.rep ⟨b,rfl,by simp[G2]⟩
       ·refine grown id _ (fun k o ek=>?_) (fun k ek=>?_) (fun q hq=>k6 q (by omega)) cap (by omega) ?_
        ·rcases qgr ek with ⟨hne,ek'⟩ | ⟨rfl,rfl,_⟩
         ·exact .inr ⟨hne,ek'⟩
         ·exact .inl ⟨rfl,by rw[hnl,hml]⟩
        ·rw[List.length_set] at ek
         have:=(List.getElem?_eq_some_iff.1 hobj).1
         exact⟨ek,by omega⟩
        ·exact run_append_grow (P:=E.P) w t ty e i z htu hn hz ⟨b,0,none⟩ nt cap vs (by rw[hvl,← hnl]) (hcx'.read hi) ⟨yb,yo,none⟩ m cap' us (by rw[hul,hml]) hur (by omega) (by omega) (growslice_fits (by omega) hby)
      ·cases hr
     ·cases hr
    ·cases hr
   ·cases hr
 ·exact qnn hi ty htu hn hz hzs hs0 hb0 hb1 hx hy hr
 ·cases hr
theorem qqi (hi:Inv E G h w) {t e:TypeId} (ty:TypeId) {i:TypeInfo} {z:Value} (htu:E.P.underlying t=some (.slice e)) (hn:E.P.info? e=some i) (hz:i.zero=some z) (hzs:z.cells.size=i.size)
  (hs0:0<i.size) (hb0:0<i.bytes) (hb1:i.bytes≤2 ^ 12) {ax ay r:AVal} {x y:Value} (hx:Rep E G ax x) (hy:Rep E G ay y) {h':Heap} (hr:qd2 h i.size ax ay=some (r,h')) :
  ∃ v w' G',(Builtin.append_ #[t,t] ty #[x,y]).run E.P w=.ok v w'∧Post E G h w G' h' w'∧Rep E G' r v:=by
 unfold qd2 at hr
 split at hr
 case h_2=>exact qiR hi ty htu hn hz hzs hs0 hb0 hb1 hx hy hr
 rename_i ys own2
 split at hr
 ·rename_i hys
  subst hys
  simp only[Option.some.injEq,Prod.mk.injEq] at hr
  obtain⟨rfl,rfl⟩:=hr
  exact qiR hi ty htu hn hz hzs hs0 hb0 hb1 hx hy (by unfold qbO;simp)
 rename_i hys
 split at hr
 case isFalse=>cases hr
 rename_i hc
 obtain⟨hc2,hc3⟩:=hc
 simp only[Option.some.injEq,Prod.mk.injEq] at hr
 obtain⟨rfl,rfl⟩:=hr
 cases hx with
 | @list _ _ A n cap sx vs hnl hcap hsz ha hl hrr ho =>
 cases hy with
 | @list _ _ A' m cap' sy us hml hcap' hsz' ha' hl' hrr' ho' =>
 have hcn:cap=n:=ho
 have hn0:n=0:=hnl
 subst hcn hn0
 have hsy:∀ v∈ys,(acells v).length=i.size:=fun v hv=>by simpa using List.all_eq_true.1 hc2 v hv
 have hcy':Cells E G ys A' i.size us:=⟨hsy,ha',⟨hl',hrr'⟩⟩
 obtain⟨yb,yo,rfl,hyf⟩:=ha' hys
 have hul:=hcy'.length
 have hm1:0<m:=by rw[hml];exact List.length_pos_iff.2 hys
 have hm2:m≤1073741824:=by rw[hml];exact hc3
 have hby:m*i.bytes≤140737488355328:=qjh (by rw[hml];exact hc3) hb1
 have hur:=hcy'.read hi
 have hvs:vs=[]:=List.eq_nil_of_length_eq_zero (by rw[hl];rfl)
 subst hvs
 have fin:∀ v w1 cap2 (cells:Array Value),v=Value.slice (some ⟨w.heap.size,0,none⟩) m cap2→w1=w.drew.alloc (.cells cells e)→m≤cap2→cells.size=cap2*i.size→(∀ (j:Nat) (u:Value),us[j]? = some u→cells[j]? = some u) →
   ∃ G',Post E G h w G' (h++[.vec (ys.flatMap acells) i.size]) w1∧Rep E G' (.vec h.length ys.length) v:=by
  intro v w1 cap2 cells hv hw1 hge hcs hcu
  subst hv hw1
  rw[← hml]
  refine⟨_,(Post.drew hi).trans (qjG hi.drew _ cells e cap2 m i.size hcs ?_ ?_),.vec (cap:=cap2) (sz:=i.size) (b:=w.heap.size) (by simp[Ghost.withVec]) (by simp[Ghost.withVec]) hge⟩
  ·rw[hcs,hcy'.rep.len.symm,hul,← hml]
   exact Nat.mul_le_mul_right _ hge
  ·have hlc:(ys.flatMap acells).length=us.length:=hcy'.rep.len.symm
   refine⟨?_,fun j c u e1 e2=>hcy'.rep.rep j c u e1 ?_⟩
   ·simp only[List.length_take,Array.length_toList]
    rw[hcs,hlc,hul,← hml]
    have:=Nat.mul_le_mul_right i.size hge
    omega
   ·rw[List.getElem?_take] at e2
    split at e2
    ·rename_i hj
     rw[hlc] at hj
     have h9:=hcu j us[j] (List.getElem?_eq_getElem hj)
     rw[Array.getElem?_toList,h9] at e2
     rw[List.getElem?_eq_getElem hj,e2]
    ·cases e2
 have hge:m≤grownCap w m 0 e:=grownCap_ge w m 0 e
 have hcsz:us.length+(grownCap w m 0 e-m)*i.size=grownCap w m 0 e*i.size:=by
  rw[hul,← hml,← Nat.add_mul]
  congr 1
  omega
 have hsz:(us.toArray++Builtin.zeroCells z.cells (grownCap w m 0 e-m)).size=grownCap w m 0 e*i.size:=by
  simp only[Array.size_append,List.size_toArray,size_zeroCells,hzs]
  exact hcsz
 have hget:∀ (j:Nat) (u:Value),us[j]? = some u→(us.toArray++Builtin.zeroCells z.cells (grownCap w m 0 e-m))[j]? = some u:=fun j u ej=>by
  rw[Array.getElem?_append_left (by simpa using (List.getElem?_eq_some_iff.1 ej).1)]
  simpa using ej
 obtain⟨G',hp,hrep⟩:=fin _ _ (grownCap w m 0 e) _ rfl rfl hge hsz hget
 cases A with
 | none =>
   have hrun:=run_append_nil (P:=E.P) w t ty e i z htu hn hz ⟨yb,yo,none⟩ m cap' us (by rw[hul,hml]) hur hm1 (by omega) (by omega)
   exact⟨_,_,G',hrun,hp,hrep⟩
 | some a =>
   have hrun:=run_append_grow (P:=E.P) w t ty e i z htu hn hz a 0 0 [] (by simp) (fun j v e=>by simp at e) ⟨yb,yo,none⟩ m cap' us (by rw[hul,hml]) hur (by omega) (by omega) (growslice_fits (by omega) (by simpa using hby))
   exact⟨_,_,G',by simpa using hrun,hp,hrep⟩
end Go.Abs
