/-
  PARTS OF A PROOF, joined: an abstract machine for quiet code, its evaluation, and what the seat's functions answer on it. Conditions: none.
-/
import Derived.Test.YtpchghpipgpkfaaDoorCC
set_option linter.unusedVariables false
set_option linter.unusedSimpArgs false
namespace Go.Abs
def qbJ {α σ ε:Type} (step:Nat→σ→α→Except ε σ):List α→Nat→σ→Except ε σ
 | [],_,s=>.ok s
 | x::xs,i,s=>match step i s x with | .ok s'=>qbJ step xs (i+1) s' | .error e=>.error e
theorem qcD {pure:Nat→Bool} {call:CallT} {b:Nat} {keep fk:List Nat} {id:Nat} {body:ACode} {α σ ε:Type} (xs:List α) (step:Nat→σ→α→Except ε σ) (C:σ→Nat→St) (T:σ→St) (Ret:ε→St→Prop) (Inv:σ→Nat→Prop) (s0:σ) (hI:Inv s0 0)
  (h0:∀ (i:Nat) (hi:i<xs.length) (s s':σ),Inv s i→step i s xs[i]=.ok s'→qbc pure call b keep fk body (C s i)=some (.normal,C s' (i+1))∧Inv s' (i+1))
  (h1:∀ (i:Nat) (hi:i<xs.length) (s:σ) (e:ε),Inv s i→step i s xs[i]=.error e→∃ R,Ret e R∧qbc pure call b keep fk body (C s i)=some (.ret,R))
  (hend:∀ s,Inv s xs.length→qbc pure call b keep fk body (C s xs.length)=some (.exit id,T s)) :
  (∀ s,qbJ step xs 0 s0=.ok s→Inv s xs.length∧qba pure call b keep fk id body (C s0 0)=some (.normal,T s)) ∧
  (∀ e,qbJ step xs 0 s0=.error e→∃ R,Ret e R∧qba pure call b keep fk id body (C s0 0)=some (.ret,R)):=by
 have key:∀ k i s,i+k=xs.length→Inv s i →
   match qbJ step (xs.drop i) i s with
   | .ok s'=>Inv s' xs.length∧qba pure call b keep fk id body (C s i)=some (.normal,T s')
   | .error e=>∃ R,Ret e R∧qba pure call b keep fk id body (C s i)=some (.ret,R):=by
  intro k
  induction k with
  | zero =>
    intro i s hi hs
    rw[Nat.add_zero] at hi
    subst hi
    rw[List.drop_length]
    exact⟨hs,qej (hend s hs)⟩
  | succ k ih =>
    intro i s hi hs
    have hlt:i<xs.length:=by omega
    rw[List.drop_eq_getElem_cons hlt,qbJ]
    cases hq:step i s xs[i] with
    | ok s' =>
      obtain⟨h2,h3⟩:=h0 i hlt s s' hs hq
      rw[qfa h2]
      exact ih (i+1) s' (by omega) h3
    | error e =>
      obtain⟨R,h2,h3⟩:=h1 i hlt s e hs hq
      exact⟨R,h2,qld h3⟩
 have:=key xs.length 0 s0 (by omega) hI
 rw[List.drop_zero] at this
 exact⟨fun s hs=>by rw[hs] at this;exact this,fun e he=>by rw[he] at this;exact this⟩
theorem qkZ {α σ ε:Type} (step:σ→α→σ):∀ (xs:List α) (i:Nat) (s:σ),qbJ (fun _ s x=>(.ok (step s x):Except ε σ)) xs i s=.ok (xs.foldl step s)
 | [],_,_=>rfl
 | x::xs,i,s=>by rw[qbJ];exact qkZ step xs (i+1) _
theorem qek {pure:Nat→Bool} {call:CallT} {b:Nat} {keep fk:List Nat} {id:Nat} {body:ACode} {α σ:Type} (xs:List α) (step:σ→α→σ) (C:σ→Nat→St) (T:σ→St) (Inv:σ→Nat→Prop) (s0:σ) (hI:Inv s0 0)
  (h0:∀ (i:Nat) (hi:i<xs.length) (s:σ),Inv s i→qbc pure call b keep fk body (C s i)=some (.normal,C (step s xs[i]) (i+1))∧Inv (step s xs[i]) (i+1))
  (hend:∀ s,Inv s xs.length→qbc pure call b keep fk body (C s xs.length)=some (.exit id,T s)) :
  Inv (xs.foldl step s0) xs.length∧qba pure call b keep fk id body (C s0 0)=some (.normal,T (xs.foldl step s0)):=by
 have:=qcD (pure:=pure) (call:=call) (b:=b) (keep:=keep) (fk:=fk) (id:=id) (body:=body) (ε:=Unit) xs (fun _ s x=>.ok (step s x)) C T (fun _ _=>False) Inv s0 hI
  (by
   intro i hi s s' hs hq
   injection hq with hq
   subst hq
   exact h0 i hi s hs)
  (by intro i hi s e _ hq;cases hq) hend
 exact this.1 _ (qkZ step xs 0 s0)
theorem qBJ {keep:List Nat} {l:List Step} {needs:List (List Nat)} {s:St} {r:AExit × St} (hne:qn4 l needs≠[]) (h:∀ σ∈qn4 l needs,(qcq (fun _=>false) qfd σ s).map (gcE s.h.length keep)=some r):qwH keep l needs s=some r:=by
 unfold qwH
 have he:∃ r,∀ σ∈qn4 l needs,(qcq (fun _=>false) qfd σ s).map (gcE s.h.length keep)=some r:=⟨r,h⟩
 rw[dif_pos he]
 obtain⟨σ,hσ⟩:=List.exists_mem_of_ne_nil _ hne
 have h1:=Classical.choose_spec he σ hσ
 rw[h σ hσ] at h1
 injection h1 with h1
 rw[h1]
end Go.Abs
set_option maxRecDepth 100000
set_option maxHeartbeats 4000000
namespace Go.Abs
abbrev DP:=List Int × List Int
def qc4 (i:Nat) (k:Int) (dp:DP):DP:=(dp.1.set i (max (dp.1.getD i 0) (dp.1.getD k.toNat 0)),dp.2.set k.toNat (dp.2.getD k.toNat 0+1))
def qsZ (i:Nat) (_:Nat) (dp:DP) (k:Int):Except Unit DP:=if k<0∨(i:Int)≤k then .error () else .ok (qc4 i k dp)
def qln (i:Nat) (dp:DP) (x:CExpr):Except Unit DP :=
 match qbJ (qsZ i) x.kids 0 dp with
 | .error e=>.error e
 | .ok dp=>.ok (dp.1.set i (dp.1.getD i 0+1),dp.2)
def qjj (e:List CExpr):Except Unit DP:=qbJ qln e 0 (List.replicate e.length 0,List.replicate e.length 0)
def qf4 (n:Nat) (i:Nat) (p:Int):Bool:=(p==1) != decide ((i:Int)<(n:Int)-1)
def qeU (e:List CExpr):Int :=
 if (4096:Int)<e.length then 2 else if e.length=0 then 3 else
 match qjj e with
 | .error _=>3
 | .ok dp=>if (qaE (fun i p=>if qf4 e.length i p=true then some () else none) dp.2 0).isSome=true then 3 else if 400<dp.1.getD (e.length-1) 0 then 2 else 0
def Bd (c:Int) (l:List Int):Prop:=∀ x∈l,0≤x∧x≤c
theorem Bd.get {c:Int} {l:List Int} (h:Bd c l) (hc:0≤c) (i:Nat):0≤l.getD i 0∧l.getD i 0≤c:=by
 rw[List.getD_eq_getElem?_getD]
 cases hq:l[i]? with
 | none=>exact⟨by simp,by simpa using hc⟩
 | some x=>exact h x (List.mem_of_getElem? hq)
theorem Bd.set {c:Int} {l:List Int} (h:Bd c l) (i:Nat) (v:Int) (hv:0≤v∧v≤c):Bd c (l.set i v):=by
 intro x hx
 rcases List.mem_or_eq_of_mem_set hx with hx | rfl
 ·exact h x hx
 ·exact hv
theorem Bd.mono {c d:Int} {l:List Int} (h:Bd c l) (hcd:c≤d):Bd d l:=fun x hx=>⟨(h x hx).1,by have:=(h x hx).2;omega⟩
theorem Bd.zeros (n:Nat):Bd 0 (List.replicate n 0):=by
 intro x hx
 have:=List.eq_of_mem_replicate hx
 omega
structure DPok (n:Nat) (d c:Int) (dp:DP):Prop where
 l1:dp.1.length=n
 l2:dp.2.length=n
 b1:Bd d dp.1
 b2:Bd c dp.2
theorem DPok.kid {n:Nat} {d c:Int} {dp:DP} (h:DPok n d c dp) (hd:0≤d) (hc:0≤c) (i:Nat) (k:Int):DPok n d (c+1) (qc4 i k dp) :=
 ⟨by simp[qc4,h.l1],by simp[qc4,h.l2],by
  have h1:=h.b1.get hd i
  have h2:=h.b1.get hd k.toNat
  exact h.b1.set _ _ (by omega),by
  have h1:=h.b2.get hc k.toNat
  exact (h.b2.mono (by omega)).set _ _ (by omega)⟩
section
variable {L:Lib} (hL:Plain L)
def qob (e:List CExpr) (i:Nat) (x:CExpr) (s:DP) (j:Nat):St:=⟨kt [0,3,4,5,23,24,25,31,32,33] [.list (e.map qam) none,.vec 0 e.length,.vec 1 e.length,.int .i64 i,.list (e.map qam) none,.int .i64 e.length,.int .i64 i,.list (x.kids.map qav) none,.int .i64 x.kids.length,.int .i64 j],
 [.vec (s.1.map qav) 1,.vec (s.2.map qav) 1,.box [.int .i64 x.op,.int .i64 x.n,.list (x.binds.map qav) none,.list (x.kids.map qav) none,.list (x.alts.map qas) none]]⟩
def qoc (e:List CExpr) (i:Nat) (x:CExpr) (v:AVal) (s:DP):St:=⟨kt [0,2,3,4,5,23,24,25] [.list (e.map qam) none,v,.vec 0 e.length,.vec 1 e.length,.int .i64 i,.list (e.map qam) none,.int .i64 e.length,.int .i64 i],
 [.vec (s.1.map qav) 1,.vec (s.2.map qav) 1,.box [.int .i64 x.op,.int .i64 x.n,.list (x.binds.map qav) none,.list (x.kids.map qav) none,.list (x.alts.map qas) none]]⟩
theorem qwi (e:List CExpr) (i:Nat) (hi:i<e.length) (x:CExpr) (hk:x.kids.length<2 ^ 30) (dp:DP) (d c:Int) (hd:0≤d) (hd2:d<2 ^ 62) (hc:0≤c) (hc2:c+2 ^ 30<2 ^ 62) (hok:DPok e.length d c dp) :
  (∀ s,qbJ (qsZ i) x.kids 0 dp=.ok s→DPok e.length d (c+x.kids.length) s∧qba L.pure (call L) 3 [0,3,4,5,23,24,25,31,32,33] [0,2,3,4,5,23,24,25] 2 qfE (qob e i x dp 0)=some (.normal,qoc e i x .junk s)) ∧
  (∀ r,qbJ (qsZ i) x.kids 0 dp=.error r→∃ R,(∃ s:DP,R=qoc e i x (.int .i64 3) s)∧qba L.pure (call L) 3 [0,3,4,5,23,24,25,31,32,33] [0,2,3,4,5,23,24,25] 2 qfE (qob e i x dp 0)=some (.ret,R)):=by
 have hdE:=qaI e
 refine qcD x.kids (qsZ i) (qob e i x) (qoc e i x .junk) (fun _ R=>∃ s:DP,R=qoc e i x (.int .i64 3) s) (fun s j=>DPok e.length d (c+(j:Nat)) s) dp (by simpa using hok) ?_ ?_ ?_
 ·intro j hj s s' hs hq
  obtain⟨h1,h2,h3⟩:=qaN qav x.kids hk j hj
  unfold qsZ at hq
  split at hq
  ·cases hq
  ·rename_i hb
   injection hq with hq
   subst hq
   refine⟨?_,by have:=hs.kid hd (by omega) i x.kids[j];rw[show c+((j+1:Nat):Int)=c+(j:Nat)+1 by omega];exact this⟩
   generalize x.kids[j]=k at *
   obtain⟨m,rfl⟩:∃ m:Nat,k=m:=⟨k.toNat,by omega⟩
   have b1:¬ ((m:Int)<0):=by omega
   have b2:¬ ((i:Int)≤m):=by omega
   have hm:m<e.length:=by omega
   have b3:((m:Int)<e.length):=by omega
   have b4:((i:Int)<e.length):=by omega
   have g1:=qBz s.2 m (by rw[hs.l2];exact hm)
   have g2:=qBz s.1 i (by rw[hs.l1];exact hi)
   have g3:=qBz s.1 m (by rw[hs.l1];exact hm)
   have bb:=hs.b2.get (by omega) m
   have w1:IntKind.i64.wrap (s.2.getD m 0+1)=s.2.getD m 0+1:=qcy (by omega) (by omega)
   have hmx:=qhc (s.1.getD i 0) (s.1.getD m 0)
   have p1:=qCB qav s.2 m (s.2.getD m 0+1) (by rw[hs.l2];exact hm)
   have p2:=qCB qav s.1 i (max (s.1.getD i 0) (s.1.getD m 0)) (by rw[hs.l1];exact hi)
   have l1:m+1≤s.2.length:=by rw[hs.l2];omega
   have l2:i+1≤s.1.length:=by rw[hs.l1];omega
   simp only[qav] at p1 p2
   unfold qfE qc4 qob
   simp -implicitDefEqProofs only[ev_,aOp,opd,qaa,qay,qaB,qaA,qad,qab,qaf,qag,qaT,leaf,qat,qaC,ren,renC,qa9,qbq,qaz,↓reduceIte,reduceCtorEq,Nat.reduceEqDiff,Nat.reduceAdd,Nat.reduceLT,Nat.reduceLeDiff,ge_iff_le,qa1,qah,qap,qbA,qcs,qb9,qct,qcc,Nat.mul_one,h1,h2,h3,b1,b2,b3,b4,g1,g2,g3,w1,hmx,p1,p2,l1,l2,hdE]
 ·intro j hj s er hs hq
  obtain⟨h1,h2,h3⟩:=qaN qav x.kids hk j hj
  unfold qsZ at hq
  split at hq
  ·rename_i hb
   refine⟨_,⟨s,rfl⟩,?_⟩
   generalize x.kids[j]=k at *
   by_cases b1:k<0
   ·unfold qfE qob qoc
    simp -implicitDefEqProofs only[ev_,aOp,opd,qaa,qaB,qaA,qad,qab,qaf,qag,gcE,qaC,ren,renC,qa9,qbq,↓reduceIte,reduceCtorEq,Nat.reduceEqDiff,Nat.reduceAdd,Nat.reduceLT,Nat.reduceLeDiff,qa1,qah,qap,qbA,qcs,qb9,qct,qcc,h1,h2,h3,b1,hdE]
   ·have b2:(i:Int)≤k:=by omega
    unfold qfE qob qoc
    simp -implicitDefEqProofs only[ev_,aOp,opd,qaa,qaB,qaA,qad,qab,qaf,qag,gcE,qaC,ren,renC,qa9,qbq,↓reduceIte,reduceCtorEq,Nat.reduceEqDiff,Nat.reduceAdd,Nat.reduceLT,Nat.reduceLeDiff,ge_iff_le,qa1,qah,qap,qbA,qcs,qb9,qct,qcc,h1,h2,h3,b1,b2,hdE]
  ·cases hq
 ·intro s hs
  have h0:=qaQ x.kids.length
  unfold qfE qob qoc
  simp -implicitDefEqProofs only[ev_,aOp,opd,qaa,qaB,qaA,qab,gcE,qaC,ren,renC,qa9,qbq,↓reduceIte,reduceCtorEq,Nat.reduceEqDiff,Nat.reduceAdd,Nat.reduceLT,Nat.reduceLeDiff,qah,qap,qbA,qcs,qb9,qct,qcc,h0,hdE]
def qpT (e:List CExpr) (s:DP) (i:Nat):St:=⟨kt [0,3,4,23,24,25] [.list (e.map qam) none,.vec 0 e.length,.vec 1 e.length,.list (e.map qam) none,.int .i64 e.length,.int .i64 i],[.vec (s.1.map qav) 1,.vec (s.2.map qav) 1]⟩
def qpU (e:List CExpr) (v:AVal) (s:DP):St:=⟨kt [0,2,3,4] [.list (e.map qam) none,v,.vec 0 e.length,.vec 1 e.length],[.vec (s.1.map qav) 1,.vec (s.2.map qav) 1]⟩
theorem qA4 (e:List CExpr) (he:e.length≤4096) (hf:∀ x∈e,NodeFit x) :
  (∀ s,qjj e=.ok s→DPok e.length e.length (e.length*2 ^ 30) s∧qba L.pure (call L) 2 [0,3,4,23,24,25] [0,2,3,4] 0 qgZ (qpT e (List.replicate e.length 0,List.replicate e.length 0) 0)=some (.normal,qpU e .junk s)) ∧
  (∀ r,qjj e=.error r→∃ R,(∃ s:DP,R=qpU e (.int .i64 3) s)∧qba L.pure (call L) 2 [0,3,4,23,24,25] [0,2,3,4] 0 qgZ (qpT e (List.replicate e.length 0,List.replicate e.length 0) 0)=some (.ret,R)):=by
 have hdE:=qaI e
 refine qcD e qln (qpT e) (qpU e .junk) (fun _ R=>∃ s:DP,R=qpU e (.int .i64 3) s) (fun s i=>DPok e.length i (i*2 ^ 30) s) _ ?_ ?_ ?_ ?_
 ·exact⟨by simp,by simp,Bd.zeros _,Bd.zeros _⟩
 ·intro i hi s s' hs hq
  obtain⟨h1,h2,h3⟩:=qaN qam e (by omega) i hi
  have hx:=hf e[i] (List.getElem_mem hi)
  obtain⟨hl,_⟩:=qwi (L:=L) e i hi e[i] hx.kids s i (i*2 ^ 30) (by omega) (by omega) (by omega) (by omega) hs
  generalize e[i]=x at *
  unfold qln at hq
  cases hr:qbJ (qsZ i) x.kids 0 s with
  | error _=>rw[hr] at hq;cases hq
  | ok t =>
    rw[hr] at hq
    injection hq with hq
    subst hq
    obtain⟨ht,hl⟩:=hl t hr
    have hgt:=ht.b1.get (by omega) i
    have hlen:=hx.kids
    refine⟨?_,⟨by simp[ht.l1],ht.l2,(ht.b1.mono (by omega)).set _ _ (by omega),ht.b2.mono (by omega)⟩⟩
    have g2:=qBz t.1 i (by rw[ht.l1];exact hi)
    have w1:IntKind.i64.wrap (t.1.getD i 0+1)=t.1.getD i 0+1:=qcy (by omega) (by omega)
    have p2:=qCB qav t.1 i (t.1.getD i 0+1) (by rw[ht.l1];exact hi)
    have l2:i+1≤t.1.length:=by rw[ht.l1];omega
    simp only[qav] at p2
    unfold qob qoc at hl
    simp only[Int.natCast_zero] at hl
    unfold qgZ qpT
    simp -implicitDefEqProofs only[ev_,aOp,opd,qaa,qay,qaB,qbd,qaA,qad,qab,qag,qaT,qaS,qai,leaf,qat,qaC,ren,renC,qa9,qbq,↓reduceIte,reduceCtorEq,Nat.reduceEqDiff,Nat.reduceAdd,Nat.reduceLT,Nat.reduceLeDiff,qa5,qah,qap,qbA,qcs,qb9,qct,qcc,Nat.mul_one,h1,h2,h3,g2,w1,p2,l2,hl,hdE]
 ·intro i hi s r hs hq
  obtain⟨h1,h2,h3⟩:=qaN qam e (by omega) i hi
  have hx:=hf e[i] (List.getElem_mem hi)
  obtain⟨_,hl⟩:=qwi (L:=L) e i hi e[i] hx.kids s i (i*2 ^ 30) (by omega) (by omega) (by omega) (by omega) hs
  generalize e[i]=x at *
  unfold qln at hq
  cases hr:qbJ (qsZ i) x.kids 0 s with
  | ok t=>rw[hr] at hq;cases hq
  | error u =>
    obtain⟨R,⟨t,rfl⟩,hl⟩:=hl u hr
    refine⟨_,⟨t,rfl⟩,?_⟩
    unfold qob qoc at hl
    simp only[Int.natCast_zero] at hl
    unfold qgZ qpT qpU
    simp -implicitDefEqProofs only[ev_,aOp,opd,qaa,qay,qaB,qbd,qaA,qad,qab,qag,qaT,qaS,qai,leaf,qat,gcE,qaC,ren,renC,qa9,qbq,↓reduceIte,reduceCtorEq,Nat.reduceEqDiff,Nat.reduceAdd,Nat.reduceLT,Nat.reduceLeDiff,qa5,qah,qap,qbA,qcs,qb9,qct,qcc,h1,h2,h3,hl,hdE]
 ·intro s hs
  have h0:=qaQ e.length
  unfold qgZ qpT qpU
  simp -implicitDefEqProofs only[ev_,aOp,opd,qaa,qaB,qaA,qab,gcE,qaC,ren,renC,qa9,qbq,↓reduceIte,reduceCtorEq,Nat.reduceEqDiff,Nat.reduceAdd,Nat.reduceLT,Nat.reduceLeDiff,qbA,qcs,qb9,qct,qcc,h0,hdE]
theorem qA5 (e:List CExpr) (he:e.length≤4096) (s:DP) (hs:s.2.length=e.length) :
  qba L.pure (call L) 2 [0,3,70,71,72] [0,2,3] 4 qig ⟨kt [0,3,70,71,72] [.list (e.map qam) none,.vec 0 e.length,.vec 1 e.length,.int .i64 e.length,.int .i64 ((0:Nat):Int)],[.vec (s.1.map qav) 1,.vec (s.2.map qav) 1]⟩ =
  some (qbh (fun _=>⟨kt [0,2,3] [.list (e.map qam) none,.int .i64 3,.vec 0 e.length],[.vec (s.1.map qav) 1,.vec (s.2.map qav) 1]⟩) ⟨kt [0,2,3] [.list (e.map qam) none,.junk,.vec 0 e.length],[.vec (s.1.map qav) 1,.vec (s.2.map qav) 1]⟩
   (qaE (fun i p=>if qf4 e.length i p=true then some () else none) s.2 0)):=by
 have hdE:=qaI e
 have hround:∀ (i:Nat) (hi:i<s.2.length),qbc L.pure (call L) 2 [0,3,70,71,72] [0,2,3] qig ⟨kt [0,3,70,71,72] [.list (e.map qam) none,.vec 0 e.length,.vec 1 e.length,.int .i64 e.length,.int .i64 i],[.vec (s.1.map qav) 1,.vec (s.2.map qav) 1]⟩ =
   some (if qf4 e.length i s.2[i]=true then (.ret,⟨kt [0,2,3] [.list (e.map qam) none,.int .i64 3,.vec 0 e.length],[.vec (s.1.map qav) 1,.vec (s.2.map qav) 1]⟩) else
    (.normal,⟨kt [0,3,70,71,72] [.list (e.map qam) none,.vec 0 e.length,.vec 1 e.length,.int .i64 e.length,.int .i64 ((i+1:Nat):Int)],[.vec (s.1.map qav) 1,.vec (s.2.map qav) 1]⟩)):=by
  intro i hi
  obtain⟨h1,h2,h3⟩:=qaN qav s.2 (by omega) i hi
  rw[hs] at h1
  have w:IntKind.i64.wrap ((e.length:Int)-1)=(e.length:Int)-1:=qcy (by omega) (by omega)
  have hge:s.2.getD i 0=s.2[i]:=by simp[hi]
  generalize s.2[i]=p at *
  unfold qf4
  by_cases hlt:(i:Int)<(e.length:Int)-1<;>cases h5:(p==1)<;>unfold qig<;>simp -implicitDefEqProofs only[ev_,aOp,opd,qaa,qaB,qbd,qaA,aEq,qad,qab,qag,gcE,qaC,ren,renC,qa9,qbq,↓reduceIte,reduceCtorEq,Nat.reduceEqDiff,Nat.reduceAdd,Nat.reduceLT,Nat.reduceLeDiff,qa1,qbA,qcs,qb9,qct,qcc,Nat.mul_one,h1,h2,h3,w,hlt,h5,hdE,bne]
 refine qb6 s.2 (fun i p=>if qf4 e.length i p=true then some () else none) (fun i=>⟨kt [0,3,70,71,72] [.list (e.map qam) none,.vec 0 e.length,.vec 1 e.length,.int .i64 e.length,.int .i64 i],_⟩) _ _ ?_ ?_ ?_
 ·intro i hi hq
  rw[hround i hi,if_neg]
  intro hx
  simp[hx] at hq
 ·intro i hi r hq
  cases hx:qf4 e.length i s.2[i] with
  | false=>simp[hx] at hq
  | true=>rw[hround i hi,if_pos hx]
 ·have h0:=qaQ e.length
  rw[hs]
  unfold qig
  simp -implicitDefEqProofs only[ev_,aOp,opd,qaa,qaB,qaA,qab,gcE,qaC,ren,renC,qa9,qbq,↓reduceIte,reduceCtorEq,Nat.reduceEqDiff,Nat.reduceAdd,Nat.reduceLT,Nat.reduceLeDiff,qbA,qcs,qb9,qct,qcc,h0,hdE]
theorem qlR:qja [[],[0],[1,1],[],[3],[4,4],[2,0,1,2],[5,6,0,1,2,3,4,5,6]] 8 (List.replicate 8 false)=[[0,1,2,3,4,5,6,7],[0,1,2,3,4,6,5,7],[0,1,2,3,6,4,5,7],[0,1,2,6,3,4,5,7],[0,1,3,2,4,5,6,7],[0,1,3,2,4,6,5,7],[0,1,3,2,6,4,5,7],[0,1,3,4,2,5,6,7],[0,1,3,4,2,6,5,7],[0,1,3,4,5,2,6,7],[0,3,1,2,4,5,6,7],[0,3,1,2,4,6,5,7],[0,3,1,2,6,4,5,7],[0,3,1,4,2,5,6,7],[0,3,1,4,2,6,5,7],[0,3,1,4,5,2,6,7],[0,3,4,1,2,5,6,7],[0,3,4,1,2,6,5,7],[0,3,4,1,5,2,6,7],[0,3,4,5,1,2,6,7],[3,0,1,2,4,5,6,7],[3,0,1,2,4,6,5,7],[3,0,1,2,6,4,5,7],[3,0,1,4,2,5,6,7],[3,0,1,4,2,6,5,7],[3,0,1,4,5,2,6,7],[3,0,4,1,2,5,6,7],[3,0,4,1,2,6,5,7],[3,0,4,1,5,2,6,7],[3,0,4,5,1,2,6,7],[3,4,0,1,2,5,6,7],[3,4,0,1,2,6,5,7],[3,4,0,1,5,2,6,7],[3,4,0,5,1,2,6,7],[3,4,5,0,1,2,6,7]]:=by
 decide
theorem qB4 (n:Nat):List.replicate n (AVal.int .i64 0)=(List.replicate n 0).map qav:=by
 rw[List.map_replicate]
 rfl
theorem qA6 (e:List CExpr) (he:e.length≤4096) (tm:Tmps) (h0:tm 0=.list (e.map qam) none) :
  qa0 L.pure (call L) qhH ⟨tm,[]⟩=some (.normal,⟨kt [0,3,4] [.list (e.map qam) none,.vec 0 e.length,.vec 1 e.length],[.vec ((List.replicate e.length 0).map qav) 1,.vec ((List.replicate e.length 0).map qav) 1]⟩):=by
 have hdE:=qaI e
 have hn:((e.length:Int)≤1073741824):=by omega
 unfold qhH
 rw[qsJ]
 refine qBJ ?_ ?_
 ·unfold qn4
  simp only[List.length_cons,List.length_nil,Nat.reduceAdd,qlR]
  simp
 ·intro σ hσ
  unfold qn4 at hσ
  simp only[List.length_cons,List.length_nil,Nat.reduceAdd,qlR] at hσ
  obtain⟨is,his,rfl⟩:=List.mem_map.1 hσ
  simp only[List.mem_cons,List.not_mem_nil,or_false] at his
  have hz:=qB4 e.length
  clear hσ
  rcases his with rfl | rfl | rfl | rfl | rfl | rfl | rfl | rfl | rfl | rfl | rfl | rfl | rfl | rfl | rfl | rfl | rfl | rfl | rfl | rfl | rfl | rfl | rfl | rfl | rfl | rfl | rfl | rfl | rfl | rfl | rfl | rfl | rfl | rfl | rfl <;>
   simp -implicitDefEqProofs only[ev_,aOp,opd,qaa,qbd,gcE,qaC,ren,renC,qa9,qbq,↓reduceIte,reduceCtorEq,Nat.reduceEqDiff,Nat.reduceAdd,Nat.reduceLT,qbA,qb9,qcc,Int.le_refl,List.filterMap_cons,List.filterMap_nil,h0,hn,hz,hdE]
include hL
theorem qA7 (h190:L.fns 190=some fn190) (e:List CExpr) (hf:∀ x∈e,NodeFit x) (hlen:e.length<2 ^ 30) (h:Heap) :
  pcall L 190 [.list (e.map qam) none] h=some (.val (.int .i64 (qeU e)),h):=by
 have hdE:=qaI e
 refine qaX hL h190 rfl ?_ h
 unfold qeU
 by_cases h1:(4096:Int)<e.length
 ·unfold fn190
  simp -implicitDefEqProofs only[ev_,aOp,opd,qaa,qaB,qbd,qaA,qab,qan,qac,qae,qaj,↓reduceIte,reduceCtorEq,gt_iff_lt,qak,h1]
 by_cases h2:e.length=0
 ·have h2':((e.length:Int)==0)=true:=by simp[h2]
  rw[if_neg h1,if_pos h2]
  unfold fn190
  simp -implicitDefEqProofs only[ev_,aOp,opd,qaa,qaB,qbd,qaA,qab,qan,qac,qae,qaj,↓reduceIte,reduceCtorEq,gt_iff_lt,qak,h1,h2']
 have h2':((e.length:Int)==0)=false:=by simpa using h2
 have he:e.length≤4096:=by omega
 have hmk:=qA6 (L:=L) e he
 obtain⟨ha,hb⟩:=qA4 (L:=L) e he hf
 rw[if_neg h1,if_neg h2]
 cases hr:qjj e with
 | error u =>
   obtain⟨R,⟨t,rfl⟩,hl⟩:=hb u hr
   unfold qpT qpU at hl
   simp only[Int.natCast_zero] at hl
   unfold fn190
   generalize qhH=M at *
   simp -implicitDefEqProofs only[ev_,aOp,opd,qaa,qaB,qbd,qaA,qab,qan,qac,qae,qaj,qaC,ren,renC,qa9,qbq,↓reduceIte,reduceCtorEq,Nat.reduceEqDiff,Nat.reduceAdd,Nat.reduceLT,Nat.reduceLeDiff,gt_iff_lt,qak,qbA,qcs,qb9,qct,qcc,h1,h2',hmk,hl,hdE]
 | ok s =>
   obtain⟨hs,hl⟩:=ha s hr
   have hl2:=qA5 (L:=L) e he s hs.l2
   unfold qpT qpU at hl
   simp only[Int.natCast_zero] at hl hl2
   have w:IntKind.i64.wrap ((e.length:Int)-1)=((e.length-1:Nat):Int):=by rw[qcy (by omega) (by omega)];omega
   have b:(((e.length-1:Nat):Int)<e.length):=by omega
   have g:=qBz s.1 (e.length-1) (by rw[hs.l1];omega)
   dsimp only
   cases hq:qaE (fun i p=>if qf4 e.length i p=true then some () else none) s.2 0 with
   | some u =>
     simp only[hq,qbh] at hl2
     unfold fn190
     generalize qhH=M at *
     simp -implicitDefEqProofs only[ev_,aOp,opd,qaa,qaB,qbd,qaA,qab,qan,qac,qae,qaj,qaC,ren,renC,qa9,qbq,↓reduceIte,reduceCtorEq,Nat.reduceEqDiff,Nat.reduceAdd,Nat.reduceLT,Nat.reduceLeDiff,gt_iff_lt,qak,qbA,qcs,qb9,qct,qcc,h1,h2',hmk,hl,hl2,hdE]
   | none =>
     simp only[hq,qbh] at hl2
     by_cases h4:400<s.1.getD (e.length-1) 0
     ·unfold fn190
      generalize qhH=M at *
      simp -implicitDefEqProofs only[ev_,aOp,opd,qaa,qaB,qbd,qaA,qad,qab,qag,qan,qac,qae,qaj,qaC,ren,renC,qa9,qbq,↓reduceIte,reduceCtorEq,Nat.reduceEqDiff,Nat.reduceAdd,Nat.reduceLT,Nat.reduceLeDiff,gt_iff_lt,qak,qbA,qcs,qb9,qct,qcc,Nat.mul_one,h1,h2',hmk,hl,hl2,hdE,w,b,g,h4]
     ·unfold fn190
      generalize qhH=M at *
      simp -implicitDefEqProofs only[ev_,aOp,opd,qaa,qaB,qbd,qaA,qad,qab,qag,qan,qac,qae,qaj,qaC,ren,renC,qa9,qbq,↓reduceIte,reduceCtorEq,Nat.reduceEqDiff,Nat.reduceAdd,Nat.reduceLT,Nat.reduceLeDiff,gt_iff_lt,qak,qbA,qcs,qb9,qct,qcc,Nat.mul_one,h1,h2',hmk,hl,hl2,hdE,w,b,g,h4]
end
def qbS (op:Int):Bool:=op==2 || op==4 || op==5
def qaq (op:Int) (binds:List Int) (as:List CAlt):List Int:=(if qbS op=true then binds else [])++as.flatMap (·.binds)
section
variable {L:Lib} (hL:Plain L)
def qBl (as:List CAlt) (s:List Int) (i:Nat):St:=⟨kt [3,34,35,36] [.list (s.map qav) (qf8 0 s.length),.list (as.map qas) none,.int .i64 as.length,.int .i64 i],qdd 1 s.length⟩
def qB6 (s:List Int):St:=⟨kt [3] [.list (s.map qav) (qf8 0 s.length)],qdd 1 s.length⟩
theorem qsy (as:List CAlt) (hl:as.length<2 ^ 30) (s0:List Int) (ht:(s0++as.flatMap (·.binds)).length≤2 ^ 30) :
  qba L.pure (call L) (qdd 1 s0.length).length [3,34,35,36] [3] 0 qd7 (qBl as s0 0)=some (.normal,qB6 (s0++as.flatMap (·.binds))):=by
 have hb:(qdd 1 s0.length).length=0∨((qdd 1 s0.length).length=1∧s0≠[]):=by
  cases s0 with
  | nil=>exact .inl rfl
  | cons a l=>exact .inr ⟨rfl,by simp⟩
 generalize (qdd 1 s0.length).length=b at hb
 have key:=qek (pure:=L.pure) (call:=call L) (b:=b) (keep:=[3,34,35,36]) (fk:=[3]) (id:=0) (body:=qd7) as (fun s a=>s++a.binds) (qBl as) qB6
  (fun s i=>s++(as.drop i).flatMap (·.binds)=s0++as.flatMap (·.binds)∧(b=0∨(b=1∧s≠[]))) s0 ⟨rfl,hb⟩ ?_ ?_
 ·obtain⟨⟨h1,_⟩,h2⟩:=key
  rw[List.drop_length,List.flatMap_nil,List.append_nil] at h1
  rw[h2,h1]
 ·intro i hi s hs
  obtain⟨h1,h2,h3⟩:=qaN qas as hl i hi
  obtain⟨hs1,hs2⟩:=hs
  have hd:as.drop i=as[i]::as.drop (i+1):=List.drop_eq_getElem_cons hi
  rw[hd,List.flatMap_cons] at hs1
  have hlen:s.length+as[i].binds.length≤1073741824:=by
   have:=congrArg List.length hs1
   simp only[List.length_append] at this ht
   omega
  refine⟨?_,by rw[List.append_assoc];exact hs1,by rcases hs2 with h | ⟨h,h'⟩;exact .inl h;exact .inr ⟨h,by simp[h']⟩⟩
  clear hs1 hd ht
  generalize as[i]=a at *
  have hs1:=qfq s
  have hs3:=qfq a.binds
  unfold qBl
  by_cases hab:a.binds=[]
  ·rw[hab,List.append_nil]
   by_cases hz:s=[]
   ·subst hz
    rcases hs2 with rfl | ⟨rfl,h⟩
    ·unfold qd7
     simp -implicitDefEqProofs only[ev_,aOp,opd,qaa,qay,qaB,qaA,qad,qab,qag,qaT,qaS,qai,leaf,qat,qaC,ren,renC,qa9,qbq,qbO,↓reduceIte,Nat.reduceEqDiff,Nat.reduceAdd,qel,qeD,qaZ,qap,h1,h2,h3,hab]
    ·exact absurd rfl h
   ·have o1:=qff (b:=0) (List.length_pos_iff.2 hz)
    have o2:=qeo (sz:=1) (List.length_pos_iff.2 hz)
    rcases hs2 with rfl | ⟨rfl,h⟩<;>unfold qd7<;>simp -implicitDefEqProofs only[ev_,aOp,opd,qaa,qay,qaB,qaA,qad,qab,qag,qaT,qaS,qai,leaf,qat,qaC,ren,renC,qa9,qbq,qbO,↓reduceIte,Nat.reduceEqDiff,Nat.reduceAdd,Nat.reduceLT,Nat.reduceLeDiff,qaZ,qah,qap,h1,h2,h3,hab,o1,o2,qah]
  ·have hab':((a.binds.map qav)=[])=False:=by simpa using hab
   by_cases hz:s=[]
   ·subst hz
    have o3:=qff (b:=0) (List.length_pos_iff.2 hab)
    have o4:=qeo (sz:=1) (List.length_pos_iff.2 hab)
    have hlen:a.binds.length≤1073741824:=by simpa using hlen
    rcases hs2 with rfl | ⟨rfl,h⟩
    ·unfold qd7
     simp -implicitDefEqProofs only[ev_,aOp,opd,qaa,qay,qaB,qaA,qad,qab,qag,qaT,qaS,qai,leaf,qat,qaC,ren,renC,qa9,qbq,qbO,↓reduceIte,Nat.reduceEqDiff,Nat.reduceAdd,Nat.reduceLT,qel,qeD,qaZ,qah,qap,h1,h2,h3,hab',hlen,hs3,o3,o4]
    ·exact absurd rfl h
   ·have o1:=qff (b:=0) (List.length_pos_iff.2 hz)
    have o2:=qeo (sz:=1) (List.length_pos_iff.2 hz)
    have hpos:=List.length_pos_iff.2 hz
    have o3:qf8 0 (s.length+a.binds.length)=some (some 0):=qff (by omega)
    have o4:qdd 1 (s.length+a.binds.length)=[.tail (s.length+a.binds.length) 1]:=qeo (by omega)
    rcases hs2 with rfl | ⟨rfl,h⟩<;>unfold qd7<;>simp -implicitDefEqProofs only[ev_,aOp,opd,qaa,qay,qaB,qaA,qad,qab,qag,qaT,qaS,qai,leaf,qat,qaC,ren,renC,qa9,qbq,qbO,↓reduceIte,Nat.reduceEqDiff,Nat.reduceAdd,Nat.reduceLT,Nat.reduceLeDiff,qaZ,qah,qap,h1,h2,h3,hab',hlen,hs1,hs3,o1,o2,o3,o4]
 ·intro s hs
  have h0:=qaQ as.length
  unfold qBl qB6
  cases s with
  | nil => 
    rcases hs.2 with rfl | ⟨rfl,h⟩
    ·unfold qd7
     simp -implicitDefEqProofs only[ev_,aOp,opd,qaa,qaB,qaA,qab,gcE,qaC,ren,renC,qa9,qbq,↓reduceIte,Nat.reduceEqDiff,qel,qeD,h0]
    ·exact absurd rfl h
  | cons x s =>
    rcases hs.2 with rfl | ⟨rfl,h⟩<;>unfold qd7<;>simp -implicitDefEqProofs only[ev_,aOp,opd,qaa,qaB,qaA,qab,gcE,qaC,ren,renC,qa9,qbq,↓reduceIte,Nat.reduceEqDiff,Nat.reduceLT,Nat.reduceLeDiff,qjb,qhR,qa1,qah,h0]
include hL
theorem qe1 (h232:L.fns 232=some fn232) (op n:Int) (binds:List Int) (K:AVal) (hK:qaH K=true) (as:List CAlt) (hl:as.length<2 ^ 30) (ht:(binds++as.flatMap (·.binds)).length≤2 ^ 30) (h:Heap) :
  pcall L 232 [.vptr [.int .i64 op,.int .i64 n,.list (binds.map qav) none,K,.list (as.map qas) none] 0] h=some (.val (.list ((qaq op binds as).map qav) none),h):=by
 refine qaX hL h232 (by rw[qa3];exact qah _) ?_ h
 have tail:∀ (s0:List Int) (tm:Tmps),(s0++as.flatMap (·.binds)).length≤2 ^ 30→tm 0=.vptr [.int .i64 op,.int .i64 n,.list (binds.map qav) none,K,.list (as.map qas) none] 0→tm 3=.list (s0.map qav) (qf8 0 s0.length) →
   qpn (qan [.tmp 2] (qa0 L.pure (call L) qi1 ⟨tm,qdd 1 s0.length⟩))=some (.val (.list ((s0++as.flatMap (·.binds)).map qav) none)):=by
  intro s0 tm hlen h0 h3
  have hloop:=qsy (L:=L) as hl s0 hlen
  unfold qBl qB6 at hloop
  simp only[Int.natCast_zero] at hloop
  generalize s0++as.flatMap (·.binds)=r at *
  rcases qpo 0 1 s0.length with ⟨o1,o2⟩ | ⟨o1,o2⟩<;>rw[o1,o2] at hloop<;>rw[o1] at h3<;>rw[o2] <;>
   rcases qpo 0 1 r.length with ⟨o3,o4⟩ | ⟨o3,o4⟩<;>rw[o3,o4] at hloop<;>simp only[List.length_nil,List.length_cons,Nat.zero_add] at hloop <;>
   unfold qi1<;>simp -implicitDefEqProofs only[ev_,aOp,opd,qaa,qbd,qag,qai,qan,qac,qae,qaj,qaC,ren,renC,qa9,qbq,↓reduceIte,Nat.reduceEqDiff,Nat.reduceLT,Nat.reduceLeDiff,qak,qah,qap,h0,h3,hloop]
 have hlB:(as.flatMap (·.binds)).length≤2 ^ 30:=by rw[List.length_append] at ht;omega
 have hall:=qfq binds
 have hbl:binds.length≤1073741824:=by rw[List.length_append] at ht;omega
 unfold qaq
 have T:=tail
 cases ho:qbS op with
 | true =>
   have e:(op==2)=true∨((op==2)=false∧(op==4)=true)∨((op==2)=false∧(op==4)=false∧(op==5)=true):=by
    unfold qbS at ho
    revert ho
    cases (op==2)<;>cases (op==4)<;>cases (op==5)<;>simp
   rw[if_pos rfl]
   unfold fn232 quF
   by_cases hb:binds=[]
   ·subst hb
    have T0:=T [] 
    simp only[List.map_nil,List.length_nil,qel,qeD,List.nil_append] at T0
    generalize qi1=t at *
    rcases e with e1 | ⟨e1,e2⟩ | ⟨e1,e2,e3⟩
    ·simp -implicitDefEqProofs only[ev_,aOp,opd,qaa,qaB,qaA,qab,qaf,qag,qai,qan,qac,qae,qaj,qbO,↓reduceIte,reduceCtorEq,Nat.reduceEqDiff,e1]
     refine T0 _ hlB ?_ ?_<;>simp -implicitDefEqProofs only[ev_,↓reduceIte,reduceCtorEq]
    ·simp -implicitDefEqProofs only[ev_,aOp,opd,qaa,qaB,qaA,qab,qaf,qag,qai,qan,qac,qae,qaj,qbO,↓reduceIte,reduceCtorEq,Nat.reduceEqDiff,e1,e2]
     refine T0 _ hlB ?_ ?_<;>simp -implicitDefEqProofs only[ev_,↓reduceIte,reduceCtorEq]
    ·simp -implicitDefEqProofs only[ev_,aOp,opd,qaa,qaB,qaA,qab,qaf,qag,qai,qan,qac,qae,qaj,qbO,↓reduceIte,reduceCtorEq,Nat.reduceEqDiff,e1,e2,e3]
     refine T0 _ hlB ?_ ?_<;>simp -implicitDefEqProofs only[ev_,↓reduceIte,reduceCtorEq]
   ·have hb':((binds.map qav)=[])=False:=by simpa using hb
    have o1:=qff (b:=0) (List.length_pos_iff.2 hb)
    have o2:=qeo (sz:=1) (List.length_pos_iff.2 hb)
    have T1:=T binds
    rw[o1,o2,List.map_append] at T1
    generalize qi1=t at *
    rcases e with e1 | ⟨e1,e2⟩ | ⟨e1,e2,e3⟩
    ·simp -implicitDefEqProofs only[ev_,aOp,opd,qaa,qaB,qaA,qab,qaf,qag,qai,qan,qac,qae,qaj,qbO,↓reduceIte,reduceCtorEq,Nat.reduceEqDiff,e1,hb',hall,hbl]
     refine T1 _ ht ?_ ?_<;>simp -implicitDefEqProofs only[ev_,↓reduceIte,reduceCtorEq]
    ·simp -implicitDefEqProofs only[ev_,aOp,opd,qaa,qaB,qaA,qab,qaf,qag,qai,qan,qac,qae,qaj,qbO,↓reduceIte,reduceCtorEq,Nat.reduceEqDiff,e1,e2,hb',hall,hbl]
     refine T1 _ ht ?_ ?_<;>simp -implicitDefEqProofs only[ev_,↓reduceIte,reduceCtorEq]
    ·simp -implicitDefEqProofs only[ev_,aOp,opd,qaa,qaB,qaA,qab,qaf,qag,qai,qan,qac,qae,qaj,qbO,↓reduceIte,reduceCtorEq,Nat.reduceEqDiff,e1,e2,e3,hb',hall,hbl]
     refine T1 _ ht ?_ ?_<;>simp -implicitDefEqProofs only[ev_,↓reduceIte,reduceCtorEq]
 | false =>
   have e:(op==2)=false∧(op==4)=false∧(op==5)=false:=by
    unfold qbS at ho
    revert ho
    cases (op==2)<;>cases (op==4)<;>cases (op==5)<;>simp
   obtain⟨e1,e2,e3⟩:=e
   rw[if_neg (by decide)]
   unfold fn232
   generalize qi1=t at *
   simp -implicitDefEqProofs only[ev_,aOp,opd,qaa,qaB,qaA,qab,qaf,qag,qai,qan,qac,qae,qaj,↓reduceIte,reduceCtorEq,Nat.reduceEqDiff,e1,e2,e3]
   have:=T [] 
   rw[List.nil_append] at this
   exact this _ hlB (by simp -implicitDefEqProofs only[ev_,↓reduceIte,reduceCtorEq]) (by simp -implicitDefEqProofs only[ev_,↓reduceIte,Nat.reduceEqDiff,qel])
def qbz (op:Int) (binds:List Int) (as:List CAlt) (k:Nat):List Int :=
 if op=2∨op=5∨(op=4∧k=1) then binds else if 0<k then (match as[k-1]? with | some a=>a.binds | none=>[]) else []
theorem qwQ (h236:L.fns 236=some fn236) (op n:Int) (binds:List Int) (K:AVal) (as:List CAlt) (hl:as.length<2 ^ 30) (k:Nat) (hk:k<2 ^ 30) (h:Heap) :
  pcall L 236 [.vptr [.int .i64 op,.int .i64 n,.list (binds.map qav) none,K,.list (as.map qas) none] 0,.int .i64 k] h=some (.val (.list ((qbz op binds as k).map qav) none),h):=by
 refine qaX hL h236 (by rw[qa3];exact qah _) ?_ h
 unfold qbz
 by_cases h2:op=2
 ·subst h2
  unfold fn236
  simp -implicitDefEqProofs only[ev_,aOp,opd,qaa,qaB,qaA,qab,qag,qai,qan,qac,qae,qaj,↓reduceIte,reduceCtorEq,Int.reduceEq,qak]
 by_cases h5:op=5
 ·subst h5
  unfold fn236
  simp -implicitDefEqProofs only[ev_,aOp,opd,qaa,qaB,qaA,qab,qag,qai,qan,qac,qae,qaj,↓reduceIte,reduceCtorEq,Int.reduceEq,Int.reduceBEq,qak]
 have e2:(op==2)=false:=by simpa using h2
 have e5:(op==5)=false:=by simpa using h5
 have rest:∀ (b4:Bool),(op==4)=b4→(b4=true→((k:Int)==1)=false) →
   qpn (qan fn236.results (qa0 L.pure (call L) fn236.body ⟨qew [.vptr [.int .i64 op,.int .i64 n,.list (binds.map qav) none,K,.list (as.map qas) none] 0,.int .i64 k],[]⟩)) =
    some (.val (.list ((if 0<k then (match as[k-1]? with | some a=>a.binds | none=>[]) else []).map qav) none)):=by
  intro b4 e4 hb
  by_cases ha:(0:Int)<as.length
  ·by_cases h0:(0:Int)<k
   ·have h0':0<k:=by omega
    by_cases hle:(k:Int)≤as.length
    ·have hlt:k-1<as.length:=by omega
     have w:IntKind.i64.wrap ((k:Int)-1)=((k-1:Nat):Int):=by rw[qcy (by omega) (by omega)];omega
     have g:(as.map qas)[k-1]? = some (qas as[k-1]):=by simp[hlt]
     rw[if_pos h0',List.getElem?_eq_getElem hlt]
     dsimp only
     generalize as[k-1]=a at *
     cases b4 with
     | true=>have hb:=hb rfl;unfold fn236;simp -implicitDefEqProofs only[ev_,aOp,opd,qaa,qaB,qbd,qaA,qad,qab,qaf,qag,qai,qan,qac,qae,qaj,↓reduceIte,reduceCtorEq,Nat.reduceEqDiff,Nat.reduceAdd,gt_iff_lt,qak,qaZ,e2,e5,e4,hb,ha,h0,hle,w,g]
     | false=>unfold fn236;simp -implicitDefEqProofs only[ev_,aOp,opd,qaa,qaB,qbd,qaA,qad,qab,qaf,qag,qai,qan,qac,qae,qaj,↓reduceIte,reduceCtorEq,Nat.reduceEqDiff,Nat.reduceAdd,gt_iff_lt,qak,qaZ,e2,e5,e4,ha,h0,hle,w,g]
    ·rw[if_pos h0',List.getElem?_eq_none (by omega)]
     dsimp only
     cases b4 with
     | true=>have hb:=hb rfl;unfold fn236;simp -implicitDefEqProofs only[ev_,aOp,opd,qaa,qaB,qbd,qaA,qab,qaf,qag,qai,qan,qac,qae,qaj,↓reduceIte,reduceCtorEq,Nat.reduceEqDiff,gt_iff_lt,qak,e2,e5,e4,hb,ha,h0,hle]
     | false=>unfold fn236;simp -implicitDefEqProofs only[ev_,aOp,opd,qaa,qaB,qbd,qaA,qab,qaf,qag,qai,qan,qac,qae,qaj,↓reduceIte,reduceCtorEq,Nat.reduceEqDiff,gt_iff_lt,qak,e2,e5,e4,ha,h0,hle]
   ·rw[if_neg (by omega)]
    cases b4 with
    | true=>have hb:=hb rfl;unfold fn236;simp -implicitDefEqProofs only[ev_,aOp,opd,qaa,qaB,qbd,qaA,qab,qaf,qag,qai,qan,qac,qae,qaj,↓reduceIte,reduceCtorEq,Nat.reduceEqDiff,gt_iff_lt,qak,e2,e5,e4,hb,ha,h0]
    | false=>unfold fn236;simp -implicitDefEqProofs only[ev_,aOp,opd,qaa,qaB,qbd,qaA,qab,qaf,qag,qai,qan,qac,qae,qaj,↓reduceIte,reduceCtorEq,Nat.reduceEqDiff,gt_iff_lt,qak,e2,e5,e4,ha,h0]
  ·have:as=[]:=List.length_eq_zero_iff.1 (by omega)
   subst this
   have hx:(if 0<k then (match ([]:List CAlt)[k-1]? with | some a=>a.binds | none=>[]) else [])=([]:List Int):=by
    split<;>simp
   rw[hx]
   cases b4 with
   | true=>have hb:=hb rfl;unfold fn236;simp -implicitDefEqProofs only[ev_,aOp,opd,qaa,qaB,qbd,qaA,qab,qaf,qag,qai,qan,qac,qae,qaj,↓reduceIte,reduceCtorEq,Nat.reduceEqDiff,Int.reduceLT,gt_iff_lt,qak,e2,e5,e4,hb]
   | false=>unfold fn236;simp -implicitDefEqProofs only[ev_,aOp,opd,qaa,qaB,qbd,qaA,qab,qaf,qag,qai,qan,qac,qae,qaj,↓reduceIte,reduceCtorEq,Nat.reduceEqDiff,Int.reduceLT,gt_iff_lt,qak,e2,e5,e4]
 by_cases h4:op=4
 ·by_cases hk1:k=1
  ·subst h4 hk1
   unfold fn236
   simp -implicitDefEqProofs only[ev_,aOp,opd,qaa,qaB,qaA,qab,qaf,qag,qai,qan,qac,qae,qaj,↓reduceIte,reduceCtorEq,Nat.reduceEqDiff,Int.reduceEq,Int.reduceBEq,qak,Int.natCast_one]
  ·rw[if_neg (by omega)]
   exact rest true (by simpa using h4) (fun _=>by simp;omega)
 ·rw[if_neg (by omega)]
  exact rest false (by simpa using h4) (fun h=>by cases h)
end
end Go.Abs
