/-
  PARTS OF A PROOF, joined: an abstract machine for quiet code, its evaluation, and what the seat's functions answer on it. Conditions: none.
-/
import Derived.Test.YtpchghpipgpkfaaDoorCC
set_option linter.unusedVariables false
set_option linter.unusedSimpArgs false
namespace Go.Abs
def qbs {α σ ε:Type} (step:Nat→σ→α→Except ε σ):List α→Nat→σ→Except ε σ
 | [],_,s=>.ok s
 | x::xs,i,s=>match step i s x with | .ok s'=>qbs step xs (i+1) s' | .error e=>.error e
theorem qcr {pure:Nat→Bool} {call:CallT} {b:Nat} {keep fk:List Nat} {id:Nat} {body:ACode} {α σ ε:Type} (xs:List α) (step:Nat→σ→α→Except ε σ) (C:σ→Nat→St) (T:σ→St) (Ret:ε→St→Prop) (Inv:σ→Nat→Prop) (s0:σ) (hI:Inv s0 0)
  (h0:∀ (i:Nat) (hi:i<xs.length) (s s':σ),Inv s i→step i s xs[i]=.ok s'→qa8 pure call b keep fk body (C s i)=some (.normal,C s' (i+1))∧Inv s' (i+1))
  (h1:∀ (i:Nat) (hi:i<xs.length) (s:σ) (e:ε),Inv s i→step i s xs[i]=.error e→∃ R,Ret e R∧qa8 pure call b keep fk body (C s i)=some (.ret,R))
  (hend:∀ s,Inv s xs.length→qa8 pure call b keep fk body (C s xs.length)=some (.exit id,T s)) :
  (∀ s,qbs step xs 0 s0=.ok s→Inv s xs.length∧qbd pure call b keep fk id body (C s0 0)=some (.normal,T s)) ∧
  (∀ e,qbs step xs 0 s0=.error e→∃ R,Ret e R∧qbd pure call b keep fk id body (C s0 0)=some (.ret,R)):=by
 have key:∀ k i s,i+k=xs.length→Inv s i →
   match qbs step (xs.drop i) i s with
   | .ok s'=>Inv s' xs.length∧qbd pure call b keep fk id body (C s i)=some (.normal,T s')
   | .error e=>∃ R,Ret e R∧qbd pure call b keep fk id body (C s i)=some (.ret,R):=by
  intro k
  induction k with
  | zero =>
    intro i s hi hs
    rw[Nat.add_zero] at hi
    subst hi
    rw[List.drop_length]
    exact⟨hs,qet (hend s hs)⟩
  | succ k ih =>
    intro i s hi hs
    have hlt:i<xs.length:=by omega
    rw[List.drop_eq_getElem_cons hlt,qbs]
    cases hq:step i s xs[i] with
    | ok s' =>
      obtain⟨h2,h3⟩:=h0 i hlt s s' hs hq
      rw[qev h2]
      exact ih (i+1) s' (by omega) h3
    | error e =>
      obtain⟨R,h2,h3⟩:=h1 i hlt s e hs hq
      exact⟨R,h2,qj4 h3⟩
 have:=key xs.length 0 s0 (by omega) hI
 rw[List.drop_zero] at this
 exact⟨fun s hs=>by rw[hs] at this;exact this,fun e he=>by rw[he] at this;exact this⟩
theorem qjM {α σ ε:Type} (step:σ→α→σ):∀ (xs:List α) (i:Nat) (s:σ),qbs (fun _ s x=>(.ok (step s x):Except ε σ)) xs i s=.ok (xs.foldl step s)
 | [],_,_=>rfl
 | x::xs,i,s=>by rw[qbs];exact qjM step xs (i+1) _
theorem qeu {pure:Nat→Bool} {call:CallT} {b:Nat} {keep fk:List Nat} {id:Nat} {body:ACode} {α σ:Type} (xs:List α) (step:σ→α→σ) (C:σ→Nat→St) (T:σ→St) (Inv:σ→Nat→Prop) (s0:σ) (hI:Inv s0 0)
  (h0:∀ (i:Nat) (hi:i<xs.length) (s:σ),Inv s i→qa8 pure call b keep fk body (C s i)=some (.normal,C (step s xs[i]) (i+1))∧Inv (step s xs[i]) (i+1))
  (hend:∀ s,Inv s xs.length→qa8 pure call b keep fk body (C s xs.length)=some (.exit id,T s)) :
  Inv (xs.foldl step s0) xs.length∧qbd pure call b keep fk id body (C s0 0)=some (.normal,T (xs.foldl step s0)):=by
 have:=qcr (pure:=pure) (call:=call) (b:=b) (keep:=keep) (fk:=fk) (id:=id) (body:=body) (ε:=Unit) xs (fun _ s x=>.ok (step s x)) C T (fun _ _=>False) Inv s0 hI
  (by
   intro i hi s s' hs hq
   injection hq with hq
   subst hq
   exact h0 i hi s hs)
  (by intro i hi s e _ hq;cases hq) hend
 exact this.1 _ (qjM step xs 0 s0)
theorem qzj {keep:List Nat} {l:List Step} {needs:List (List Nat)} {s:St} {r:AExit × St} (hne:qmU l needs≠[]) (h:∀ σ∈qmU l needs,(qcd (fun _=>false) qex σ s).map (gcE s.h.length keep)=some r):quB keep l needs s=some r:=by
 unfold quB
 have he:∃ r,∀ σ∈qmU l needs,(qcd (fun _=>false) qex σ s).map (gcE s.h.length keep)=some r:=⟨r,h⟩
 rw[dif_pos he]
 obtain⟨σ,hσ⟩:=List.exists_mem_of_ne_nil _ hne
 have h1:=Classical.choose_spec he σ hσ
 rw[h σ hσ] at h1
 injection h1 with h1
 rw[h1]
end Go.Abs
set_option maxRecDepth 100000
set_option maxHeartbeats 4000000
namespace Go.Abs
abbrev DP:=List Int × List Int
def qcJ (i:Nat) (k:Int) (dp:DP):DP:=(dp.1.set i (max (dp.1.getD i 0) (dp.1.getD k.toNat 0)),dp.2.set k.toNat (dp.2.getD k.toNat 0+1))
def qrL (i:Nat) (_:Nat) (dp:DP) (k:Int):Except Unit DP:=if k<0∨(i:Int)≤k then .error () else .ok (qcJ i k dp)
def qj8 (i:Nat) (dp:DP) (x:CExpr):Except Unit DP :=
 match qbs (qrL i) x.kids 0 dp with
 | .error e=>.error e
 | .ok dp=>.ok (dp.1.set i (dp.1.getD i 0+1),dp.2)
def qh8 (e:List CExpr):Except Unit DP:=qbs qj8 e 0 (List.replicate e.length 0,List.replicate e.length 0)
def qfg (n:Nat) (i:Nat) (p:Int):Bool:=(p==1) != decide ((i:Int)<(n:Int)-1)
def qek (e:List CExpr):Int :=
 if (4096:Int)<e.length then 2 else if e.length=0 then 3 else
 match qh8 e with
 | .error _=>3
 | .ok dp=>if (qaI (fun i p=>if qfg e.length i p=true then some () else none) dp.2 0).isSome=true then 3 else if 400<dp.1.getD (e.length-1) 0 then 2 else 0
def Bd (c:Int) (l:List Int):Prop:=∀ x∈l,0≤x∧x≤c
theorem Bd.get {c:Int} {l:List Int} (h:Bd c l) (hc:0≤c) (i:Nat):0≤l.getD i 0∧l.getD i 0≤c:=by
 rw[List.getD_eq_getElem?_getD]
 cases hq:l[i]? with
 | none=>exact⟨by simp,by simpa using hc⟩
 | some x=>exact h x (List.mem_of_getElem? hq)
theorem Bd.set {c:Int} {l:List Int} (h:Bd c l) (i:Nat) (v:Int) (hv:0≤v∧v≤c):Bd c (l.set i v):=by
 intro x hx
 rcases List.mem_or_eq_of_mem_set hx with hx | rfl
 ·exact h x hx
 ·exact hv
theorem Bd.mono {c d:Int} {l:List Int} (h:Bd c l) (hcd:c≤d):Bd d l:=fun x hx=>⟨(h x hx).1,by have:=(h x hx).2;omega⟩
theorem Bd.zeros (n:Nat):Bd 0 (List.replicate n 0):=by
 intro x hx
 have:=List.eq_of_mem_replicate hx
 omega
structure DPok (n:Nat) (d c:Int) (dp:DP):Prop where
 l1:dp.1.length=n
 l2:dp.2.length=n
 b1:Bd d dp.1
 b2:Bd c dp.2
theorem DPok.kid {n:Nat} {d c:Int} {dp:DP} (h:DPok n d c dp) (hd:0≤d) (hc:0≤c) (i:Nat) (k:Int):DPok n d (c+1) (qcJ i k dp) :=
 ⟨by simp[qcJ,h.l1],by simp[qcJ,h.l2],by
  have h1:=h.b1.get hd i
  have h2:=h.b1.get hd k.toNat
  exact h.b1.set _ _ (by omega),by
  have h1:=h.b2.get hc k.toNat
  exact (h.b2.mono (by omega)).set _ _ (by omega)⟩
section
variable {L:Lib} (hL:Plain L)
def qm1 (e:List CExpr) (i:Nat) (x:CExpr) (s:DP) (j:Nat):St:=⟨kt [0,3,4,5,23,24,25,31,32,33] [.list (e.map qam) none,.vec 0 e.length,.vec 1 e.length,.int .i64 i,.list (e.map qam) none,.int .i64 e.length,.int .i64 i,.list (x.kids.map qau) none,.int .i64 x.kids.length,.int .i64 j],
 [.vec (s.1.map qau) 1,.vec (s.2.map qau) 1,.box [.int .i64 x.op,.int .i64 x.n,.list (x.binds.map qau) none,.list (x.kids.map qau) none,.list (x.alts.map qar) none]]⟩
def qm2 (e:List CExpr) (i:Nat) (x:CExpr) (v:AVal) (s:DP):St:=⟨kt [0,2,3,4,5,23,24,25] [.list (e.map qam) none,v,.vec 0 e.length,.vec 1 e.length,.int .i64 i,.list (e.map qam) none,.int .i64 e.length,.int .i64 i],
 [.vec (s.1.map qau) 1,.vec (s.2.map qau) 1,.box [.int .i64 x.op,.int .i64 x.n,.list (x.binds.map qau) none,.list (x.kids.map qau) none,.list (x.alts.map qar) none]]⟩
theorem quf (e:List CExpr) (i:Nat) (hi:i<e.length) (x:CExpr) (hk:x.kids.length<2 ^ 30) (dp:DP) (d c:Int) (hd:0≤d) (hd2:d<2 ^ 62) (hc:0≤c) (hc2:c+2 ^ 30<2 ^ 62) (hok:DPok e.length d c dp) :
  (∀ s,qbs (qrL i) x.kids 0 dp=.ok s→DPok e.length d (c+x.kids.length) s∧qbd L.pure (call L) 3 [0,3,4,5,23,24,25,31,32,33] [0,2,3,4,5,23,24,25] 2 qeX (qm1 e i x dp 0)=some (.normal,qm2 e i x .junk s)) ∧
  (∀ r,qbs (qrL i) x.kids 0 dp=.error r→∃ R,(∃ s:DP,R=qm2 e i x (.int .i64 3) s)∧qbd L.pure (call L) 3 [0,3,4,5,23,24,25,31,32,33] [0,2,3,4,5,23,24,25] 2 qeX (qm1 e i x dp 0)=some (.ret,R)):=by
 have hdE:=qaY e
 refine qcr x.kids (qrL i) (qm1 e i x) (qm2 e i x .junk) (fun _ R=>∃ s:DP,R=qm2 e i x (.int .i64 3) s) (fun s j=>DPok e.length d (c+(j:Nat)) s) dp (by simpa using hok) ?_ ?_ ?_
 ·intro j hj s s' hs hq
  obtain⟨h1,h2,h3⟩:=qaN qau x.kids hk j hj
  unfold qrL at hq
  split at hq
  ·cases hq
  ·rename_i hb
   injection hq with hq
   subst hq
   refine⟨?_,by have:=hs.kid hd (by omega) i x.kids[j];rw[show c+((j+1:Nat):Int)=c+(j:Nat)+1 by omega];exact this⟩
   generalize x.kids[j]=k at *
   obtain⟨m,rfl⟩:∃ m:Nat,k=m:=⟨k.toNat,by omega⟩
   have b1:¬ ((m:Int)<0):=by omega
   have b2:¬ ((i:Int)≤m):=by omega
   have hm:m<e.length:=by omega
   have b3:((m:Int)<e.length):=by omega
   have b4:((i:Int)<e.length):=by omega
   have g1:=qy9 s.2 m (by rw[hs.l2];exact hm)
   have g2:=qy9 s.1 i (by rw[hs.l1];exact hi)
   have g3:=qy9 s.1 m (by rw[hs.l1];exact hm)
   have bb:=hs.b2.get (by omega) m
   have w1:IntKind.i64.wrap (s.2.getD m 0+1)=s.2.getD m 0+1:=qcl (by omega) (by omega)
   have hmx:=qgi (s.1.getD i 0) (s.1.getD m 0)
   have p1:=qz9 qau s.2 m (s.2.getD m 0+1) (by rw[hs.l2];exact hm)
   have p2:=qz9 qau s.1 i (max (s.1.getD i 0) (s.1.getD m 0)) (by rw[hs.l1];exact hi)
   have l1:m+1≤s.2.length:=by rw[hs.l2];omega
   have l2:i+1≤s.1.length:=by rw[hs.l1];omega
   simp only[qau] at p1 p2
   unfold qeX qcJ qm1
   simp -implicitDefEqProofs only[ev_,aOp,opd,qaa,qaq,qaA,qaz,qad,qab,qae,qag,qaL,leaf,qao,qav,ren,renC,qaW,qbc,qaB,↓reduceIte,reduceCtorEq,Nat.reduceEqDiff,Nat.reduceAdd,Nat.reduceLT,Nat.reduceLeDiff,ge_iff_le,qa9,qah,qak,qbl,qb2,qbI,qb3,qbV,Nat.mul_one,h1,h2,h3,b1,b2,b3,b4,g1,g2,g3,w1,hmx,p1,p2,l1,l2,hdE]
 ·intro j hj s er hs hq
  obtain⟨h1,h2,h3⟩:=qaN qau x.kids hk j hj
  unfold qrL at hq
  split at hq
  ·rename_i hb
   refine⟨_,⟨s,rfl⟩,?_⟩
   generalize x.kids[j]=k at *
   by_cases b1:k<0
   ·unfold qeX qm1 qm2
    simp -implicitDefEqProofs only[ev_,aOp,opd,qaa,qaA,qaz,qad,qab,qae,qag,gcE,qav,ren,renC,qaW,qbc,↓reduceIte,reduceCtorEq,Nat.reduceEqDiff,Nat.reduceAdd,Nat.reduceLT,Nat.reduceLeDiff,qa9,qah,qak,qbl,qb2,qbI,qb3,qbV,h1,h2,h3,b1,hdE]
   ·have b2:(i:Int)≤k:=by omega
    unfold qeX qm1 qm2
    simp -implicitDefEqProofs only[ev_,aOp,opd,qaa,qaA,qaz,qad,qab,qae,qag,gcE,qav,ren,renC,qaW,qbc,↓reduceIte,reduceCtorEq,Nat.reduceEqDiff,Nat.reduceAdd,Nat.reduceLT,Nat.reduceLeDiff,ge_iff_le,qa9,qah,qak,qbl,qb2,qbI,qb3,qbV,h1,h2,h3,b1,b2,hdE]
  ·cases hq
 ·intro s hs
  have h0:=qaO x.kids.length
  unfold qeX qm1 qm2
  simp -implicitDefEqProofs only[ev_,aOp,opd,qaa,qaA,qaz,qab,gcE,qav,ren,renC,qaW,qbc,↓reduceIte,reduceCtorEq,Nat.reduceEqDiff,Nat.reduceAdd,Nat.reduceLT,Nat.reduceLeDiff,qah,qak,qbl,qb2,qbI,qb3,qbV,h0,hdE]
def qoY (e:List CExpr) (s:DP) (i:Nat):St:=⟨kt [0,3,4,23,24,25] [.list (e.map qam) none,.vec 0 e.length,.vec 1 e.length,.list (e.map qam) none,.int .i64 e.length,.int .i64 i],[.vec (s.1.map qau) 1,.vec (s.2.map qau) 1]⟩
def qoZ (e:List CExpr) (v:AVal) (s:DP):St:=⟨kt [0,2,3,4] [.list (e.map qam) none,v,.vec 0 e.length,.vec 1 e.length],[.vec (s.1.map qau) 1,.vec (s.2.map qau) 1]⟩
theorem qyF (e:List CExpr) (he:e.length≤4096) (hf:∀ x∈e,NodeFit x) :
  (∀ s,qh8 e=.ok s→DPok e.length e.length (e.length*2 ^ 30) s∧qbd L.pure (call L) 2 [0,3,4,23,24,25] [0,2,3,4] 0 qf6 (qoY e (List.replicate e.length 0,List.replicate e.length 0) 0)=some (.normal,qoZ e .junk s)) ∧
  (∀ r,qh8 e=.error r→∃ R,(∃ s:DP,R=qoZ e (.int .i64 3) s)∧qbd L.pure (call L) 2 [0,3,4,23,24,25] [0,2,3,4] 0 qf6 (qoY e (List.replicate e.length 0,List.replicate e.length 0) 0)=some (.ret,R)):=by
 have hdE:=qaY e
 refine qcr e qj8 (qoY e) (qoZ e .junk) (fun _ R=>∃ s:DP,R=qoZ e (.int .i64 3) s) (fun s i=>DPok e.length i (i*2 ^ 30) s) _ ?_ ?_ ?_ ?_
 ·exact⟨by simp,by simp,Bd.zeros _,Bd.zeros _⟩
 ·intro i hi s s' hs hq
  obtain⟨h1,h2,h3⟩:=qaN qam e (by omega) i hi
  have hx:=hf e[i] (List.getElem_mem hi)
  obtain⟨hl,_⟩:=quf (L:=L) e i hi e[i] hx.kids s i (i*2 ^ 30) (by omega) (by omega) (by omega) (by omega) hs
  generalize e[i]=x at *
  unfold qj8 at hq
  cases hr:qbs (qrL i) x.kids 0 s with
  | error _=>rw[hr] at hq;cases hq
  | ok t =>
    rw[hr] at hq
    injection hq with hq
    subst hq
    obtain⟨ht,hl⟩:=hl t hr
    have hgt:=ht.b1.get (by omega) i
    have hlen:=hx.kids
    refine⟨?_,⟨by simp[ht.l1],ht.l2,(ht.b1.mono (by omega)).set _ _ (by omega),ht.b2.mono (by omega)⟩⟩
    have g2:=qy9 t.1 i (by rw[ht.l1];exact hi)
    have w1:IntKind.i64.wrap (t.1.getD i 0+1)=t.1.getD i 0+1:=qcl (by omega) (by omega)
    have p2:=qz9 qau t.1 i (t.1.getD i 0+1) (by rw[ht.l1];exact hi)
    have l2:i+1≤t.1.length:=by rw[ht.l1];omega
    simp only[qau] at p2
    unfold qm1 qm2 at hl
    simp only[Int.natCast_zero] at hl
    unfold qf6 qoY
    simp -implicitDefEqProofs only[ev_,aOp,opd,qaa,qaq,qaA,qbq,qaz,qad,qab,qag,qaL,qaK,qai,leaf,qao,qav,ren,renC,qaW,qbc,↓reduceIte,reduceCtorEq,Nat.reduceEqDiff,Nat.reduceAdd,Nat.reduceLT,Nat.reduceLeDiff,qaR,qah,qak,qbl,qb2,qbI,qb3,qbV,Nat.mul_one,h1,h2,h3,g2,w1,p2,l2,hl,hdE]
 ·intro i hi s r hs hq
  obtain⟨h1,h2,h3⟩:=qaN qam e (by omega) i hi
  have hx:=hf e[i] (List.getElem_mem hi)
  obtain⟨_,hl⟩:=quf (L:=L) e i hi e[i] hx.kids s i (i*2 ^ 30) (by omega) (by omega) (by omega) (by omega) hs
  generalize e[i]=x at *
  unfold qj8 at hq
  cases hr:qbs (qrL i) x.kids 0 s with
  | ok t=>rw[hr] at hq;cases hq
  | error u =>
    obtain⟨R,⟨t,rfl⟩,hl⟩:=hl u hr
    refine⟨_,⟨t,rfl⟩,?_⟩
    unfold qm1 qm2 at hl
    simp only[Int.natCast_zero] at hl
    unfold qf6 qoY qoZ
    simp -implicitDefEqProofs only[ev_,aOp,opd,qaa,qaq,qaA,qbq,qaz,qad,qab,qag,qaL,qaK,qai,leaf,qao,gcE,qav,ren,renC,qaW,qbc,↓reduceIte,reduceCtorEq,Nat.reduceEqDiff,Nat.reduceAdd,Nat.reduceLT,Nat.reduceLeDiff,qaR,qah,qak,qbl,qb2,qbI,qb3,qbV,h1,h2,h3,hl,hdE]
 ·intro s hs
  have h0:=qaO e.length
  unfold qf6 qoY qoZ
  simp -implicitDefEqProofs only[ev_,aOp,opd,qaa,qaA,qaz,qab,gcE,qav,ren,renC,qaW,qbc,↓reduceIte,reduceCtorEq,Nat.reduceEqDiff,Nat.reduceAdd,Nat.reduceLT,Nat.reduceLeDiff,qbl,qb2,qbI,qb3,qbV,h0,hdE]
theorem qyG (e:List CExpr) (he:e.length≤4096) (s:DP) (hs:s.2.length=e.length) :
  qbd L.pure (call L) 2 [0,3,70,71,72] [0,2,3] 4 qhb ⟨kt [0,3,70,71,72] [.list (e.map qam) none,.vec 0 e.length,.vec 1 e.length,.int .i64 e.length,.int .i64 ((0:Nat):Int)],[.vec (s.1.map qau) 1,.vec (s.2.map qau) 1]⟩ =
  some (qbx (fun _=>⟨kt [0,2,3] [.list (e.map qam) none,.int .i64 3,.vec 0 e.length],[.vec (s.1.map qau) 1,.vec (s.2.map qau) 1]⟩) ⟨kt [0,2,3] [.list (e.map qam) none,.junk,.vec 0 e.length],[.vec (s.1.map qau) 1,.vec (s.2.map qau) 1]⟩
   (qaI (fun i p=>if qfg e.length i p=true then some () else none) s.2 0)):=by
 have hdE:=qaY e
 have hround:∀ (i:Nat) (hi:i<s.2.length),qa8 L.pure (call L) 2 [0,3,70,71,72] [0,2,3] qhb ⟨kt [0,3,70,71,72] [.list (e.map qam) none,.vec 0 e.length,.vec 1 e.length,.int .i64 e.length,.int .i64 i],[.vec (s.1.map qau) 1,.vec (s.2.map qau) 1]⟩ =
   some (if qfg e.length i s.2[i]=true then (.ret,⟨kt [0,2,3] [.list (e.map qam) none,.int .i64 3,.vec 0 e.length],[.vec (s.1.map qau) 1,.vec (s.2.map qau) 1]⟩) else
    (.normal,⟨kt [0,3,70,71,72] [.list (e.map qam) none,.vec 0 e.length,.vec 1 e.length,.int .i64 e.length,.int .i64 ((i+1:Nat):Int)],[.vec (s.1.map qau) 1,.vec (s.2.map qau) 1]⟩)):=by
  intro i hi
  obtain⟨h1,h2,h3⟩:=qaN qau s.2 (by omega) i hi
  rw[hs] at h1
  have w:IntKind.i64.wrap ((e.length:Int)-1)=(e.length:Int)-1:=qcl (by omega) (by omega)
  have hge:s.2.getD i 0=s.2[i]:=by simp[hi]
  generalize s.2[i]=p at *
  unfold qfg
  by_cases hlt:(i:Int)<(e.length:Int)-1<;>cases h5:(p==1)<;>unfold qhb<;>simp -implicitDefEqProofs only[ev_,aOp,opd,qaa,qaA,qbq,qaz,aEq,qad,qab,qag,gcE,qav,ren,renC,qaW,qbc,↓reduceIte,reduceCtorEq,Nat.reduceEqDiff,Nat.reduceAdd,Nat.reduceLT,Nat.reduceLeDiff,qa9,qbl,qb2,qbI,qb3,qbV,Nat.mul_one,h1,h2,h3,w,hlt,h5,hdE,bne]
 refine qcO s.2 (fun i p=>if qfg e.length i p=true then some () else none) (fun i=>⟨kt [0,3,70,71,72] [.list (e.map qam) none,.vec 0 e.length,.vec 1 e.length,.int .i64 e.length,.int .i64 i],_⟩) _ _ ?_ ?_ ?_
 ·intro i hi hq
  rw[hround i hi,if_neg]
  intro hx
  simp[hx] at hq
 ·intro i hi r hq
  cases hx:qfg e.length i s.2[i] with
  | false=>simp[hx] at hq
  | true=>rw[hround i hi,if_pos hx]
 ·have h0:=qaO e.length
  rw[hs]
  unfold qhb
  simp -implicitDefEqProofs only[ev_,aOp,opd,qaa,qaA,qaz,qab,gcE,qav,ren,renC,qaW,qbc,↓reduceIte,reduceCtorEq,Nat.reduceEqDiff,Nat.reduceAdd,Nat.reduceLT,Nat.reduceLeDiff,qbl,qb2,qbI,qb3,qbV,h0,hdE]
theorem qkz:qhZ [[],[0],[1,1],[],[3],[4,4],[2,0,1,2],[5,6,0,1,2,3,4,5,6]] 8 (List.replicate 8 false)=[[0,1,2,3,4,5,6,7],[0,1,2,3,4,6,5,7],[0,1,2,3,6,4,5,7],[0,1,2,6,3,4,5,7],[0,1,3,2,4,5,6,7],[0,1,3,2,4,6,5,7],[0,1,3,2,6,4,5,7],[0,1,3,4,2,5,6,7],[0,1,3,4,2,6,5,7],[0,1,3,4,5,2,6,7],[0,3,1,2,4,5,6,7],[0,3,1,2,4,6,5,7],[0,3,1,2,6,4,5,7],[0,3,1,4,2,5,6,7],[0,3,1,4,2,6,5,7],[0,3,1,4,5,2,6,7],[0,3,4,1,2,5,6,7],[0,3,4,1,2,6,5,7],[0,3,4,1,5,2,6,7],[0,3,4,5,1,2,6,7],[3,0,1,2,4,5,6,7],[3,0,1,2,4,6,5,7],[3,0,1,2,6,4,5,7],[3,0,1,4,2,5,6,7],[3,0,1,4,2,6,5,7],[3,0,1,4,5,2,6,7],[3,0,4,1,2,5,6,7],[3,0,4,1,2,6,5,7],[3,0,4,1,5,2,6,7],[3,0,4,5,1,2,6,7],[3,4,0,1,2,5,6,7],[3,4,0,1,2,6,5,7],[3,4,0,1,5,2,6,7],[3,4,0,5,1,2,6,7],[3,4,5,0,1,2,6,7]]:=by
 decide
theorem qzF (n:Nat):List.replicate n (AVal.int .i64 0)=(List.replicate n 0).map qau:=by
 rw[List.map_replicate]
 rfl
theorem qyH (e:List CExpr) (he:e.length≤4096) (tm:Tmps) (h0:tm 0=.list (e.map qam) none) :
  qaS L.pure (call L) qgJ ⟨tm,[]⟩=some (.normal,⟨kt [0,3,4] [.list (e.map qam) none,.vec 0 e.length,.vec 1 e.length],[.vec ((List.replicate e.length 0).map qau) 1,.vec ((List.replicate e.length 0).map qau) 1]⟩):=by
 have hdE:=qaY e
 have hn:((e.length:Int)≤1073741824):=by omega
 unfold qgJ
 rw[qll]
 refine qzj ?_ ?_
 ·unfold qmU
  simp only[List.length_cons,List.length_nil,Nat.reduceAdd,qkz]
  simp
 ·intro σ hσ
  unfold qmU at hσ
  simp only[List.length_cons,List.length_nil,Nat.reduceAdd,qkz] at hσ
  obtain⟨is,his,rfl⟩:=List.mem_map.1 hσ
  simp only[List.mem_cons,List.not_mem_nil,or_false] at his
  have hz:=qzF e.length
  clear hσ
  rcases his with rfl | rfl | rfl | rfl | rfl | rfl | rfl | rfl | rfl | rfl | rfl | rfl | rfl | rfl | rfl | rfl | rfl | rfl | rfl | rfl | rfl | rfl | rfl | rfl | rfl | rfl | rfl | rfl | rfl | rfl | rfl | rfl | rfl | rfl | rfl <;>
   simp -implicitDefEqProofs only[ev_,aOp,opd,qaa,qbq,gcE,qav,ren,renC,qaW,qbc,↓reduceIte,reduceCtorEq,Nat.reduceEqDiff,Nat.reduceAdd,Nat.reduceLT,qbl,qbI,qbV,Int.le_refl,List.filterMap_cons,List.filterMap_nil,h0,hn,hz,hdE]
include hL
theorem qyI (h190:L.fns 190=some fn190) (e:List CExpr) (hf:∀ x∈e,NodeFit x) (hlen:e.length<2 ^ 30) (h:Heap) :
  pcall L 190 [.list (e.map qam) none] h=some (.val (.int .i64 (qek e)),h):=by
 have hdE:=qaY e
 refine qa5 hL h190 rfl ?_ h
 unfold qek
 by_cases h1:(4096:Int)<e.length
 ·unfold fn190
  simp -implicitDefEqProofs only[ev_,aOp,opd,qaa,qaA,qbq,qaz,qab,qap,qac,qaf,qaj,↓reduceIte,reduceCtorEq,gt_iff_lt,qal,h1]
 by_cases h2:e.length=0
 ·have h2':((e.length:Int)==0)=true:=by simp[h2]
  rw[if_neg h1,if_pos h2]
  unfold fn190
  simp -implicitDefEqProofs only[ev_,aOp,opd,qaa,qaA,qbq,qaz,qab,qap,qac,qaf,qaj,↓reduceIte,reduceCtorEq,gt_iff_lt,qal,h1,h2']
 have h2':((e.length:Int)==0)=false:=by simpa using h2
 have he:e.length≤4096:=by omega
 have hmk:=qyH (L:=L) e he
 obtain⟨ha,hb⟩:=qyF (L:=L) e he hf
 rw[if_neg h1,if_neg h2]
 cases hr:qh8 e with
 | error u =>
   obtain⟨R,⟨t,rfl⟩,hl⟩:=hb u hr
   unfold qoY qoZ at hl
   simp only[Int.natCast_zero] at hl
   unfold fn190
   generalize qgJ=M at *
   simp -implicitDefEqProofs only[ev_,aOp,opd,qaa,qaA,qbq,qaz,qab,qap,qac,qaf,qaj,qav,ren,renC,qaW,qbc,↓reduceIte,reduceCtorEq,Nat.reduceEqDiff,Nat.reduceAdd,Nat.reduceLT,Nat.reduceLeDiff,gt_iff_lt,qal,qbl,qb2,qbI,qb3,qbV,h1,h2',hmk,hl,hdE]
 | ok s =>
   obtain⟨hs,hl⟩:=ha s hr
   have hl2:=qyG (L:=L) e he s hs.l2
   unfold qoY qoZ at hl
   simp only[Int.natCast_zero] at hl hl2
   have w:IntKind.i64.wrap ((e.length:Int)-1)=((e.length-1:Nat):Int):=by rw[qcl (by omega) (by omega)];omega
   have b:(((e.length-1:Nat):Int)<e.length):=by omega
   have g:=qy9 s.1 (e.length-1) (by rw[hs.l1];omega)
   dsimp only
   cases hq:qaI (fun i p=>if qfg e.length i p=true then some () else none) s.2 0 with
   | some u =>
     simp only[hq,qbx] at hl2
     unfold fn190
     generalize qgJ=M at *
     simp -implicitDefEqProofs only[ev_,aOp,opd,qaa,qaA,qbq,qaz,qab,qap,qac,qaf,qaj,qav,ren,renC,qaW,qbc,↓reduceIte,reduceCtorEq,Nat.reduceEqDiff,Nat.reduceAdd,Nat.reduceLT,Nat.reduceLeDiff,gt_iff_lt,qal,qbl,qb2,qbI,qb3,qbV,h1,h2',hmk,hl,hl2,hdE]
   | none =>
     simp only[hq,qbx] at hl2
     by_cases h4:400<s.1.getD (e.length-1) 0
     ·unfold fn190
      generalize qgJ=M at *
      simp -implicitDefEqProofs only[ev_,aOp,opd,qaa,qaA,qbq,qaz,qad,qab,qag,qap,qac,qaf,qaj,qav,ren,renC,qaW,qbc,↓reduceIte,reduceCtorEq,Nat.reduceEqDiff,Nat.reduceAdd,Nat.reduceLT,Nat.reduceLeDiff,gt_iff_lt,qal,qbl,qb2,qbI,qb3,qbV,Nat.mul_one,h1,h2',hmk,hl,hl2,hdE,w,b,g,h4]
     ·unfold fn190
      generalize qgJ=M at *
      simp -implicitDefEqProofs only[ev_,aOp,opd,qaa,qaA,qbq,qaz,qad,qab,qag,qap,qac,qaf,qaj,qav,ren,renC,qaW,qbc,↓reduceIte,reduceCtorEq,Nat.reduceEqDiff,Nat.reduceAdd,Nat.reduceLT,Nat.reduceLeDiff,gt_iff_lt,qal,qbl,qb2,qbI,qb3,qbV,Nat.mul_one,h1,h2',hmk,hl,hl2,hdE,w,b,g,h4]
end
def qdw (op:Int):Bool:=op==2 || op==4 || op==5
def qbz (op:Int) (binds:List Int) (as:List CAlt):List Int:=(if qdw op=true then binds else [])++as.flatMap (·.binds)
section
variable {L:Lib} (hL:Plain L)
def qyW (as:List CAlt) (s:List Int) (i:Nat):St:=⟨kt [3,34,35,36] [.list (s.map qau) (qdb 0 s.length),.list (as.map qar) none,.int .i64 as.length,.int .i64 i],qbA 1 s.length⟩
def qzI (s:List Int):St:=⟨kt [3] [.list (s.map qau) (qdb 0 s.length)],qbA 1 s.length⟩
theorem qrs (as:List CAlt) (hl:as.length<2 ^ 30) (s0:List Int) (ht:(s0++as.flatMap (·.binds)).length≤2 ^ 30) :
  qbd L.pure (call L) (qbA 1 s0.length).length [3,34,35,36] [3] 0 qbR (qyW as s0 0)=some (.normal,qzI (s0++as.flatMap (·.binds))):=by
 have hb:(qbA 1 s0.length).length=0∨((qbA 1 s0.length).length=1∧s0≠[]):=by
  cases s0 with
  | nil=>exact .inl rfl
  | cons a l=>exact .inr ⟨rfl,by simp⟩
 generalize (qbA 1 s0.length).length=b at hb
 have key:=qeu (pure:=L.pure) (call:=call L) (b:=b) (keep:=[3,34,35,36]) (fk:=[3]) (id:=0) (body:=qbR) as (fun s a=>s++a.binds) (qyW as) qzI
  (fun s i=>s++(as.drop i).flatMap (·.binds)=s0++as.flatMap (·.binds)∧(b=0∨(b=1∧s≠[]))) s0 ⟨rfl,hb⟩ ?_ ?_
 ·obtain⟨⟨h1,_⟩,h2⟩:=key
  rw[List.drop_length,List.flatMap_nil,List.append_nil] at h1
  rw[h2,h1]
 ·intro i hi s hs
  obtain⟨h1,h2,h3⟩:=qaN qar as hl i hi
  obtain⟨hs1,hs2⟩:=hs
  have hd:as.drop i=as[i]::as.drop (i+1):=List.drop_eq_getElem_cons hi
  rw[hd,List.flatMap_cons] at hs1
  have hlen:s.length+as[i].binds.length≤1073741824:=by
   have:=congrArg List.length hs1
   simp only[List.length_append] at this ht
   omega
  refine⟨?_,by rw[List.append_assoc];exact hs1,by rcases hs2 with h | ⟨h,h'⟩;exact .inl h;exact .inr ⟨h,by simp[h']⟩⟩
  clear hs1 hd ht
  generalize as[i]=a at *
  have hs1:=qcR s
  have hs3:=qcR a.binds
  unfold qyW
  by_cases hab:a.binds=[]
  ·rw[hab,List.append_nil]
   by_cases hz:s=[]
   ·subst hz
    rcases hs2 with rfl | ⟨rfl,h⟩
    ·unfold qbR
     simp -implicitDefEqProofs only[ev_,aOp,opd,qaa,qaq,qaA,qaz,qad,qab,qag,qaL,qaK,qai,leaf,qao,qav,ren,renC,qaW,qbc,qa4,↓reduceIte,Nat.reduceEqDiff,Nat.reduceAdd,qbP,qbE,qaQ,qak,h1,h2,h3,hab]
    ·exact absurd rfl h
   ·have o1:=qcs (b:=0) (List.length_pos_iff.2 hz)
    have o2:=qb0 (sz:=1) (List.length_pos_iff.2 hz)
    rcases hs2 with rfl | ⟨rfl,h⟩<;>unfold qbR<;>simp -implicitDefEqProofs only[ev_,aOp,opd,qaa,qaq,qaA,qaz,qad,qab,qag,qaL,qaK,qai,leaf,qao,qav,ren,renC,qaW,qbc,qa4,↓reduceIte,Nat.reduceEqDiff,Nat.reduceAdd,Nat.reduceLT,Nat.reduceLeDiff,qaQ,qah,qak,h1,h2,h3,hab,o1,o2,qah]
  ·have hab':((a.binds.map qau)=[])=False:=by simpa using hab
   by_cases hz:s=[]
   ·subst hz
    have o3:=qcs (b:=0) (List.length_pos_iff.2 hab)
    have o4:=qb0 (sz:=1) (List.length_pos_iff.2 hab)
    have hlen:a.binds.length≤1073741824:=by simpa using hlen
    rcases hs2 with rfl | ⟨rfl,h⟩
    ·unfold qbR
     simp -implicitDefEqProofs only[ev_,aOp,opd,qaa,qaq,qaA,qaz,qad,qab,qag,qaL,qaK,qai,leaf,qao,qav,ren,renC,qaW,qbc,qa4,↓reduceIte,Nat.reduceEqDiff,Nat.reduceAdd,Nat.reduceLT,qbP,qbE,qaQ,qah,qak,h1,h2,h3,hab',hlen,hs3,o3,o4]
    ·exact absurd rfl h
   ·have o1:=qcs (b:=0) (List.length_pos_iff.2 hz)
    have o2:=qb0 (sz:=1) (List.length_pos_iff.2 hz)
    have hpos:=List.length_pos_iff.2 hz
    have o3:qdb 0 (s.length+a.binds.length)=some (some 0):=qcs (by omega)
    have o4:qbA 1 (s.length+a.binds.length)=[.tail (s.length+a.binds.length) 1]:=qb0 (by omega)
    rcases hs2 with rfl | ⟨rfl,h⟩<;>unfold qbR<;>simp -implicitDefEqProofs only[ev_,aOp,opd,qaa,qaq,qaA,qaz,qad,qab,qag,qaL,qaK,qai,leaf,qao,qav,ren,renC,qaW,qbc,qa4,↓reduceIte,Nat.reduceEqDiff,Nat.reduceAdd,Nat.reduceLT,Nat.reduceLeDiff,qaQ,qah,qak,h1,h2,h3,hab',hlen,hs1,hs3,o1,o2,o3,o4]
 ·intro s hs
  have h0:=qaO as.length
  unfold qyW qzI
  cases s with
  | nil => 
    rcases hs.2 with rfl | ⟨rfl,h⟩
    ·unfold qbR
     simp -implicitDefEqProofs only[ev_,aOp,opd,qaa,qaA,qaz,qab,gcE,qav,ren,renC,qaW,qbc,↓reduceIte,Nat.reduceEqDiff,qbP,qbE,h0]
    ·exact absurd rfl h
  | cons x s =>
    rcases hs.2 with rfl | ⟨rfl,h⟩<;>unfold qbR<;>simp -implicitDefEqProofs only[ev_,aOp,opd,qaa,qaA,qaz,qab,gcE,qav,ren,renC,qaW,qbc,↓reduceIte,Nat.reduceEqDiff,Nat.reduceLT,Nat.reduceLeDiff,qez,qdZ,qa9,qah,h0]
include hL
theorem qlc (h232:L.fns 232=some fn232) (op n:Int) (binds:List Int) (K:AVal) (hK:qax K=true) (as:List CAlt) (hl:as.length<2 ^ 30) (ht:(binds++as.flatMap (·.binds)).length≤2 ^ 30) (h:Heap) :
  pcall L 232 [.vptr [.int .i64 op,.int .i64 n,.list (binds.map qau) none,K,.list (as.map qar) none] 0] h=some (.val (.list ((qbz op binds as).map qau) none),h):=by
 refine qa5 hL h232 (by rw[qaT];exact qah _) ?_ h
 have tail:∀ (s0:List Int) (tm:Tmps),(s0++as.flatMap (·.binds)).length≤2 ^ 30→tm 0=.vptr [.int .i64 op,.int .i64 n,.list (binds.map qau) none,K,.list (as.map qar) none] 0→tm 3=.list (s0.map qau) (qdb 0 s0.length) →
   qou (qap [.tmp 2] (qaS L.pure (call L) qdS ⟨tm,qbA 1 s0.length⟩))=some (.val (.list ((s0++as.flatMap (·.binds)).map qau) none)):=by
  intro s0 tm hlen h0 h3
  have hloop:=qrs (L:=L) as hl s0 hlen
  unfold qyW qzI at hloop
  simp only[Int.natCast_zero] at hloop
  generalize s0++as.flatMap (·.binds)=r at *
  rcases qeA 0 1 s0.length with ⟨o1,o2⟩ | ⟨o1,o2⟩<;>rw[o1,o2] at hloop<;>rw[o1] at h3<;>rw[o2] <;>
   rcases qeA 0 1 r.length with ⟨o3,o4⟩ | ⟨o3,o4⟩<;>rw[o3,o4] at hloop<;>simp only[List.length_nil,List.length_cons,Nat.zero_add] at hloop <;>
   unfold qdS<;>simp -implicitDefEqProofs only[ev_,aOp,opd,qaa,qbq,qag,qai,qap,qac,qaf,qaj,qav,ren,renC,qaW,qbc,↓reduceIte,Nat.reduceEqDiff,Nat.reduceLT,Nat.reduceLeDiff,qal,qah,qak,h0,h3,hloop]
 have hlB:(as.flatMap (·.binds)).length≤2 ^ 30:=by rw[List.length_append] at ht;omega
 have hall:=qcR binds
 have hbl:binds.length≤1073741824:=by rw[List.length_append] at ht;omega
 unfold qbz
 have T:=tail
 cases ho:qdw op with
 | true =>
   have e:(op==2)=true∨((op==2)=false∧(op==4)=true)∨((op==2)=false∧(op==4)=false∧(op==5)=true):=by
    unfold qdw at ho
    revert ho
    cases (op==2)<;>cases (op==4)<;>cases (op==5)<;>simp
   rw[if_pos rfl]
   unfold fn232 qpJ
   by_cases hb:binds=[]
   ·subst hb
    have T0:=T [] 
    simp only[List.map_nil,List.length_nil,qbP,qbE,List.nil_append] at T0
    generalize qdS=t at *
    rcases e with e1 | ⟨e1,e2⟩ | ⟨e1,e2,e3⟩
    ·simp -implicitDefEqProofs only[ev_,aOp,opd,qaa,qaA,qaz,qab,qae,qag,qai,qap,qac,qaf,qaj,qa4,↓reduceIte,reduceCtorEq,Nat.reduceEqDiff,e1]
     refine T0 _ hlB ?_ ?_<;>simp -implicitDefEqProofs only[ev_,↓reduceIte,reduceCtorEq]
    ·simp -implicitDefEqProofs only[ev_,aOp,opd,qaa,qaA,qaz,qab,qae,qag,qai,qap,qac,qaf,qaj,qa4,↓reduceIte,reduceCtorEq,Nat.reduceEqDiff,e1,e2]
     refine T0 _ hlB ?_ ?_<;>simp -implicitDefEqProofs only[ev_,↓reduceIte,reduceCtorEq]
    ·simp -implicitDefEqProofs only[ev_,aOp,opd,qaa,qaA,qaz,qab,qae,qag,qai,qap,qac,qaf,qaj,qa4,↓reduceIte,reduceCtorEq,Nat.reduceEqDiff,e1,e2,e3]
     refine T0 _ hlB ?_ ?_<;>simp -implicitDefEqProofs only[ev_,↓reduceIte,reduceCtorEq]
   ·have hb':((binds.map qau)=[])=False:=by simpa using hb
    have o1:=qcs (b:=0) (List.length_pos_iff.2 hb)
    have o2:=qb0 (sz:=1) (List.length_pos_iff.2 hb)
    have T1:=T binds
    rw[o1,o2,List.map_append] at T1
    generalize qdS=t at *
    rcases e with e1 | ⟨e1,e2⟩ | ⟨e1,e2,e3⟩
    ·simp -implicitDefEqProofs only[ev_,aOp,opd,qaa,qaA,qaz,qab,qae,qag,qai,qap,qac,qaf,qaj,qa4,↓reduceIte,reduceCtorEq,Nat.reduceEqDiff,e1,hb',hall,hbl]
     refine T1 _ ht ?_ ?_<;>simp -implicitDefEqProofs only[ev_,↓reduceIte,reduceCtorEq]
    ·simp -implicitDefEqProofs only[ev_,aOp,opd,qaa,qaA,qaz,qab,qae,qag,qai,qap,qac,qaf,qaj,qa4,↓reduceIte,reduceCtorEq,Nat.reduceEqDiff,e1,e2,hb',hall,hbl]
     refine T1 _ ht ?_ ?_<;>simp -implicitDefEqProofs only[ev_,↓reduceIte,reduceCtorEq]
    ·simp -implicitDefEqProofs only[ev_,aOp,opd,qaa,qaA,qaz,qab,qae,qag,qai,qap,qac,qaf,qaj,qa4,↓reduceIte,reduceCtorEq,Nat.reduceEqDiff,e1,e2,e3,hb',hall,hbl]
     refine T1 _ ht ?_ ?_<;>simp -implicitDefEqProofs only[ev_,↓reduceIte,reduceCtorEq]
 | false =>
   have e:(op==2)=false∧(op==4)=false∧(op==5)=false:=by
    unfold qdw at ho
    revert ho
    cases (op==2)<;>cases (op==4)<;>cases (op==5)<;>simp
   obtain⟨e1,e2,e3⟩:=e
   rw[if_neg (by decide)]
   unfold fn232
   generalize qdS=t at *
   simp -implicitDefEqProofs only[ev_,aOp,opd,qaa,qaA,qaz,qab,qae,qag,qai,qap,qac,qaf,qaj,↓reduceIte,reduceCtorEq,Nat.reduceEqDiff,e1,e2,e3]
   have:=T [] 
   rw[List.nil_append] at this
   exact this _ hlB (by simp -implicitDefEqProofs only[ev_,↓reduceIte,reduceCtorEq]) (by simp -implicitDefEqProofs only[ev_,↓reduceIte,Nat.reduceEqDiff,qbP])
def qbg (op:Int) (binds:List Int) (as:List CAlt) (k:Nat):List Int :=
 if op=2∨op=5∨(op=4∧k=1) then binds else if 0<k then (match as[k-1]? with | some a=>a.binds | none=>[]) else []
theorem qqk (h236:L.fns 236=some fn236) (op n:Int) (binds:List Int) (K:AVal) (as:List CAlt) (hl:as.length<2 ^ 30) (k:Nat) (hk:k<2 ^ 30) (h:Heap) :
  pcall L 236 [.vptr [.int .i64 op,.int .i64 n,.list (binds.map qau) none,K,.list (as.map qar) none] 0,.int .i64 k] h=some (.val (.list ((qbg op binds as k).map qau) none),h):=by
 refine qa5 hL h236 (by rw[qaT];exact qah _) ?_ h
 unfold qbg
 by_cases h2:op=2
 ·subst h2
  unfold fn236
  simp -implicitDefEqProofs only[ev_,aOp,opd,qaa,qaA,qaz,qab,qag,qai,qap,qac,qaf,qaj,↓reduceIte,reduceCtorEq,Int.reduceEq,qal]
 by_cases h5:op=5
 ·subst h5
  unfold fn236
  simp -implicitDefEqProofs only[ev_,aOp,opd,qaa,qaA,qaz,qab,qag,qai,qap,qac,qaf,qaj,↓reduceIte,reduceCtorEq,Int.reduceEq,Int.reduceBEq,qal]
 have e2:(op==2)=false:=by simpa using h2
 have e5:(op==5)=false:=by simpa using h5
 have rest:∀ (b4:Bool),(op==4)=b4→(b4=true→((k:Int)==1)=false) →
   qou (qap fn236.results (qaS L.pure (call L) fn236.body ⟨qdT [.vptr [.int .i64 op,.int .i64 n,.list (binds.map qau) none,K,.list (as.map qar) none] 0,.int .i64 k],[]⟩)) =
    some (.val (.list ((if 0<k then (match as[k-1]? with | some a=>a.binds | none=>[]) else []).map qau) none)):=by
  intro b4 e4 hb
  by_cases ha:(0:Int)<as.length
  ·by_cases h0:(0:Int)<k
   ·have h0':0<k:=by omega
    by_cases hle:(k:Int)≤as.length
    ·have hlt:k-1<as.length:=by omega
     have w:IntKind.i64.wrap ((k:Int)-1)=((k-1:Nat):Int):=by rw[qcl (by omega) (by omega)];omega
     have g:(as.map qar)[k-1]? = some (qar as[k-1]):=by simp[hlt]
     rw[if_pos h0',List.getElem?_eq_getElem hlt]
     dsimp only
     generalize as[k-1]=a at *
     cases b4 with
     | true=>have hb:=hb rfl;unfold fn236;simp -implicitDefEqProofs only[ev_,aOp,opd,qaa,qaA,qbq,qaz,qad,qab,qae,qag,qai,qap,qac,qaf,qaj,↓reduceIte,reduceCtorEq,Nat.reduceEqDiff,Nat.reduceAdd,gt_iff_lt,qal,qaQ,e2,e5,e4,hb,ha,h0,hle,w,g]
     | false=>unfold fn236;simp -implicitDefEqProofs only[ev_,aOp,opd,qaa,qaA,qbq,qaz,qad,qab,qae,qag,qai,qap,qac,qaf,qaj,↓reduceIte,reduceCtorEq,Nat.reduceEqDiff,Nat.reduceAdd,gt_iff_lt,qal,qaQ,e2,e5,e4,ha,h0,hle,w,g]
    ·rw[if_pos h0',List.getElem?_eq_none (by omega)]
     dsimp only
     cases b4 with
     | true=>have hb:=hb rfl;unfold fn236;simp -implicitDefEqProofs only[ev_,aOp,opd,qaa,qaA,qbq,qaz,qab,qae,qag,qai,qap,qac,qaf,qaj,↓reduceIte,reduceCtorEq,Nat.reduceEqDiff,gt_iff_lt,qal,e2,e5,e4,hb,ha,h0,hle]
     | false=>unfold fn236;simp -implicitDefEqProofs only[ev_,aOp,opd,qaa,qaA,qbq,qaz,qab,qae,qag,qai,qap,qac,qaf,qaj,↓reduceIte,reduceCtorEq,Nat.reduceEqDiff,gt_iff_lt,qal,e2,e5,e4,ha,h0,hle]
   ·rw[if_neg (by omega)]
    cases b4 with
    | true=>have hb:=hb rfl;unfold fn236;simp -implicitDefEqProofs only[ev_,aOp,opd,qaa,qaA,qbq,qaz,qab,qae,qag,qai,qap,qac,qaf,qaj,↓reduceIte,reduceCtorEq,Nat.reduceEqDiff,gt_iff_lt,qal,e2,e5,e4,hb,ha,h0]
    | false=>unfold fn236;simp -implicitDefEqProofs only[ev_,aOp,opd,qaa,qaA,qbq,qaz,qab,qae,qag,qai,qap,qac,qaf,qaj,↓reduceIte,reduceCtorEq,Nat.reduceEqDiff,gt_iff_lt,qal,e2,e5,e4,ha,h0]
  ·have:as=[]:=List.length_eq_zero_iff.1 (by omega)
   subst this
   have hx:(if 0<k then (match ([]:List CAlt)[k-1]? with | some a=>a.binds | none=>[]) else [])=([]:List Int):=by
    split<;>simp
   rw[hx]
   cases b4 with
   | true=>have hb:=hb rfl;unfold fn236;simp -implicitDefEqProofs only[ev_,aOp,opd,qaa,qaA,qbq,qaz,qab,qae,qag,qai,qap,qac,qaf,qaj,↓reduceIte,reduceCtorEq,Nat.reduceEqDiff,Int.reduceLT,gt_iff_lt,qal,e2,e5,e4,hb]
   | false=>unfold fn236;simp -implicitDefEqProofs only[ev_,aOp,opd,qaa,qaA,qbq,qaz,qab,qae,qag,qai,qap,qac,qaf,qaj,↓reduceIte,reduceCtorEq,Nat.reduceEqDiff,Int.reduceLT,gt_iff_lt,qal,e2,e5,e4]
 by_cases h4:op=4
 ·by_cases hk1:k=1
  ·subst h4 hk1
   unfold fn236
   simp -implicitDefEqProofs only[ev_,aOp,opd,qaa,qaA,qaz,qab,qae,qag,qai,qap,qac,qaf,qaj,↓reduceIte,reduceCtorEq,Nat.reduceEqDiff,Int.reduceEq,Int.reduceBEq,qal,Int.natCast_one]
  ·rw[if_neg (by omega)]
   exact rest true (by simpa using h4) (fun _=>by simp;omega)
 ·rw[if_neg (by omega)]
  exact rest false (by simpa using h4) (fun h=>by cases h)
end
end Go.Abs
