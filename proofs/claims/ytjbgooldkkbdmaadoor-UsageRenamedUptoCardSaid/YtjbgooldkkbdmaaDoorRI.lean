/-
  PARTS OF A PROOF, joined: an abstract machine for quiet code, its evaluation, and what the seat's functions answer on it. Conditions: none.
-/
import Derived.Test.YtjbgooldkkbdmaaDoorRwH
set_option linter.unusedVariables false
set_option linter.unusedSimpArgs false
set_option maxRecDepth 100000
set_option maxHeartbeats 4000000
namespace Go.Abs
section
end
theorem WS.old {H:Heap} {S:Nat→Prop} {t:CTree} {p:Nat} (h:WS H S t p):WS H (fun i=>S i∧i<H.length) t p:=by
 induction h with
 | mk op n binds kids alts p ps ob ok avs oa hp hbox ha hl hk ih=>exact .mk op n binds kids alts p ps ob ok avs oa ⟨hp,hlt hbox⟩ hbox ha hl ih
section
end
inductive Blw (e:List CExpr):Nat→Nat→Prop
 | refl (k:Nat):Blw e k k
 | step {p c m:Nat} (h:c∈qbw e p) (hb:Blw e c m):Blw e p m
theorem qrG {e:List CExpr} (hA:qh9 e) {p c:Nat} (h:c∈qbw e p):∃ hp:p<e.length,(c:Int)∈e[p].kids∧c<p:=by
 unfold qbw at h
 cases hq:e[p]? with
 | none=>rw[hq] at h;cases h
 | some x =>
   rw[hq] at h
   obtain⟨hp,rfl⟩:=List.getElem?_eq_some_iff.1 hq
   obtain⟨k,hk,rfl⟩:=List.mem_map.1 h
   have:=hA p hp k hk
   exact⟨hp,by rw[Int.toNat_of_nonneg this.1];exact hk,by omega⟩
theorem qpL {e:List CExpr} {p:Nat} (hp:p<e.length) (z:Int):e[p].kids.count z≤(e.flatMap (·.kids)).count z:=by
 induction e generalizing p with
 | nil=>simp at hp
 | cons x xs ih =>
   rw[List.flatMap_cons,List.count_append]
   cases p with
   | zero=>simp
   | succ p =>
     have:=ih (p:=p) (by simpa using hp)
     simp only[List.getElem_cons_succ]
     omega
theorem qi2 {e:List CExpr} {p q:Nat} (hpq:p<q) (hq:q<e.length) (z:Int):(e[p]'(by omega)).kids.count z+e[q].kids.count z≤(e.flatMap (·.kids)).count z:=by
 induction e generalizing p q with
 | nil=>simp at hq
 | cons x xs ih =>
   rw[List.flatMap_cons,List.count_append]
   obtain⟨q,rfl⟩:∃ q',q=q'+1:=⟨q-1,by omega⟩
   have hq':q<xs.length:=by simpa using hq
   cases p with
   | zero =>
     have:=qpL (e:=xs) hq' z
     simp only[List.getElem_cons_zero,List.getElem_cons_succ]
     omega
   | succ p =>
     have:=ih (p:=p) (q:=q) (by omega) hq'
     simp only[List.getElem_cons_succ]
     omega
theorem qwr {e:List CExpr} (hT:TreeL e) {p q c:Nat} (h:c∈qbw e p) (h':c∈qbw e q):p=q:=by
 obtain⟨hp,m1,l1⟩:=qrG hT.ahead h
 obtain⟨hq,m2,l2⟩:=qrG hT.ahead h'
 have ho:=hT.once c (by omega)
 have c1:=List.count_pos_iff.2 m1
 have c2:=List.count_pos_iff.2 m2
 rcases Nat.lt_trichotomy p q with hlt | heq | hgt
 ·have:=qi2 hlt hq (c:Int)
  omega
 ·exact heq
 ·have:=qi2 hgt hp (c:Int)
  omega
theorem qpz {e:List CExpr} (hT:TreeL e) {b c p:Nat} (h:Blw e b c):b≠c→c∈qbw e p→Blw e b p:=by
 induction h with
 | refl=>exact fun hne _=>absurd rfl hne
 | @step q d m hd hb ih =>
   intro hne hc
   by_cases hdm:d=m
   ·subst hdm
    rw[qwr hT hd hc]
    exact .refl _
   ·exact .step hd (ih hdm hc)
def qhb (i:Nat) (t':CTree) (ts:List CTree) (x:CExpr):List CTree:=ts++[if ts.length=i then t' else .mk x.op x.n x.binds (x.kids.map fun k=>ts.getD k.toNat .none) x.alts]
def qjC (e:List CExpr) (i:Nat) (t':CTree) (k:Nat):CTree:=(e.foldl (qhb i t') []).getD k .none
theorem qmd (i:Nat) (t':CTree):∀ (e:List CExpr) (ts:List CTree),(e.foldl (qhb i t') ts).length=ts.length+e.length
 | [],ts=>rfl
 | x::e,ts=>by rw[List.foldl_cons,qmd i t' e,qhb];simp;omega
theorem qja (i:Nat) (t':CTree):∀ (e:List CExpr) (ts:List CTree) (k:Nat),k<ts.length→(e.foldl (qhb i t') ts).getD k .none=ts.getD k .none
 | [],ts,k,_=>rfl
 | x :: e,ts,k,h => by
   rw[List.foldl_cons,qja i t' e _ k (by unfold qhb;simp;omega)]
   unfold qhb
   rw[List.getD_eq_getElem?_getD,List.getD_eq_getElem?_getD,List.getElem?_append_left h]
theorem qsC (i:Nat) (t':CTree) (ts:List CTree) (x:CExpr):(qhb i t' ts x).length=ts.length+1:=by unfold qhb;simp
theorem qqo (i:Nat) (t':CTree) (ts:List CTree) (x:CExpr) {k:Nat} (h:ts.length=k):(qhb i t' ts x).getD k .none=if k=i then t' else .mk x.op x.n x.binds (x.kids.map fun k=>ts.getD k.toNat .none) x.alts:=by
 subst h
 unfold qhb
 rw[List.getD_eq_getElem?_getD,List.getElem?_append_right (Nat.le_refl _),Nat.sub_self]
 rfl
theorem qss (e:List CExpr) (hA:qh9 e) (i:Nat) (t':CTree) (k:Nat) (hk:k<e.length):qjC e i t' k=if k=i then t' else .mk e[k].op e[k].n e[k].binds (e[k].kids.map fun q=>qjC e i t' q.toNat) e[k].alts:=by
 have hs:e=e.take k++e[k]::e.drop (k+1):=by rw[← List.drop_eq_getElem_cons hk,List.take_append_drop]
 have hl:((e.take k).foldl (qhb i t') []).length=k:=by rw[qmd];simp;omega
 have hpre:∀ q,q<k→qjC e i t' q=((e.take k).foldl (qhb i t') []).getD q .none:=by
  intro q hq
  unfold qjC
  conv=>lhs;rw[hs]
  rw[List.foldl_append,qja i t' _ _ q (by rw[hl];exact hq)]
 have hat:qjC e i t' k=(qhb i t' ((e.take k).foldl (qhb i t') []) e[k]).getD k .none:=by
  unfold qjC
  conv=>lhs;rw[hs]
  rw[List.foldl_append,List.foldl_cons,qja i t' _ _ k (by rw[qsC,hl];omega)]
 rw[hat,qqo i t' _ _ hl]
 by_cases hki:k=i
 ·rw[if_pos hki,if_pos hki]
 ·rw[if_neg hki,if_neg hki]
  congr 1
  refine List.map_congr_left fun q hq=>?_
  have:=hA k hk q hq
  exact (hpre q.toNat (by omega)).symm
def At (e:List CExpr) (ps:List Nat) (k:Nat):Nat→Prop:=fun q=>∃ m,Blw e k m∧m<e.length∧q=ps.getD m 0
theorem At.lt {e:List CExpr} {w0:Nat} {H:Heap} {ps:List Nat} {ow:Option (Option Nat)} {rt:AVal} (h:OJ e w0 e.length H ps ow rt) {k q:Nat} (hq:At e ps k q):q<H.length:=by
 obtain⟨m,_,m2,rfl⟩:=hq
 have hl:=h.len
 have:=h.low (ps.getD m 0) (by rw[List.getD_eq_getElem?_getD,List.getElem?_eq_getElem (by omega)];exact List.getElem_mem _)
 exact this.2
theorem glob {e:List CExpr} (hT:TreeL e) {w0:Nat} {H H2:Heap} {ps:List Nat} {ow:Option (Option Nat)} {rt:AVal} (h:OJ e w0 e.length H ps ow rt) {i:Nat} (hi:i<e.length) {t':CTree} {S:Nat→Prop} (hw:WS H2 S t' (ps.getD i 0))
  (hk:∀ k,k<e.length→¬ Blw e i k→H2[ps.getD k 0]? = H[ps.getD k 0]?):∀ k,k<e.length→(k=i∨¬ Blw e i k)→WS H2 (fun _=>True) (qjC e i t' k) (ps.getD k 0):=by
 intro k
 induction k using Nat.strongRecOn with
 | ind k ih =>
   intro hkl hc
   rw[qss e hT.ahead i t' k hkl]
   by_cases hki:k=i
   ·rw[if_pos hki]
    subst hki
    exact hw.mono fun _ _=>trivial
   ·rw[if_neg hki]
    have hnb:¬ Blw e i k:=by
     rcases hc with h | h
     ·exact absurd h hki
     ·exact h
    have hl:=h.len
    obtain⟨ob,ok,avs,oa,n1,n2⟩:=h.node k hkl (by omega)
    have hg:ps.getD k 0=ps[k]'(by omega):=by
     rw[List.getD_eq_getElem?_getD,List.getElem?_eq_getElem (by omega)]
     rfl
    have hh:=hk k hkl hnb
    rw[hg] at hh ⊢
    refine .mk _ _ _ _ _ _ _ ob ok avs oa trivial (by rw[hh];exact n1) n2 (by simp) fun x hx=>?_
    rw[List.length_map] at hx
    rw[List.getElem_map,List.getElem_map]
    have hlt:=hT.ahead k hkl _ (List.getElem_mem hx)
    have hkid:e[k].kids[x].toNat∈qbw e k:=by
     unfold qbw
     rw[List.getElem?_eq_getElem hkl]
     exact List.mem_map_of_mem (List.getElem_mem hx)
    refine ih _ (by omega) (by omega) ?_
    by_cases hci:e[k].kids[x].toNat=i
    ·exact .inl hci
    ·exact .inr fun hb=>hnb (qpz hT hb (fun e=>hci e.symm) hkid)
end Go.Abs
