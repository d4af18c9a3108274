/-
  PARTS OF A PROOF, joined: an abstract machine for quiet code, its evaluation, and what the seat's functions answer on it. Conditions: none.
-/
import Derived.Test.YtjbgooldkkbdmaaDoorHF
import Derived.Test.YtjbgooldkkbdmaaDoorD
set_option linter.unusedVariables false
set_option linter.unusedSimpArgs false
set_option maxRecDepth 100000
set_option maxHeartbeats 4000000
namespace Go.Abs
def OwnT (H:Heap) (own:Option (Option Nat)) (n sz:Nat):Prop:=own=some none∨∃ id,own=some (some id)∧H[id]? = some (.tail n sz)
def Young (b:Nat) (own:Option (Option Nat)):Prop:=own=some none∨∃ t,own=some (some t)∧b≤t
theorem Young.ne {b i:Nat} {own:Option (Option Nat)} (h:Young b own) (hi:i<b):own≠some (some i):=by
 rcases h with h | ⟨t,h,ht⟩
 ·rw[h];intro e;cases e
 ·rw[h];intro e;injection e with e;injection e with e;omega
theorem Young.le {a b:Nat} {own:Option (Option Nat)} (h:Young b own) (hi:a≤b):Young a own:=by
 rcases h with h | ⟨t,h,ht⟩
 ·exact .inl h
 ·exact .inr ⟨t,h,by omega⟩
theorem OwnT.frame {H H':Heap} {own:Option (Option Nat)} {n sz:Nat} (h:OwnT H own n sz) (he:∀ id,own=some (some id)→H'[id]? = H[id]?):OwnT H' own n sz:=by
 rcases h with h | ⟨id,h1,h2⟩
 ·exact .inl h
 ·exact .inr ⟨id,h1,by rw[he id h1];exact h2⟩
structure App (H:Heap) (own:Option (Option Nat)) (n sz:Nat) (own':Option (Option Nat)) (H':Heap):Prop where
 owns:OwnT H' own' n sz
 len:H.length≤H'.length
 keep:∀ i,i<H.length→own≠some (some i)→H'[i]? = H[i]?
 new:own'=own∨∃ t,own'=some (some t)∧H.length≤t
theorem App.young {H:Heap} {own own':Option (Option Nat)} {n sz:Nat} {H':Heap} (h:App H own n sz own' H') {b:Nat} (hb:b≤H.length) (hy:Young b own):Young b own':=by
 rcases h.new with h | ⟨t,h,ht⟩
 ·rw[h];exact hy
 ·exact .inr ⟨t,h,by omega⟩
theorem qrA (ps:List Nat):((ps.map qbE).all fun v=>decide ((acells v).length=1))=true:=by
 rw[List.all_eq_true]
 intro v hv
 obtain⟨q,_,rfl⟩:=List.mem_map.1 hv
 rfl
def RA (l:List CAlt) (v:List AVal):Prop:=v=l.map qao
theorem RA.snoc {a:CAlt} {l:List CAlt} {v:List AVal} (h:RA l v):RA (l++[a]) (v++[.agg [.int .i64 a.tag,.list (a.binds.map qat) none]]):=by
 rw[show v=_ from h]
 show _=(l++[a]).map qao
 rw[List.map_append]
 rfl
theorem RA.len {l:List CAlt} {v:List AVal} (h:RA l v):v.length=l.length:=by rw[show v=_ from h,List.length_map]
theorem RA.all {l:List CAlt} {v:List AVal} (h:RA l v):(v.all fun x=>decide ((acells x).length=2))=true:=by rw[show v=_ from h];exact qcL l
section
end
section
variable {L:Lib}
def quH (x:CExpr) (ps:List Nat) (H:Heap) (p:Nat):Prop :=
 ∃ ob ok avs oa,H[p]? = some (nb x (.list (x.binds.map qat) ob) (.list ((x.kids.map fun k=>ps.getD k.toNat 0).map qbE) ok) (.list avs oa))∧RA x.alts avs
structure OJ (e:List CExpr) (w0 i:Nat) (H:Heap) (ps:List Nat) (ow:Option (Option Nat)) (rt:AVal):Prop where
 len:ps.length=i
 work:H[w0]? = some (.box [.list (ps.map qbE) ow,rt])
 owns:OwnT H ow i 1
 young:Young (w0+1) ow
 nodup:ps.Nodup
 low:∀ p∈ps,w0<p∧p<H.length
 node:∀ (k:Nat) (hk:k<e.length) (hi:k<ps.length),quH e[k] ps H ps[k]
end
theorem RA.enc (l:List CAlt):RA l (l.map qao):=rfl
theorem RA.get {l:List CAlt} {v:List AVal} {j:Nat} (hj:j<l.length) (h:RA l v):∃ o,v[j]? = some (.agg [.int .i64 l[j].tag,.list (l[j].binds.map qat) o]):=⟨none,by rw[show v=_ from h,List.getElem?_map,List.getElem?_eq_getElem hj];rfl⟩
inductive WS (H:Heap) (S:Nat→Prop):CTree→Nat→Prop
 | mk (op n:Int) (binds:List Int) (kids:List CTree) (alts:List CAlt) (p:Nat) (ps:List Nat) (ob ok:Option (Option Nat)) (avs:List AVal) (oa:Option (Option Nat)) (hp:S p)
   (hbox:H[p]? = some (.box [.int .i64 op,.int .i64 n,.list (binds.map qat) ob,.list (ps.map qbE) ok,.list avs oa])) (ha:RA alts avs) (hl:ps.length=kids.length)
   (hk:∀ (i:Nat) (hi:i<kids.length),WS H S kids[i] (ps[i]'(by omega))):WS H S (.mk op n binds kids alts) p
theorem WS.frame {H H':Heap} {S:Nat→Prop} {t:CTree} {p:Nat} (h:WS H S t p) (he:∀ i,S i→H'[i]? = H[i]?):WS H' S t p:=by
 induction h with
 | mk op n binds kids alts p ps ob ok avs oa hp hbox ha hl hk ih=>exact .mk op n binds kids alts p ps ob ok avs oa hp (by rw[he p hp];exact hbox) ha hl ih
theorem WS.mono {H:Heap} {S S':Nat→Prop} {t:CTree} {p:Nat} (h:WS H S t p) (hb:∀ i,S i→S' i):WS H S' t p:=by
 induction h with
 | mk op n binds kids alts p ps ob ok avs oa hp hbox ha hl hk ih=>exact .mk op n binds kids alts p ps ob ok avs oa (hb p hp) hbox ha hl ih
theorem WS.at_ {H:Heap} {S:Nat→Prop} {t:CTree} {p:Nat} (h:WS H S t p):S p:=by cases h;assumption
theorem WS.lt {H:Heap} {S:Nat→Prop} {t:CTree} {p:Nat} (h:WS H S t p):p<H.length:=by cases h;exact hlt (by assumption)
abbrev WT (H:Heap) (b:Nat) (t:CTree) (p:Nat):Prop:=WS H (fun i=>i<b) t p
theorem WT.frame {H H':Heap} {b:Nat} {t:CTree} {p:Nat} (h:WT H b t p) (he:∀ i,i<b→H'[i]? = H[i]?):WT H' b t p:=WS.frame h he
theorem WT.mono {H:Heap} {b b':Nat} {t:CTree} {p:Nat} (h:WT H b t p) (hb:b≤b'):WT H b' t p:=WS.mono h fun i hi=>Nat.lt_of_lt_of_le hi hb
def RT (H:Heap) (b:Nat) (t:CTree) (v:AVal):Prop:=v=qay t∨∃ p,v=qbE p∧WT H b t p
theorem RT.frame {H H':Heap} {b:Nat} {t:CTree} {v:AVal} (h:RT H b t v) (he:∀ i,i<b→H'[i]? = H[i]?):RT H' b t v:=by
 rcases h with h | ⟨p,h1,h2⟩
 ·exact .inl h
 ·exact .inr ⟨p,h1,h2.frame he⟩
structure NodeV (H:Heap) (b:Nat) (op n:Int) (binds:List Int) (kids:List CTree) (alts:List CAlt) (v:AVal) (ob ok oa:Option (Option Nat)) (kvs avs:List AVal):Prop where
 at_:v=.vptr [.int .i64 op,.int .i64 n,.list (binds.map qat) ob,.list kvs ok,.list avs oa] 0∨∃ p,p<b∧v=.ptr (some (p,0))∧H[p]? = some (.box [.int .i64 op,.int .i64 n,.list (binds.map qat) ob,.list kvs ok,.list avs oa])
 len:kvs.length=kids.length
 kid:∀ (i:Nat) (hi:i<kids.length),∃ kv,kvs[i]? = some kv∧RT H b kids[i] kv∧acells kv=[kv]
 all:(kvs.all fun v=>decide ((acells v).length=1))=true
 alt:RA alts avs
theorem RT.node {H:Heap} {b:Nat} {op n:Int} {binds:List Int} {kids:List CTree} {alts:List CAlt} {v:AVal} (h:RT H b (.mk op n binds kids alts) v):∃ ob ok oa kvs avs,NodeV H b op n binds kids alts v ob ok oa kvs avs:=by
 rcases h with h | ⟨p,h1,h2⟩
 ·refine⟨none,none,none,kids.map qay,alts.map qao,.inl (by rw[h,qba]),by simp,fun i hi=>⟨qay kids[i],by simp[hi],.inl rfl,qd1 _⟩,qli _,RA.enc _⟩
 ·cases h2 with
  | mk _ _ _ _ _ _ ps ob ok avs oa hp hbox ha hl hk =>
    exact⟨ob,ok,oa,ps.map qbE,avs,.inr ⟨p,hp,h1,hbox⟩,by simpa using hl,fun i hi=>⟨qbE (ps[i]'(by omega)),by simp[hl,hi],.inr ⟨_,rfl,hk i hi⟩,rfl⟩,qrA _,ha⟩
def NewO (own own':Option (Option Nat)) (n:Nat):Prop:=own'=own∨∃ t,own'=some (some t)∧n≤t
theorem NewO.young {own own':Option (Option Nat)} {n b:Nat} (h:NewO own own' n) (hb:b≤n) (hy:Young b own):Young b own':=by
 rcases h with h | ⟨t,h,ht⟩
 ·rw[h];exact hy
 ·exact .inr ⟨t,h,by omega⟩
theorem NewO.mono {a b:Option (Option Nat)} {n m:Nat} (h:NewO a b m) (hn:n≤m):NewO a b n:=by
 rcases h with h | ⟨t,h,ht⟩
 ·exact .inl h
 ·exact .inr ⟨t,h,by omega⟩
theorem NewO.trans {o1 o2 o3:Option (Option Nat)} {n m:Nat} (h:NewO o1 o2 n) (h2:NewO o2 o3 m) (hn:n≤m):NewO o1 o3 n:=by
 rcases h2 with h2 | ⟨t,h2,ht⟩
 ·rw[h2];exact h
 ·exact .inr ⟨t,h2,by omega⟩
theorem NewO.ne {own own':Option (Option Nat)} {n i:Nat} (h:NewO own own' n) (hi:i<n) (hne:own≠some (some i)):own'≠some (some i):=by
 rcases h with h | ⟨t,h,ht⟩
 ·rw[h];exact hne
 ·rw[h];intro e;injection e with e;injection e with e;omega
theorem OwnT.ne {H:Heap} {own:Option (Option Nat)} {n sz i:Nat} {o:AObj} (h:OwnT H own n sz) (hi:H[i]? = some o) (ho:∀ a b,o≠.tail a b):own≠some (some i):=by
 intro e
 rcases h with h | ⟨t,h5,h6⟩
 ·rw[h] at e;cases e
 ·rw[h5] at e
  injection e with e
  injection e with e
  subst e
  rw[hi] at h6
  injection h6 with h6
  exact ho _ _ h6
theorem OwnT.keep {H H':Heap} {own o2:Option (Option Nat)} {n sz m sz':Nat} (h:OwnT H own n sz) (h2:OwnT H o2 m sz') (hs:sz≠sz') (hk:∀ i,(∃ a b,H[i]? = some (.tail a b))→o2≠some (some i)→H'[i]? = H[i]?):OwnT H' own n sz:=by
 refine h.frame fun id hid=>?_
 rcases h with h | ⟨t,h5,h6⟩
 ·rw[h] at hid;cases hid
 ·rw[h5] at hid
  injection hid with hid
  injection hid with hid
  subst hid
  refine hk t ⟨_,_,h6⟩ fun e=>?_
  rcases h2 with h | ⟨u,h7,h8⟩
  ·rw[h] at e;cases e
  ·rw[h7] at e
   injection e with e
   injection e with e
   subst e
   rw[h6] at h8
   injection h8 with h8
   injection h8 with h8 h9
   exact hs h9
theorem OwnT.set {H:Heap} {own:Option (Option Nat)} {n sz i:Nat} {o o':AObj} (h:OwnT H own n sz) (hi:H[i]? = some o) (ho:∀ a b,o≠.tail a b):OwnT (H.set i o') own n sz :=
 h.frame fun id hid=>hgn fun e=>by subst e;exact h.ne hi ho hid
section
end
section
end
end Go.Abs
