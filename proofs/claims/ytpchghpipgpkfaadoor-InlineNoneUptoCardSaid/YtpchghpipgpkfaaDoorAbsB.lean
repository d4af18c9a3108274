/-
  The abstract machine without bounds: calls and loops as limits of the bounded ones; each is what its body says.
-/
import Derived.Test.YtpchghpipgpkfaaDoorAbsA
set_option linter.unusedVariables false
namespace Go.Abs
def Le {α:Type} (x y:Option α):Prop:=∀ r,x=some r→y=some r
theorem Le.refl {α:Type} (x:Option α):Le x x:=fun _ h=>h
theorem Le.trans {α:Type} {x y z:Option α} (h:Le x y) (h':Le y z):Le x z:=fun r e=>h' r (h r e)
theorem Le.none {α:Type} (y:Option α):Le (Option.none:Option α) y:=fun _ h=>by cases h
open Classical in
noncomputable def lim {α:Type} (f:Nat→Option α):Option α:=if h:∃ n,(f n).isSome=true then f (Classical.choose h) else none
theorem qmS {α:Type} {f:Nat→Option α} (hm:∀ n,Le (f n) (f (n+1))):∀ {a b:Nat},a≤b→Le (f a) (f b):=by
 intro a b hab
 induction hab with
 | refl=>exact Le.refl _
 | step _ ih=>exact ih.trans (hm _)
theorem qq7 {α:Type} {f:Nat→Option α} (hm:∀ n,Le (f n) (f (n+1))) {r:α}:lim f=some r↔∃ n,f n=some r:=by
 constructor
 ·intro h
  unfold lim at h
  split at h
  ·exact⟨_,h⟩
  ·cases h
 ·rintro ⟨n,hn⟩
  have hx:∃ n,(f n).isSome=true:=⟨n,by rw[hn];rfl⟩
  unfold lim
  rw[dif_pos hx]
  have h1:=Classical.choose_spec hx
  obtain⟨r',hr'⟩:=Option.isSome_iff_exists.1 h1
  rw[hr']
  have a:=qmS hm (Nat.le_max_left n (Classical.choose hx)) r hn
  have b:=qmS hm (Nat.le_max_right n (Classical.choose hx)) r' hr'
  rw[a] at b
  injection b with b
  rw[b]
theorem qlR (body:St→Option (AExit × St)):∀ n s,Le (qdx body n s) (qdx body (n+1) s):=by
 intro n
 induction n with
 | zero=>intro s r h;cases h
 | succ n ih =>
   intro s r h
   rw[qdx] at h ⊢
   split
   ·rename_i s' hb
    rw[hb] at h
    exact ih s' r h
   ·rename_i r' hr'
    split at h
    ·rename_i s' hs'
     exact absurd hs' (hr' s')
    ·exact h
theorem qev {b1 b2:St→Option (AExit × St)} (hb:∀ s,Le (b1 s) (b2 s)):∀ {n m:Nat},n≤m→∀ s,Le (qdx b1 n s) (qdx b2 m s):=by
 intro n m hnm s
 refine Le.trans ?_ (qmS (f:=fun k=>qdx b2 k s) (fun k=>qlR b2 k s) hnm)
 clear hnm
 induction n generalizing s with
 | zero=>intro r h;cases h
 | succ n ih =>
   intro r h
   rw[qdx] at h ⊢
   cases hx:b1 s with
   | none=>rw[hx] at h;cases h
   | some x =>
     rw[hb s x hx]
     rw[hx] at h
     obtain⟨e,s'⟩:=x
     cases e with
     | normal=>exact ih s' r h
     | _=>exact h
section
variable {pure:Nat→Bool} {c1 c2:CallT}
theorem qsf (hc:∀ f a h,Le (c1 f a h) (c2 f a h)) (f:Nat) (a:List AVal) (h:Heap):Le (qk7 c1 f a h) (qk7 c2 f a h):=by
 intro r hr
 unfold qk7 at hr ⊢
 split
 ·rename_i hp
  rw[if_pos hp] at hr
  cases hx:c1 f (a.map (ren fun i=>qax i (qbC a h) 0)) (qcH (qbC a h) h) with
  | none=>rw[hx] at hr;cases hr
  | some x=>rw[hc _ _ _ x hx];rw[hx] at hr;exact hr
 ·rename_i hp
  rw[if_neg hp] at hr
  cases hr
theorem qgT (hc:∀ f a h,Le (c1 f a h) (c2 f a h)) (f:Nat) (a:List AVal) (h:Heap):Le (qce pure c1 f a h) (qce pure c2 f a h):=by
 intro r hr
 unfold qce at hr ⊢
 split
 ·rename_i hp
  rw[if_pos hp] at hr
  cases hx:c1 f (a.map wipe) [] with
  | none=>rw[hx] at hr;cases hr
  | some x=>rw[hc _ _ _ x hx];rw[hx] at hr;exact hr
 ·rename_i hp
  rw[if_neg hp] at hr
  exact qsf hc _ _ _ _ hr
theorem qsd (hc:∀ f a h,Le (c1 f a h) (c2 f a h)) (g:Nat) (xs:List AVal) (h:Heap):Le (qiV pure c1 g xs h) (qiV pure c2 g xs h):=by
 intro r hr
 unfold qiV at hr ⊢
 split
 ·rename_i hc'
  rw[if_pos hc'] at hr
  unfold qav at hr ⊢
  split at hr
  ·rename_i v h' hd
   rw[qgT hc _ _ _ _ hd]
   exact hr
  ·cases hr
 ·rename_i hc'
  rw[if_neg hc'] at hr
  cases hr
theorem qsr (hc:∀ f a h,Le (c1 f a h) (c2 f a h)) (f:Nat) (a:List AVal) (h:Heap):Le (qio c1 f a h) (qio c2 f a h):=by
 intro r hr
 unfold qio at hr ⊢
 split
 ·rename_i hp
  rw[if_pos hp] at hr
  cases hx:c1 f (a.map (lookV h)) [] with
  | none=>rw[hx] at hr;cases hr
  | some x=>rw[hc _ _ _ x hx];rw[hx] at hr;exact hr
 ·rename_i hp
  rw[if_neg hp] at hr
  cases hr
theorem qfY (hc:∀ f a h,Le (c1 f a h) (c2 f a h)) (o:AOp) (tm:Tmps) (h:Heap):Le (aOp pure c1 o tm h) (aOp pure c2 o tm h):=by
 intro r hr
 cases o with
 | vcall f args=>exact qsr hc _ _ _ _ hr
 | hcall f args =>
   simp only[aOp] at hr ⊢
   split
   ·rename_i hf
    rw[hf] at hr
    exact hc _ _ _ _ hr
   ·rename_i hf
    split at hr
    ·rename_i hf'
     exact absurd hf' (hf _ _ _)
    ·cases hr
 | call f args =>
   simp only[aOp] at hr ⊢
   split
   ·rename_i hf
    rw[hf] at hr
    exact qgT hc _ _ _ _ hr
   ·rename_i hf
    split at hr
    ·rename_i hf'
     exact absurd hf' (hf _ _ _)
    ·cases hr
 | pcallV f args =>
   simp only[aOp] at hr ⊢
   split
   ·rename_i hf
    rw[hf] at hr
    exact qsd hc _ _ _ _ hr
   ·rename_i hf
    split at hr
    ·rename_i hf'
     exact absurd hf' (hf _ _ _)
    ·cases hr
 | pcall f args =>
   simp only[aOp] at hr ⊢
   split
   ·rename_i hc'
    rw[if_pos hc'] at hr
    unfold qav at hr ⊢
    split at hr
    ·rename_i v h' hd
     rw[qgT hc _ _ _ _ hd]
     exact hr
    ·cases hr
   ·rename_i hc'
    rw[if_neg hc'] at hr
    cases hr
 | _=>exact hr
theorem qej (hc:∀ f a h,Le (c1 f a h) (c2 f a h)):∀ (l:List Step) (s:St),Le (qb8 pure c1 l s) (qb8 pure c2 l s):=by
 intro l
 induction l with
 | nil=>intro s;exact Le.refl _
 | cons o rest ih =>
   intro s r hr
   rw[qb8] at hr ⊢
   split
   ·rename_i hw
    rw[hw] at hr
    dsimp only at hr
    cases hx:aOp pure c1 o.op s.tm s.h with
    | none=>rw[hx] at hr;cases hr
    | some x =>
      rw[qfY hc _ _ _ x hx]
      rw[hx] at hr
      obtain⟨v,h⟩:=x
      cases v with
      | val v=>exact ih _ r hr
      | panic v=>exact hr
   ·rename_i hw
    rw[hw] at hr
    exact ih _ r hr
   ·rename_i hw
    rw[hw] at hr
    cases hr
theorem qrZ (hc:∀ f a h,Le (c1 f a h) (c2 f a h)) (f:Nat) (a:List AVal) (h:Heap):Le (qmJ c1 f a h) (qmJ c2 f a h):=by
 intro r hr
 unfold qmJ at hr ⊢
 split
 ·rename_i hp
  rw[if_pos hp] at hr
  cases hx:c1 f (a.map wipe) [] with
  | none=>rw[hx] at hr;cases hr
  | some x=>rw[hc _ _ _ x hx];rw[hx] at hr;exact hr
 ·rename_i hp
  rw[if_neg hp] at hr
  cases hr
theorem qnj (hc:∀ f a h,Le (c1 f a h) (c2 f a h)) (o:AOp) (tm:Tmps) (h:Heap):Le (qhT pure c1 o tm h) (qhT pure c2 o tm h):=by
 intro r hr
 cases o with
 | pcall f args=>exact qrZ hc _ _ _ _ hr
 | append sz bytes x y =>
   simp only[qhT] at hr ⊢
   split
   ·rename_i hq
    rw[if_pos hq] at hr
    exact hr
   ·rename_i hq
    rw[if_neg hq] at hr
    exact qfY hc _ tm h r hr
 | _=>simp only[qhT] at hr ⊢;exact qfY hc _ tm h r hr
theorem qhU (hc:∀ f a h,Le (c1 f a h) (c2 f a h)):∀ (l:List Step) (s:St),Le (qd1 pure c1 l s) (qd1 pure c2 l s):=by
 intro l
 induction l with
 | nil=>intro s;exact Le.refl _
 | cons o rest ih =>
   intro s r hr
   rw[qd1] at hr ⊢
   split
   ·rename_i hw
    rw[hw] at hr
    dsimp only at hr
    cases hx:qhT pure c1 o.op s.tm s.h with
    | none=>rw[hx] at hr;cases hr
    | some x =>
      rw[qnj hc _ _ _ x hx]
      rw[hx] at hr
      obtain⟨v,h⟩:=x
      cases v with
      | val v=>exact ih _ r hr
      | panic v=>exact hr
   ·rename_i hw
    rw[hw] at hr
    exact ih _ r hr
   ·rename_i hw
    rw[hw] at hr
    cases hr
theorem qlf (hc:∀ f a h,Le (c1 f a h) (c2 f a h)):∀ (l:List Step) (tm:Tmps) (hs:List Heap) (h:Heap),Le (qc3 pure c1 l tm hs h) (qc3 pure c2 l tm hs h):=by
 intro l
 induction l with
 | nil=>intro tm hs h;exact Le.refl _
 | cons o rest ih =>
   intro tm hs h r hr
   rw[qc3] at hr ⊢
   split
   ·rename_i hw
    rw[hw] at hr
    dsimp only at hr
    cases hx:aOp pure c1 o.op tm h with
    | none=>rw[hx] at hr;cases hr
    | some x =>
      rw[qfY hc _ _ _ x hx]
      rw[hx] at hr
      obtain⟨v,h'⟩:=x
      cases v with
      | val v=>exact ih _ _ _ r hr
      | panic v=>exact hr
   ·rename_i hw
    rw[hw] at hr
    exact ih _ _ _ r hr
   ·rename_i hw
    rw[hw] at hr
    cases hr
section
variable {o1 o2:List Step→St→Option (AExit × St)} {b1 b2 c1' c2':St→Option (AExit × St)}
theorem qnu {id:Nat} {x y:Option (AExit × St)} (h:Le x y):Le (qdu id x) (qdu id y):=by
 intro r hr
 cases x with
 | none=>cases hr
 | some x=>rw[h x rfl];exact hr
theorem qfP (ho:∀ l s,Le (o1 l s) (o2 l s)) (hb:∀ s,Le (b1 s) (b2 s)) (n:Nat) (k:RangeK) (e:AVal × AVal) (s:St):Le (qbi o1 n k b1 e s) (qbi o2 n k b2 e s):=by
 intro r hr
 unfold qbi at hr ⊢
 split
 case isFalse h0=>rw[if_neg h0] at hr;cases hr
 rename_i h0
 rw[if_pos h0] at hr
 cases hx:o1 k.r1 ⟨upd s.tm (some k.dn) (.tuple [.bool true,e.1,e.2]),s.h⟩ with
 | none=>rw[hx] at hr;cases hr
 | some x =>
   rw[ho _ _ x hx]
   rw[hx] at hr
   obtain⟨q,s1⟩:=x
   cases q with
   | normal =>
     dsimp only at hr ⊢
     split
     case isFalse h1=>rw[if_neg h1] at hr;cases hr
     rename_i h1
     rw[if_pos h1] at hr
     split
     ·rename_i hq
      rw[hq] at hr
      refine qnu (id:=k.id2) ?_ r hr
      intro r2 hr2
      unfold qkG at hr2 ⊢
      cases hy:o1 k.r2 ⟨upd s1.tm k.de (.tuple [e.1,e.2]),s1.h⟩ with
      | none=>rw[hy] at hr2;cases hr2
      | some y =>
        rw[ho _ _ y hy]
        rw[hy] at hr2
        obtain⟨q2,s2⟩:=y
        cases q2 with
        | normal=>exact hb _ r2 hr2
        | _=>exact hr2
     ·rename_i hq
      split at hr
      ·rename_i hq'
       exact absurd hq' hq
      ·cases hr
   | _=>cases hr
theorem qmZ (ho:∀ l s,Le (o1 l s) (o2 l s)) (n:Nat) (k:RangeK) (s:St):Le (qbJ o1 n k s) (qbJ o2 n k s):=by
 intro r hr
 unfold qbJ at hr ⊢
 split
 case isFalse h0=>rw[if_neg h0] at hr;cases hr
 rename_i h0
 rw[if_pos h0] at hr
 cases hx:o1 k.r1 ⟨upd s.tm (some k.dn) (.tuple [.bool false]),s.h⟩ with
 | none=>rw[hx] at hr;cases hr
 | some x =>
   rw[ho _ _ x hx]
   rw[hx] at hr
   exact hr
theorem qdG (ho:∀ l s,Le (o1 l s) (o2 l s)) (hb:∀ s,Le (b1 s) (b2 s)) (n:Nat) (k:RangeK):∀ (es:List (AVal × AVal)) (s:St),Le (qbj o1 n k b1 es s) (qbj o2 n k b2 es s)
 | [],s=>qmZ ho n k _
 | e :: es,s => by
   intro r hr
   rw[qbj] at hr ⊢
   cases hx:qbi o1 n k b1 e (gc (n+1) k.kr s) with
   | none=>rw[hx] at hr;cases hr
   | some x =>
     rw[qfP ho hb n k e _ x hx]
     rw[hx] at hr
     obtain⟨q,s1⟩:=x
     cases q with
     | normal=>exact qdG ho hb n k es s1 r hr
     | _=>exact hr
theorem qcB {O:List (AVal × AVal)→Prop} (hO:∃ es,O es) {f:List (AVal × AVal)→Option (AExit × St)} {r:AExit × St}:qnp O f=some r↔∀ es,O es→f es=some r:=by
 constructor
 ·intro h
  unfold qnp at h
  split at h
  ·rename_i hx
   injection h with h
   rw[← h]
   exact Classical.choose_spec hx
  ·cases h
 ·intro h
  have hx:∃ r,∀ es,O es→f es=some r:=⟨r,h⟩
  unfold qnp
  rw[dif_pos hx]
  obtain⟨es,he⟩:=hO
  have h1:=Classical.choose_spec hx es he
  rw[h es he] at h1
  exact h1.symm
theorem qbR (str:Bool) (es:List (AVal × AVal)):∃ es',qcg str es es':=⟨es,by unfold qcg;split<;>first | rfl | exact .refl _⟩
def qcp (ops:List Step→St→Option (AExit × St)) (k:RangeK) (runB runC:St→Option (AExit × St)) (s s1:St) (es:List (AVal × AVal)):Option (AExit × St) :=
 (match qbj ops s1.h.length k runB es ⟨upd s1.tm (some k.it) (.ptr (some (s1.h.length,0))),qk3 (opd s1.tm k.m) s1.h⟩ with
  | some (.normal,s2)=>runC ⟨s2.tm,qci (opd s1.tm k.m) s1.h s2.h⟩
  | some (e,s2)=>some (e,⟨s2.tm,qci (opd s1.tm k.m) s1.h s2.h⟩)
  | none=>none).map (gcE s.h.length k.keep)
theorem qeB (ops:List Step→St→Option (AExit × St)) (k:RangeK) (runB runC:St→Option (AExit × St)) (s:St):qkv ops k runB runC s=match ops k.pre s with
 | some (.normal,s1) => (match qcu k.str (opd s1.tm k.m) s1.h with
   | some es=>qnp (qcg k.str es) (qcp ops k runB runC s s1)
   | none=>none)
 | _=>none:=rfl
theorem qe7 (ho:∀ l s,Le (o1 l s) (o2 l s)) (hb:∀ s,Le (b1 s) (b2 s)) (hc:∀ s,Le (c1' s) (c2' s)) (k:RangeK) (s s1:St) (es:List (AVal × AVal)):Le (qcp o1 k b1 c1' s s1 es) (qcp o2 k b2 c2' s s1 es):=by
 intro r hr
 unfold qcp at hr ⊢
 obtain⟨x,hx,rfl⟩:=Option.map_eq_some_iff.1 hr
 refine Option.map_eq_some_iff.2 ⟨x,?_,rfl⟩
 cases hy:qbj o1 s1.h.length k b1 es ⟨upd s1.tm (some k.it) (.ptr (some (s1.h.length,0))),qk3 (opd s1.tm k.m) s1.h⟩ with
 | none=>rw[hy] at hx;cases hx
 | some y =>
   rw[qdG ho hb _ k _ _ y hy]
   rw[hy] at hx
   obtain⟨q,s2⟩:=y
   cases q with
   | normal=>exact hc _ x hx
   | _=>exact hx
theorem qkw (ho:∀ l s,Le (o1 l s) (o2 l s)) (hb:∀ s,Le (b1 s) (b2 s)) (hc:∀ s,Le (c1' s) (c2' s)) (k:RangeK) (s:St):Le (qkv o1 k b1 c1' s) (qkv o2 k b2 c2' s):=by
 intro r hr
 rw[qeB] at hr ⊢
 cases hx:o1 k.pre s with
 | none=>rw[hx] at hr;cases hr
 | some x =>
   rw[ho _ _ x hx]
   rw[hx] at hr
   obtain⟨q,s1⟩:=x
   cases q with
   | normal =>
     dsimp only at hr ⊢
     split
     ·rename_i es hes
      rw[hes] at hr
      have h1:=(qcB (qbR _ _)).1 hr
      exact (qcB (qbR _ _)).2 fun es' he=>qe7 ho hb hc k s s1 es' r (h1 es' he)
     ·rename_i hes
      rw[hes] at hr
      cases hr
   | _=>cases hr
end
theorem qle (hc:∀ f a h,Le (c1 f a h) (c2 f a h)) (l:List Step) (cs:List (Nat × Nat × Nat)) (s:St):Le (qgL pure c1 l cs s) (qgL pure c2 l cs s):=by
 intro r hr
 unfold qgL at hr ⊢
 cases hx:qc3 pure c1 l s.tm [] s.h with
 | none=>rw[hx] at hr;cases hr
 | some x=>rw[qlf hc _ _ _ _ x hx];rw[hx] at hr;exact hr
theorem qcA (hc:∀ f a h,Le (c1 f a h) (c2 f a h)) {n m:Nat} (hnm:n≤m):∀ (c:ACode) (s:St),Le (qaG pure c1 n c s) (qaG pure c2 m c s):=by
 intro c
 induction c with
 | skip=>intro s;exact Le.refl _
 | ops l=>intro s;exact qej hc l s
 | draw l cs=>intro s;exact qle hc l cs s
 | kops l=>intro s;exact qhU hc l s
 | mdraw k l ns=>intro s;exact Le.refl _
 | seq a b iha ihb =>
   intro s r hr
   rw[qaG] at hr ⊢
   cases hx:qaG pure c1 n a s with
   | none=>rw[hx] at hr;cases hr
   | some x =>
     rw[iha s x hx]
     rw[hx] at hr
     obtain⟨e,s'⟩:=x
     cases e with
     | normal=>exact ihb _ r hr
     | _=>exact hr
 | cond c a b iha ihb =>
   intro s r hr
   rw[qaG] at hr ⊢
   split
   ·rename_i t ht
    rw[ht] at hr
    cases t with
    | true=>exact iha s r hr
    | false=>exact ihb s r hr
   ·rename_i ht
    split at hr
    ·rename_i t ht'
     exact absurd ht' (ht t)
    ·cases hr
 | block id c ih =>
   intro s r hr
   rw[qaG] at hr ⊢
   cases hx:qaG pure c1 n c s with
   | none=>rw[hx] at hr;cases hr
   | some x=>rw[ih s x hx];rw[hx] at hr;exact hr
 | loop c ih=>intro s;exact qev ih hnm s
 | gloop k c ih=>intro s;exact qev (fun s1=>ih _) hnm s
 | freeze t c ih=>intro s;exact ih _
 | view c ih=>intro s;exact ih _
 | range k b c ihb ihc=>intro s;exact qkw (fun l s=>qej hc l s) ihb ihc k s
 | frame k c ih =>
   intro s r hr
   rw[qaG] at hr ⊢
   obtain⟨x,hx,rfl⟩:=Option.map_eq_some_iff.1 hr
   rw[ih s x hx]
   rfl
 | exit id=>intro s;exact Le.refl _
 | ret=>intro s;exact Le.refl _
 | stuck=>intro s;exact Le.refl _
end
theorem qrS {rs:List ARVar} {x y:Option (AExit × St)} (h:Le x y):Le (qap rs x) (qap rs y):=by
 intro r hr
 cases x with
 | none=>cases hr
 | some x=>rw[h x rfl];exact hr
theorem qlq (L:Lib):∀ n f a h,Le (qbU L n f a h) (qbU L (n+1) f a h):=by
 intro n
 induction n with
 | zero=>intro f a h r hr;cases hr
 | succ n ih =>
   intro f a h r hr
   rw[qbU] at hr ⊢
   split
   ·rename_i s hs
    rw[hs] at hr
    exact hr
   ·rename_i hs
    rw[hs] at hr
    dsimp only at hr
    split
    ·rename_i fn hfn
     rw[hfn] at hr
     exact qrS (qcA ih (Nat.le_succ n) _ _) r hr
    ·rename_i hfn
     rw[hfn] at hr
     cases hr
theorem qck (L:Lib) {n m:Nat} (h:n≤m) (f:Nat) (a:List AVal) (hp:Heap):Le (qbU L n f a hp) (qbU L m f a hp) :=
 qmS (f:=fun k=>qbU L k f a hp) (fun k=>qlq L k f a hp) h
noncomputable def call (L:Lib):CallT:=fun f a h=>lim fun n=>qbU L n f a h
theorem qdl {L:Lib} {f:Nat} {a:List AVal} {h:Heap} {r:ARes × Heap}:call L f a h=some r↔∃ n,qbU L n f a h=some r :=
 qq7 fun n=>qlq L n f a h
noncomputable def qkf (body:St→Option (AExit × St)) (s:St):Option (AExit × St):=lim fun n=>qdx body n s
theorem qc7 {body:St→Option (AExit × St)} {s:St} {r:AExit × St}:qkf body s=some r↔∃ n,qdx body n s=some r:=qq7 fun n=>qlR body n s
theorem qg0 (body:St→Option (AExit × St)) (n:Nat) (s:St):Le (qdx body n s) (qkf body s):=fun _ hr=>qc7.2 ⟨n,hr⟩
theorem qq8 (body:St→Option (AExit × St)) (s:St):qkf body s=match body s with | some (.normal,s')=>qkf body s' | r=>r:=by
 have key:∀ r,qkf body s=some r↔(match body s with | some (.normal,s')=>qkf body s' | r=>r)=some r:=by
  intro r
  constructor
  ·intro h
   obtain⟨n,hn⟩:=qc7.1 h
   cases n with
   | zero=>cases hn
   | succ n =>
     rw[qdx] at hn
     split at hn
     ·rename_i s' hs'
      rw[hs']
      exact qg0 _ _ _ _ hn
     ·rename_i x hx
      split
      ·rename_i s' hs'
       exact absurd hs' (hx s')
      ·exact hn
  ·intro h
   split at h
   ·rename_i s' hs'
    obtain⟨n,hn⟩:=qc7.1 h
    exact qc7.2 ⟨n+1,by rw[qdx,hs'];exact hn⟩
   ·rename_i x hx
    refine qc7.2 ⟨1,?_⟩
    rw[qdx]
    split
    ·rename_i s' hs'
     exact absurd hs' (hx s')
    ·exact h
 cases hx:qkf body s with
 | some r=>exact ((key r).1 hx).symm
 | none =>
   cases hy:(match body s with | some (.normal,s')=>qkf body s' | r=>r) with
   | none=>rfl
   | some r=>rw[(key r).2 hy] at hx;cases hx
noncomputable def qaY (pure:Nat→Bool) (call:CallT):ACode→St→Option (AExit × St)
 | .skip,s=>some (.normal,s)
 | .ops l,s=>qb8 pure call l s
 | .draw l cs,s=>qgL pure call l cs s
 | .kops l,s=>qd1 pure call l s
 | .mdraw k l ns,s=>quX k l ns s
 | .seq a b,s =>
   (match qaY pure call a s with
   | some (.normal,s')=>qaY pure call b s'
   | r=>r)
 | .cond c a b,s=>(match opd s.tm c with | .bool t=>if t then qaY pure call a s else qaY pure call b s | _=>none)
 | .block id c,s =>
   (match qaY pure call c s with
   | some (.exit id',s')=>if id'=id then some (.normal,s') else some (.exit id',s')
   | r=>r)
 | .loop c,s=>qkf (qaY pure call c) s
 | .gloop k c,s=>qkf (fun s1=>qaY pure call c (gc s.h.length k s1)) s
 | .frame k c,s=>(qaY pure call c s).map (gcE s.h.length k)
 | .freeze t c,s=>qaY pure call c (qe0 t s)
 | .view c,s=>qaY pure call c (qpc s)
 | .range k b c,s=>qkv (qb8 pure call) k (qaY pure call b) (qaY pure call c) s
 | .exit id,s=>some (.exit id,s)
 | .ret,s=>some (.ret,s)
 | .stuck,_=>none
theorem qnh {pure:Nat→Bool} {c1 c2:CallT} (hc:∀ f a h,Le (c1 f a h) (c2 f a h)) (n:Nat):∀ (c:ACode) (s:St),Le (qaG pure c1 n c s) (qaY pure c2 c s):=by
 intro c
 induction c with
 | skip=>intro s;exact Le.refl _
 | ops l=>intro s;exact qej hc l s
 | draw l cs=>intro s;exact qle hc l cs s
 | kops l=>intro s;exact qhU hc l s
 | mdraw k l ns=>intro s;exact Le.refl _
 | seq a b iha ihb =>
   intro s r hr
   rw[qaG] at hr
   rw[qaY]
   cases hx:qaG pure c1 n a s with
   | none=>rw[hx] at hr;cases hr
   | some x =>
     rw[iha s x hx]
     rw[hx] at hr
     obtain⟨e,s'⟩:=x
     cases e with
     | normal=>exact ihb _ r hr
     | _=>exact hr
 | cond c a b iha ihb =>
   intro s r hr
   rw[qaG] at hr
   rw[qaY]
   split
   ·rename_i t ht
    rw[ht] at hr
    cases t with
    | true=>exact iha s r hr
    | false=>exact ihb s r hr
   ·rename_i ht
    split at hr
    ·rename_i t ht'
     exact absurd ht' (ht t)
    ·cases hr
 | block id c ih =>
   intro s r hr
   rw[qaG] at hr
   rw[qaY]
   cases hx:qaG pure c1 n c s with
   | none=>rw[hx] at hr;cases hr
   | some x=>rw[ih s x hx];rw[hx] at hr;exact hr
 | loop c ih=>intro s;exact (qev ih (Nat.le_refl n) s).trans (qg0 _ _ _)
 | gloop k c ih=>intro s;exact (qev (fun s1=>ih _) (Nat.le_refl n) s).trans (qg0 _ _ _)
 | freeze t c ih=>intro s;exact ih _
 | view c ih=>intro s;exact ih _
 | range k b c ihb ihc=>intro s;exact qkw (fun l s=>qej hc l s) ihb ihc k s
 | frame k c ih =>
   intro s r hr
   rw[qaG] at hr
   rw[qaY]
   obtain⟨x,hx,rfl⟩:=Option.map_eq_some_iff.1 hr
   rw[ih s x hx]
   rfl
 | exit id=>intro s;exact Le.refl _
 | ret=>intro s;exact Le.refl _
 | stuck=>intro s;exact Le.refl _
section
variable {pure:Nat→Bool} {L:Lib}
theorem qh0 {f:Nat} {a:List AVal} {h:Heap} {r:ARes × Heap} (hr:qce pure (call L) f a h=some r):∃ n,qce pure (qbU L n) f a h=some r:=by
 unfold qce at hr
 split at hr
 ·rename_i hp
  cases hx:call L f (a.map wipe) [] with
  | none=>rw[hx] at hr;cases hr
  | some x =>
    rw[hx] at hr
    obtain⟨n,hn⟩:=qdl.1 hx
    refine⟨n,?_⟩
    unfold qce
    rw[if_pos hp,hn]
    exact hr
 ·rename_i hp
  unfold qk7 at hr
  split at hr
  ·rename_i hq
   cases hx:call L f (a.map (ren fun i=>qax i (qbC a h) 0)) (qcH (qbC a h) h) with
   | none=>rw[hx] at hr;cases hr
   | some x =>
     rw[hx] at hr
     obtain⟨n,hn⟩:=qdl.1 hx
     refine⟨n,?_⟩
     unfold qce qk7
     rw[if_neg hp,if_pos hq,hn]
     exact hr
  ·cases hr
theorem qmp {o:AOp} {tm:Tmps} {h:Heap} {r:ARes × Heap} (hr:aOp pure (call L) o tm h=some r):∃ n,aOp pure (qbU L n) o tm h=some r:=by
 cases o with
 | vcall f args =>
   simp only[aOp] at hr ⊢
   unfold qio at hr
   split at hr
   ·rename_i hp
    cases hx:call L f ((args.map (opd tm)).map (lookV h)) [] with
    | none=>rw[hx] at hr;cases hr
    | some x =>
      rw[hx] at hr
      obtain⟨n,hn⟩:=qdl.1 hx
      refine⟨n,?_⟩
      unfold qio
      rw[if_pos hp,hn]
      exact hr
   ·cases hr
 | hcall f args =>
   simp only[aOp] at hr ⊢
   split at hr
   ·rename_i hf
    exact qdl.1 hr
   ·cases hr
 | call f args =>
   simp only[aOp] at hr ⊢
   split at hr
   ·rename_i hf
    exact qh0 hr
   ·cases hr
 | pcallV f args =>
   simp only[aOp] at hr ⊢
   split at hr
   ·rename_i hf
    unfold qiV at hr
    split at hr
    ·rename_i hc'
     unfold qav at hr
     split at hr
     ·rename_i v h' hd
      obtain⟨n,hn⟩:=qh0 hd
      refine⟨n,?_⟩
      unfold qiV
      rw[if_pos hc',hn]
      exact hr
     ·cases hr
    ·cases hr
   ·cases hr
 | pcall f args =>
   simp only[aOp] at hr ⊢
   split at hr
   ·rename_i hc'
    unfold qav at hr
    split at hr
    ·rename_i v h' hd
     obtain⟨n,hn⟩:=qh0 hd
     refine⟨n,?_⟩
     rw[if_pos hc',hn]
     exact hr
    ·cases hr
   ·cases hr
 | _=>exact⟨0,hr⟩
theorem qg5:∀ (l:List Step) {s:St} {r:AExit × St},qb8 pure (call L) l s=some r→∃ n,qb8 pure (qbU L n) l s=some r:=by
 intro l
 induction l with
 | nil=>intro s r hr;exact⟨0,hr⟩
 | cons o rest ih =>
   intro s r hr
   rw[qb8] at hr
   split at hr
   ·rename_i hw
    cases hx:aOp pure (call L) o.op s.tm s.h with
    | none=>rw[hx] at hr;cases hr
    | some x =>
      rw[hx] at hr
      obtain⟨n,hn⟩:=qmp hx
      obtain⟨v,h⟩:=x
      cases v with
      | val v =>
        obtain⟨m,hm⟩:=ih hr
        refine⟨max n m,?_⟩
        rw[qb8,hw]
        dsimp only
        rw[qfY (qck L (Nat.le_max_left n m)) _ _ _ _ hn]
        exact qej (qck L (Nat.le_max_right n m)) _ _ _ hm
      | panic v =>
        refine⟨n,?_⟩
        rw[qb8,hw]
        dsimp only
        rw[hn]
        exact hr
   ·rename_i hw
    obtain⟨m,hm⟩:=ih hr
    exact⟨m,by rw[qb8,hw];exact hm⟩
   ·cases hr
theorem quY {o:AOp} {tm:Tmps} {h:Heap} {r:ARes × Heap} (hr:qhT pure (call L) o tm h=some r):∃ n,qhT pure (qbU L n) o tm h=some r:=by
 cases o with
 | pcall f args =>
   simp only[qhT] at hr ⊢
   unfold qmJ at hr
   split at hr
   ·rename_i hp
    cases hx:call L f ((args.map (opd tm)).map wipe) [] with
    | none=>rw[hx] at hr;cases hr
    | some x =>
      rw[hx] at hr
      obtain⟨n,hn⟩:=qdl.1 hx
      refine⟨n,?_⟩
      unfold qmJ
      rw[if_pos hp,hn]
      exact hr
   ·cases hr
 | append sz bytes x y =>
   simp only[qhT] at hr ⊢
   split at hr
   ·rename_i hq
    refine⟨0,?_⟩
    rw[if_pos hq]
    exact hr
   ·rename_i hq
    obtain⟨n,hn⟩:=qmp hr
    refine⟨n,?_⟩
    rw[if_neg hq]
    exact hn
 | _=>simp only[qhT] at hr ⊢;exact qmp hr
theorem qsG:∀ (l:List Step) {s:St} {r:AExit × St},qd1 pure (call L) l s=some r→∃ n,qd1 pure (qbU L n) l s=some r:=by
 intro l
 induction l with
 | nil=>intro s r hr;exact⟨0,hr⟩
 | cons o rest ih =>
   intro s r hr
   rw[qd1] at hr
   split at hr
   ·rename_i hw
    cases hx:qhT pure (call L) o.op s.tm s.h with
    | none=>rw[hx] at hr;cases hr
    | some x =>
      rw[hx] at hr
      obtain⟨n,hn⟩:=quY hx
      obtain⟨v,h⟩:=x
      cases v with
      | val v =>
        obtain⟨m,hm⟩:=ih hr
        refine⟨max n m,?_⟩
        rw[qd1,hw]
        dsimp only
        rw[qnj (qck L (Nat.le_max_left n m)) _ _ _ _ hn]
        exact qhU (qck L (Nat.le_max_right n m)) _ _ _ hm
      | panic v =>
        refine⟨n,?_⟩
        rw[qd1,hw]
        dsimp only
        rw[hn]
        exact hr
   ·rename_i hw
    obtain⟨m,hm⟩:=ih hr
    exact⟨m,by rw[qd1,hw];exact hm⟩
   ·cases hr
theorem qsF:∀ (l:List Step) {tm:Tmps} {hs:List Heap} {h:Heap} {r:Tmps × List Heap × Heap},qc3 pure (call L) l tm hs h=some r→∃ n,qc3 pure (qbU L n) l tm hs h=some r:=by
 intro l
 induction l with
 | nil=>intro tm hs h r hr;exact⟨0,hr⟩
 | cons o rest ih =>
   intro tm hs h r hr
   rw[qc3] at hr
   split at hr
   ·rename_i hw
    cases hx:aOp pure (call L) o.op tm h with
    | none=>rw[hx] at hr;cases hr
    | some x =>
      rw[hx] at hr
      obtain⟨n,hn⟩:=qmp hx
      obtain⟨v,h'⟩:=x
      cases v with
      | val v =>
        obtain⟨m,hm⟩:=ih hr
        refine⟨max n m,?_⟩
        rw[qc3,hw]
        dsimp only
        rw[qfY (qck L (Nat.le_max_left n m)) _ _ _ _ hn]
        exact qlf (qck L (Nat.le_max_right n m)) _ _ _ _ _ hm
      | panic v=>cases hr
   ·rename_i hw
    obtain⟨m,hm⟩:=ih hr
    exact⟨m,by rw[qc3,hw];exact hm⟩
   ·cases hr
theorem qq9 (c:ACode) (g:St→St) (ih:∀ {s:St} {r:AExit × St},qaY pure (call L) c s=some r→∃ n,qaG pure (qbU L n) n c s=some r) {r:AExit × St} :
  ∀ k s,qdx (fun s1=>qaY pure (call L) c (g s1)) k s=some r→∃ n,qdx (fun s1=>qaG pure (qbU L n) n c (g s1)) n s=some r:=by
 intro k
 induction k with
 | zero=>intro s h;cases h
 | succ k ihk =>
   intro s h
   rw[qdx] at h
   cases hx:qaY pure (call L) c (g s) with
   | none=>rw[hx] at h;cases h
   | some x =>
     rw[hx] at h
     obtain⟨n,hn⟩:=ih hx
     obtain⟨e,s'⟩:=x
     cases e with
     | normal =>
       obtain⟨m,hm⟩:=ihk s' h
       refine⟨max n m+1,?_⟩
       rw[qdx,qcA (qck L (Nat.le_trans (Nat.le_max_left n m) (Nat.le_succ _))) (Nat.le_trans (Nat.le_max_left n m) (Nat.le_succ _)) _ _ _ hn]
       exact qev (fun s=>qcA (qck L (Nat.le_trans (Nat.le_max_right n m) (Nat.le_succ _))) (Nat.le_trans (Nat.le_max_right n m) (Nat.le_succ _)) _ _) (Nat.le_max_right n m) _ _ hm
     | _ =>
       refine⟨n+1,?_⟩
       rw[qdx,qcA (qck L (Nat.le_succ n)) (Nat.le_succ n) _ _ _ hn]
       exact h
def ql2 (x:AVal × AVal):List (AVal × AVal)→List (List (AVal × AVal))
 | []=>[[x]]
 | y::ys=>(x::y::ys)::(ql2 x ys).map (y::·)
def qft:List (AVal × AVal)→List (List (AVal × AVal))
 | []=>[[]]
 | x::xs=>(qft xs).flatMap (ql2 x)
theorem qlT (x:AVal × AVal):∀ l r:List (AVal × AVal),l++x::r∈ql2 x (l++r)
 | [],[]=>by simp[ql2]
 | [],y::ys=>by simp[ql2]
 | y :: l,r => by
   simp only[List.cons_append,ql2,List.mem_cons,List.mem_map]
   exact .inr ⟨_,qlT x l r,rfl⟩
theorem qhL:∀ (es es':List (AVal × AVal)),es'.Perm es→es'∈qft es
 | [],es',h=>by rw[h.eq_nil];simp[qft]
 | x :: xs,es',h => by
   obtain⟨l,r,rfl⟩:=List.append_of_mem (h.mem_iff.2 (List.mem_cons_self ..))
   have h1:(l++r).Perm xs:=by
    have:=(List.perm_middle (a:=x) (l₁:=l) (l₂:=r)).symm.trans h
    exact this.cons_inv
   simp only[qft,List.mem_flatMap]
   exact⟨_,qhL xs _ h1,qlT x l r⟩
theorem qtg {α:Type} (Q:Nat→α→Prop) (hm:∀ n m a,n≤m→Q n a→Q m a):∀ (l:List α),(∀ a∈l,∃ n,Q n a)→∃ n,∀ a∈l,Q n a
 | [],_=>⟨0,fun a ha=>by cases ha⟩
 | a :: l,h => by
   obtain⟨n,hn⟩:=h a (by simp)
   obtain⟨m,hm'⟩:=qtg Q hm l fun b hb=>h b (by simp[hb])
   refine⟨max n m,fun b hb=>?_⟩
   rcases List.mem_cons.1 hb with rfl | hb
   ·exact hm _ _ _ (Nat.le_max_left n m) hn
   ·exact hm _ _ _ (Nat.le_max_right n m) (hm' b hb)
section
variable {b c:ACode}
theorem qeh {n m:Nat} (h:n≤m) (l:List Step) (s:St):Le (qb8 pure (qbU L n) l s) (qb8 pure (qbU L m) l s):=qej (qck L h) l s
theorem qdA {n m:Nat} (h:n≤m) (s:St):Le (qaG pure (qbU L n) n b s) (qaG pure (qbU L m) m b s):=qcA (qck L h) h b s
theorem qk8 (hb:∀ {s:St} {r:AExit × St},qaY pure (call L) b s=some r→∃ n,qaG pure (qbU L n) n b s=some r) (i:Nat) (k:RangeK) (e:AVal × AVal) {s:St} {r:AExit × St}
  (hr:qbi (qb8 pure (call L)) i k (qaY pure (call L) b) e s=some r):∃ n,qbi (qb8 pure (qbU L n)) i k (qaG pure (qbU L n) n b) e s=some r:=by
 unfold qbi at hr
 split at hr
 case isFalse=>cases hr
 rename_i g0
 cases hx:qb8 pure (call L) k.r1 ⟨upd s.tm (some k.dn) (.tuple [.bool true,e.1,e.2]),s.h⟩ with
 | none=>rw[hx] at hr;cases hr
 | some x =>
   rw[hx] at hr
   obtain⟨n1,hn1⟩:=qg5 _ hx
   obtain⟨q,s1⟩:=x
   cases q with
   | normal =>
     dsimp only at hr
     split at hr
     case isFalse=>cases hr
     rename_i g1
     split at hr
     ·rename_i hq
      unfold qkG at hr
      cases hy:qb8 pure (call L) k.r2 ⟨upd s1.tm k.de (.tuple [e.1,e.2]),s1.h⟩ with
      | none=>rw[hy] at hr;cases hr
      | some y =>
        rw[hy] at hr
        obtain⟨n2,hn2⟩:=qg5 _ hy
        obtain⟨q2,s2⟩:=y
        cases q2 with
        | normal =>
          dsimp only at hr
          cases hz:qaY pure (call L) b s2 with
          | none=>rw[hz] at hr;cases hr
          | some z =>
            obtain⟨n3,hn3⟩:=hb hz
            rw[hz] at hr
            refine⟨max n1 (max n2 n3),?_⟩
            unfold qbi qkG
            rw[if_pos g0,qeh (Nat.le_max_left _ _) _ _ _ hn1]
            dsimp only
            rw[if_pos g1,hq]
            dsimp only
            rw[qeh (Nat.le_trans (Nat.le_max_left n2 n3) (Nat.le_max_right _ _)) _ _ _ hn2]
            dsimp only
            rw[qdA (Nat.le_trans (Nat.le_max_right n2 n3) (Nat.le_max_right _ _)) _ _ hn3]
            exact hr
        | _ =>
          refine⟨max n1 n2,?_⟩
          unfold qbi qkG
          rw[if_pos g0,qeh (Nat.le_max_left _ _) _ _ _ hn1]
          dsimp only
          rw[if_pos g1,hq]
          dsimp only
          rw[qeh (Nat.le_max_right _ _) _ _ _ hn2]
          exact hr
     ·cases hr
   | _=>cases hr
theorem qoE (i:Nat) (k:RangeK) {s:St} {r:AExit × St} (hr:qbJ (qb8 pure (call L)) i k s=some r):∃ n,qbJ (qb8 pure (qbU L n)) i k s=some r:=by
 unfold qbJ at hr
 split at hr
 case isFalse=>cases hr
 rename_i g0
 cases hx:qb8 pure (call L) k.r1 ⟨upd s.tm (some k.dn) (.tuple [.bool false]),s.h⟩ with
 | none=>rw[hx] at hr;cases hr
 | some x =>
   rw[hx] at hr
   obtain⟨n1,hn1⟩:=qg5 _ hx
   exact⟨n1,by unfold qbJ;rw[if_pos g0,hn1];exact hr⟩
theorem qiJ (hb:∀ {s:St} {r:AExit × St},qaY pure (call L) b s=some r→∃ n,qaG pure (qbU L n) n b s=some r) (i:Nat) (k:RangeK):∀ (es:List (AVal × AVal)) {s:St} {r:AExit × St},
  qbj (qb8 pure (call L)) i k (qaY pure (call L) b) es s=some r→∃ n,qbj (qb8 pure (qbU L n)) i k (qaG pure (qbU L n) n b) es s=some r
 | [],s,r,hr=>qoE i k hr
 | e :: es,s,r,hr => by
   rw[qbj] at hr
   cases hx:qbi (qb8 pure (call L)) i k (qaY pure (call L) b) e (gc (i+1) k.kr s) with
   | none=>rw[hx] at hr;cases hr
   | some x =>
     rw[hx] at hr
     obtain⟨n,hn⟩:=qk8 hb i k e hx
     obtain⟨q,s1⟩:=x
     cases q with
     | normal =>
       obtain⟨m,hm⟩:=qiJ hb i k es hr
       refine⟨max n m,?_⟩
       rw[qbj,qfP (fun l s=>qeh (Nat.le_max_left n m) l s) (fun s=>qdA (Nat.le_max_left n m) s) i k e _ _ hn]
       exact qdG (fun l s=>qeh (Nat.le_max_right n m) l s) (fun s=>qdA (Nat.le_max_right n m) s) i k es _ _ hm
     | _=>exact⟨n,by rw[qbj,hn];exact hr⟩
theorem qoF (hb:∀ {s:St} {r:AExit × St},qaY pure (call L) b s=some r→∃ n,qaG pure (qbU L n) n b s=some r) (hc:∀ {s:St} {r:AExit × St},qaY pure (call L) c s=some r→∃ n,qaG pure (qbU L n) n c s=some r)
  (k:RangeK) (s s1:St) (es:List (AVal × AVal)) {r:AExit × St} (hr:qcp (qb8 pure (call L)) k (qaY pure (call L) b) (qaY pure (call L) c) s s1 es=some r) :
  ∃ n,qcp (qb8 pure (qbU L n)) k (qaG pure (qbU L n) n b) (qaG pure (qbU L n) n c) s s1 es=some r:=by
 unfold qcp at hr
 obtain⟨x,hx,rfl⟩:=Option.map_eq_some_iff.1 hr
 cases hy:qbj (qb8 pure (call L)) s1.h.length k (qaY pure (call L) b) es ⟨upd s1.tm (some k.it) (.ptr (some (s1.h.length,0))),qk3 (opd s1.tm k.m) s1.h⟩ with
 | none=>rw[hy] at hx;cases hx
 | some y =>
   rw[hy] at hx
   obtain⟨n,hn⟩:=qiJ hb _ k es hy
   obtain⟨q,s2⟩:=y
   cases q with
   | normal =>
     obtain⟨m,hm⟩:=hc hx
     refine⟨max n m,?_⟩
     unfold qcp
     rw[qdG (fun l s=>qeh (Nat.le_max_left n m) l s) (fun s=>qdA (Nat.le_max_left n m) s) _ k es _ _ hn]
     dsimp only
     rw[qdA (Nat.le_max_right n m) _ _ hm]
     rfl
   | _ =>
     refine⟨n,?_⟩
     unfold qcp
     rw[hn]
     dsimp only at hx ⊢
     rw[hx]
     rfl
end
theorem qsD:∀ (c:ACode) {s:St} {r:AExit × St},qaY pure (call L) c s=some r→∃ n,qaG pure (qbU L n) n c s=some r:=by
 intro c
 induction c with
 | skip=>intro s r hr;exact⟨0,hr⟩
 | ops l=>intro s r hr;exact qg5 l hr
 | kops l=>intro s r hr;exact qsG l hr
 | mdraw k l ns=>intro s r hr;exact⟨0,hr⟩
 | draw l cs =>
   intro s r hr
   rw[qaY] at hr
   unfold qgL at hr
   cases hx:qc3 pure (call L) l s.tm [] s.h with
   | none=>rw[hx] at hr;cases hr
   | some x =>
     rw[hx] at hr
     obtain⟨n,hn⟩:=qsF l hx
     exact⟨n,by rw[qaG];unfold qgL;rw[hn];exact hr⟩
 | seq a b iha ihb =>
   intro s r hr
   rw[qaY] at hr
   cases hx:qaY pure (call L) a s with
   | none=>rw[hx] at hr;cases hr
   | some x =>
     rw[hx] at hr
     obtain⟨n,hn⟩:=iha hx
     obtain⟨e,s'⟩:=x
     cases e with
     | normal =>
       obtain⟨m,hm⟩:=ihb hr
       refine⟨max n m,?_⟩
       rw[qaG,qcA (qck L (Nat.le_max_left n m)) (Nat.le_max_left n m) _ _ _ hn]
       exact qcA (qck L (Nat.le_max_right n m)) (Nat.le_max_right n m) _ _ _ hm
     | _=>exact⟨n,by rw[qaG,hn];exact hr⟩
 | cond c a b iha ihb =>
   intro s r hr
   rw[qaY] at hr
   split at hr
   ·rename_i t ht
    cases t with
    | true =>
      obtain⟨n,hn⟩:=iha hr
      exact⟨n,by rw[qaG,ht];exact hn⟩
    | false =>
      obtain⟨n,hn⟩:=ihb hr
      exact⟨n,by rw[qaG,ht];exact hn⟩
   ·cases hr
 | block id c ih =>
   intro s r hr
   rw[qaY] at hr
   cases hx:qaY pure (call L) c s with
   | none=>rw[hx] at hr;cases hr
   | some x =>
     rw[hx] at hr
     obtain⟨n,hn⟩:=ih hx
     exact⟨n,by rw[qaG,hn];exact hr⟩
 | loop c ih =>
   intro s r hr
   rw[qaY] at hr
   obtain⟨k,hk⟩:=qc7.1 hr
   obtain⟨n,hn⟩:=qq9 c (fun s=>s) (fun hx=>ih hx) k s hk
   exact⟨n,by rw[qaG];exact hn⟩
 | gloop kp c ih =>
   intro s r hr
   rw[qaY] at hr
   obtain⟨k,hk⟩:=qc7.1 hr
   obtain⟨n,hn⟩:=qq9 c (fun s1=>gc s.h.length kp s1) (fun hx=>ih hx) k s hk
   exact⟨n,by rw[qaG];exact hn⟩
 | view c ih =>
   intro s r hr
   obtain⟨n,hn⟩:=ih hr
   exact⟨n,hn⟩
 | freeze t c ih =>
   intro s r hr
   obtain⟨n,hn⟩:=ih hr
   exact⟨n,hn⟩
 | range k b c ihb ihc =>
   intro s r hr
   rw[qaY,qeB] at hr
   cases hx:qb8 pure (call L) k.pre s with
   | none=>rw[hx] at hr;cases hr
   | some x =>
     rw[hx] at hr
     obtain⟨n,hn⟩:=qg5 _ hx
     obtain⟨q,s1⟩:=x
     cases q with
     | normal =>
       dsimp only at hr
       split at hr
       ·rename_i es hes
        have h1:=(qcB (qbR _ _)).1 hr
        obtain⟨m,hm⟩:=qtg (fun n es'=>qcg k.str es es'→qcp (qb8 pure (qbU L n)) k (qaG pure (qbU L n) n b) (qaG pure (qbU L n) n c) s s1 es'=some r)
         (fun n m a hnm h ho=>qe7 (fun l s=>qeh hnm l s) (fun s=>qdA hnm s) (fun s=>qdA hnm s) k s s1 a r (h ho)) (es::qft es)
         (fun a _=>by
          by_cases ho:qcg k.str es a
          ·obtain⟨n,hn⟩:=qoF ihb ihc k s s1 a (h1 a ho)
           exact⟨n,fun _=>hn⟩
          ·exact⟨0,fun h=>absurd h ho⟩)
        refine⟨max n m,?_⟩
        rw[qaG,qeB,qeh (Nat.le_max_left n m) _ _ _ hn]
        dsimp only
        rw[hes]
        dsimp only
        refine (qcB (qbR _ _)).2 fun es' he=>?_
        refine qe7 (fun l s=>qeh (Nat.le_max_right n m) l s) (fun s=>qdA (Nat.le_max_right n m) s) (fun s=>qdA (Nat.le_max_right n m) s) k s s1 es' r (hm es' ?_ he)
        unfold qcg at he
        split at he
        ·rw[he];simp
        ·exact List.mem_cons_of_mem _ (qhL es es' he)
       ·cases hr
     | _=>cases hr
 | frame kp c ih =>
   intro s r hr
   rw[qaY] at hr
   obtain⟨x,hx,rfl⟩:=Option.map_eq_some_iff.1 hr
   obtain⟨n,hn⟩:=ih hx
   exact⟨n,by rw[qaG,hn];rfl⟩
 | exit id=>intro s r hr;exact⟨0,hr⟩
 | ret=>intro s r hr;exact⟨0,hr⟩
 | stuck=>intro s r hr;exact⟨0,hr⟩
end
theorem qaK {L:Lib} {f:Nat} {fn:AFn} (hs:L.summ f=none) (hf:L.fns f=some fn) {a:List AVal} {h:Heap} {r:ARes × Heap}
  (hr:qap fn.results (qaY L.pure (call L) fn.body ⟨qdT a,h⟩)=some r):call L f a h=some r:=by
 cases hx:qaY L.pure (call L) fn.body ⟨qdT a,h⟩ with
 | none=>rw[hx] at hr;cases hr
 | some x =>
   rw[hx] at hr
   obtain⟨n,hn⟩:=qsD _ hx
   refine qdl.2 ⟨n+1,?_⟩
   rw[qbU,hs]
   dsimp only
   rw[hf]
   dsimp only
   rw[hn]
   exact hr
theorem qhd {L:Lib} {f:Nat} {s:List AVal→Heap→Option (ARes × Heap)} (hs:L.summ f=some s) {a:List AVal} {h:Heap} {r:ARes × Heap} (hr:s a h=some r):call L f a h=some r :=
 qdl.2 ⟨1,by rw[qbU,hs];exact hr⟩
end Go.Abs
