/-
  The abstract machine without bounds: calls and loops as limits of the bounded ones; each is what its body says.
-/
import Derived.Test.YtjbgooldkkbdmaaDoorAbsA
set_option linter.unusedVariables false
namespace Go.Abs
def Le {α:Type} (x y:Option α):Prop:=∀ r,x=some r→y=some r
theorem Le.refl {α:Type} (x:Option α):Le x x:=fun _ h=>h
theorem Le.trans {α:Type} {x y z:Option α} (h:Le x y) (h':Le y z):Le x z:=fun r e=>h' r (h r e)
theorem Le.none {α:Type} (y:Option α):Le (Option.none:Option α) y:=fun _ h=>by cases h
open Classical in
noncomputable def lim {α:Type} (f:Nat→Option α):Option α:=if h:∃ n,(f n).isSome=true then f (Classical.choose h) else none
theorem qkM {α:Type} {f:Nat→Option α} (hm:∀ n,Le (f n) (f (n+1))):∀ {a b:Nat},a≤b→Le (f a) (f b):=by
 intro a b hab
 induction hab with
 | refl=>exact Le.refl _
 | step _ ih=>exact ih.trans (hm _)
theorem qoi {α:Type} {f:Nat→Option α} (hm:∀ n,Le (f n) (f (n+1))) {r:α}:lim f=some r↔∃ n,f n=some r:=by
 constructor
 ·intro h
  unfold lim at h
  split at h
  ·exact⟨_,h⟩
  ·cases h
 ·rintro ⟨n,hn⟩
  have hx:∃ n,(f n).isSome=true:=⟨n,by rw[hn];rfl⟩
  unfold lim
  rw[dif_pos hx]
  have h1:=Classical.choose_spec hx
  obtain⟨r',hr'⟩:=Option.isSome_iff_exists.1 h1
  rw[hr']
  have a:=qkM hm (Nat.le_max_left n (Classical.choose hx)) r hn
  have b:=qkM hm (Nat.le_max_right n (Classical.choose hx)) r' hr'
  rw[a] at b
  injection b with b
  rw[b]
theorem qjY (body:St→Option (AExit × St)):∀ n s,Le (qcV body n s) (qcV body (n+1) s):=by
 intro n
 induction n with
 | zero=>intro s r h;cases h
 | succ n ih =>
   intro s r h
   rw[qcV] at h ⊢
   split
   ·rename_i s' hb
    rw[hb] at h
    exact ih s' r h
   ·rename_i r' hr'
    split at h
    ·rename_i s' hs'
     exact absurd hs' (hr' s')
    ·exact h
theorem qdR {b1 b2:St→Option (AExit × St)} (hb:∀ s,Le (b1 s) (b2 s)):∀ {n m:Nat},n≤m→∀ s,Le (qcV b1 n s) (qcV b2 m s):=by
 intro n m hnm s
 refine Le.trans ?_ (qkM (f:=fun k=>qcV b2 k s) (fun k=>qjY b2 k s) hnm)
 clear hnm
 induction n generalizing s with
 | zero=>intro r h;cases h
 | succ n ih =>
   intro r h
   rw[qcV] at h ⊢
   cases hx:b1 s with
   | none=>rw[hx] at h;cases h
   | some x =>
     rw[hb s x hx]
     rw[hx] at h
     obtain⟨e,s'⟩:=x
     cases e with
     | normal=>exact ih s' r h
     | _=>exact h
section
variable {pure:Nat→Bool} {c1 c2:CallT}
theorem qpd (hc:∀ f a h,Le (c1 f a h) (c2 f a h)) (f:Nat) (a:List AVal) (h:Heap):Le (qhu c1 f a h) (qhu c2 f a h):=by
 intro r hr
 unfold qhu at hr ⊢
 split
 ·rename_i hp
  rw[if_pos hp] at hr
  cases hx:c1 f (a.map (ren fun i=>qan i (qbf a h) 0)) (qcb (qbf a h) h) with
  | none=>rw[hx] at hr;cases hr
  | some x=>rw[hc _ _ _ x hx];rw[hx] at hr;exact hr
 ·rename_i hp
  rw[if_neg hp] at hr
  cases hr
theorem qfO (hc:∀ f a h,Le (c1 f a h) (c2 f a h)) (f:Nat) (a:List AVal) (h:Heap):Le (qbI pure c1 f a h) (qbI pure c2 f a h):=by
 intro r hr
 unfold qbI at hr ⊢
 split
 ·rename_i hp
  rw[if_pos hp] at hr
  cases hx:c1 f (a.map wipe) [] with
  | none=>rw[hx] at hr;cases hr
  | some x=>rw[hc _ _ _ x hx];rw[hx] at hr;exact hr
 ·rename_i hp
  rw[if_neg hp] at hr
  exact qpd hc _ _ _ _ hr
theorem qpb (hc:∀ f a h,Le (c1 f a h) (c2 f a h)) (g:Nat) (xs:List AVal) (h:Heap):Le (qht pure c1 g xs h) (qht pure c2 g xs h):=by
 intro r hr
 unfold qht at hr ⊢
 split
 ·rename_i hc'
  rw[if_pos hc'] at hr
  unfold qaA at hr ⊢
  split at hr
  ·rename_i v h' hd
   rw[qfO hc _ _ _ _ hd]
   exact hr
  ·cases hr
 ·rename_i hc'
  rw[if_neg hc'] at hr
  cases hr
theorem qpr (hc:∀ f a h,Le (c1 f a h) (c2 f a h)) (f:Nat) (a:List AVal) (h:Heap):Le (qmD c1 f a h) (qmD c2 f a h):=by
 intro r hr
 unfold qmD at hr ⊢
 split
 ·rename_i hp
  rw[if_pos hp] at hr
  cases hx:c1 f (a.map (lookV h)) [] with
  | none=>rw[hx] at hr;cases hr
  | some x=>rw[hc _ _ _ x hx];rw[hx] at hr;exact hr
 ·rename_i hp
  rw[if_neg hp] at hr
  cases hr
theorem qe1 (hc:∀ f a h,Le (c1 f a h) (c2 f a h)) (o:AOp) (tm:Tmps) (h:Heap):Le (aOp pure c1 o tm h) (aOp pure c2 o tm h):=by
 intro r hr
 cases o with
 | vcall f args=>exact qpr hc _ _ _ _ hr
 | hcall f args =>
   simp only[aOp] at hr ⊢
   split
   ·rename_i hf
    rw[hf] at hr
    exact hc _ _ _ _ hr
   ·rename_i hf
    split at hr
    ·rename_i hf'
     exact absurd hf' (hf _ _ _)
    ·cases hr
 | call f args =>
   simp only[aOp] at hr ⊢
   split
   ·rename_i hf
    rw[hf] at hr
    exact qfO hc _ _ _ _ hr
   ·rename_i hf
    split at hr
    ·rename_i hf'
     exact absurd hf' (hf _ _ _)
    ·cases hr
 | pcallV f args =>
   simp only[aOp] at hr ⊢
   split
   ·rename_i hf
    rw[hf] at hr
    exact qpb hc _ _ _ _ hr
   ·rename_i hf
    split at hr
    ·rename_i hf'
     exact absurd hf' (hf _ _ _)
    ·cases hr
 | pcall f args =>
   simp only[aOp] at hr ⊢
   split
   ·rename_i hc'
    rw[if_pos hc'] at hr
    unfold qaA at hr ⊢
    split at hr
    ·rename_i v h' hd
     rw[qfO hc _ _ _ _ hd]
     exact hr
    ·cases hr
   ·rename_i hc'
    rw[if_neg hc'] at hr
    cases hr
 | _=>exact hr
theorem qdG (hc:∀ f a h,Le (c1 f a h) (c2 f a h)):∀ (l:List Step) (s:St),Le (qbT pure c1 l s) (qbT pure c2 l s):=by
 intro l
 induction l with
 | nil=>intro s;exact Le.refl _
 | cons o rest ih =>
   intro s r hr
   rw[qbT] at hr ⊢
   split
   ·rename_i hw
    rw[hw] at hr
    dsimp only at hr
    cases hx:aOp pure c1 o.op s.tm s.h with
    | none=>rw[hx] at hr;cases hr
    | some x =>
      rw[qe1 hc _ _ _ x hx]
      rw[hx] at hr
      obtain⟨v,h⟩:=x
      cases v with
      | val v=>exact ih _ r hr
      | panic v=>exact hr
   ·rename_i hw
    rw[hw] at hr
    exact ih _ r hr
   ·rename_i hw
    rw[hw] at hr
    cases hr
theorem qo1 (hc:∀ f a h,Le (c1 f a h) (c2 f a h)) (f:Nat) (a:List AVal) (h:Heap):Le (qkG c1 f a h) (qkG c2 f a h):=by
 intro r hr
 unfold qkG at hr ⊢
 split
 ·rename_i hp
  rw[if_pos hp] at hr
  cases hx:c1 f (a.map wipe) [] with
  | none=>rw[hx] at hr;cases hr
  | some x=>rw[hc _ _ _ x hx];rw[hx] at hr;exact hr
 ·rename_i hp
  rw[if_neg hp] at hr
  cases hr
theorem qla (hc:∀ f a h,Le (c1 f a h) (c2 f a h)) (o:AOp) (tm:Tmps) (h:Heap):Le (qgB pure c1 o tm h) (qgB pure c2 o tm h):=by
 intro r hr
 cases o with
 | pcall f args=>exact qo1 hc _ _ _ _ hr
 | append sz bytes x y =>
   simp only[qgB] at hr ⊢
   split
   ·rename_i hq
    rw[if_pos hq] at hr
    exact hr
   ·rename_i hq
    rw[if_neg hq] at hr
    exact qe1 hc _ tm h r hr
 | _=>simp only[qgB] at hr ⊢;exact qe1 hc _ tm h r hr
theorem qgC (hc:∀ f a h,Le (c1 f a h) (c2 f a h)):∀ (l:List Step) (s:St),Le (qdo pure c1 l s) (qdo pure c2 l s):=by
 intro l
 induction l with
 | nil=>intro s;exact Le.refl _
 | cons o rest ih =>
   intro s r hr
   rw[qdo] at hr ⊢
   split
   ·rename_i hw
    rw[hw] at hr
    dsimp only at hr
    cases hx:qgB pure c1 o.op s.tm s.h with
    | none=>rw[hx] at hr;cases hr
    | some x =>
      rw[qla hc _ _ _ x hx]
      rw[hx] at hr
      obtain⟨v,h⟩:=x
      cases v with
      | val v=>exact ih _ r hr
      | panic v=>exact hr
   ·rename_i hw
    rw[hw] at hr
    exact ih _ r hr
   ·rename_i hw
    rw[hw] at hr
    cases hr
theorem qjq (hc:∀ f a h,Le (c1 f a h) (c2 f a h)):∀ (l:List Step) (tm:Tmps) (hs:List Heap) (h:Heap),Le (qcA pure c1 l tm hs h) (qcA pure c2 l tm hs h):=by
 intro l
 induction l with
 | nil=>intro tm hs h;exact Le.refl _
 | cons o rest ih =>
   intro tm hs h r hr
   rw[qcA] at hr ⊢
   split
   ·rename_i hw
    rw[hw] at hr
    dsimp only at hr
    cases hx:aOp pure c1 o.op tm h with
    | none=>rw[hx] at hr;cases hr
    | some x =>
      rw[qe1 hc _ _ _ x hx]
      rw[hx] at hr
      obtain⟨v,h'⟩:=x
      cases v with
      | val v=>exact ih _ _ _ r hr
      | panic v=>exact hr
   ·rename_i hw
    rw[hw] at hr
    exact ih _ _ _ r hr
   ·rename_i hw
    rw[hw] at hr
    cases hr
section
variable {o1 o2:List Step→St→Option (AExit × St)} {b1 b2 c1' c2':St→Option (AExit × St)}
theorem qlk {id:Nat} {x y:Option (AExit × St)} (h:Le x y):Le (qcT id x) (qcT id y):=by
 intro r hr
 cases x with
 | none=>cases hr
 | some x=>rw[h x rfl];exact hr
theorem qeT (ho:∀ l s,Le (o1 l s) (o2 l s)) (hb:∀ s,Le (b1 s) (b2 s)) (n:Nat) (k:RangeK) (e:AVal × AVal) (s:St):Le (qaX o1 n k b1 e s) (qaX o2 n k b2 e s):=by
 intro r hr
 unfold qaX at hr ⊢
 split
 case isFalse h0=>rw[if_neg h0] at hr;cases hr
 rename_i h0
 rw[if_pos h0] at hr
 cases hx:o1 k.r1 ⟨upd s.tm (some k.dn) (.tuple [.bool true,e.1,e.2]),s.h⟩ with
 | none=>rw[hx] at hr;cases hr
 | some x =>
   rw[ho _ _ x hx]
   rw[hx] at hr
   obtain⟨q,s1⟩:=x
   cases q with
   | normal =>
     dsimp only at hr ⊢
     split
     case isFalse h1=>rw[if_neg h1] at hr;cases hr
     rename_i h1
     rw[if_pos h1] at hr
     split
     ·rename_i hq
      rw[hq] at hr
      refine qlk (id:=k.id2) ?_ r hr
      intro r2 hr2
      unfold qi0 at hr2 ⊢
      cases hy:o1 k.r2 ⟨upd s1.tm k.de (.tuple [e.1,e.2]),s1.h⟩ with
      | none=>rw[hy] at hr2;cases hr2
      | some y =>
        rw[ho _ _ y hy]
        rw[hy] at hr2
        obtain⟨q2,s2⟩:=y
        cases q2 with
        | normal=>exact hb _ r2 hr2
        | _=>exact hr2
     ·rename_i hq
      split at hr
      ·rename_i hq'
       exact absurd hq' hq
      ·cases hr
   | _=>cases hr
theorem qkR (ho:∀ l s,Le (o1 l s) (o2 l s)) (n:Nat) (k:RangeK) (s:St):Le (qbs o1 n k s) (qbs o2 n k s):=by
 intro r hr
 unfold qbs at hr ⊢
 split
 case isFalse h0=>rw[if_neg h0] at hr;cases hr
 rename_i h0
 rw[if_pos h0] at hr
 cases hx:o1 k.r1 ⟨upd s.tm (some k.dn) (.tuple [.bool false]),s.h⟩ with
 | none=>rw[hx] at hr;cases hr
 | some x =>
   rw[ho _ _ x hx]
   rw[hx] at hr
   exact hr
theorem qc2 (ho:∀ l s,Le (o1 l s) (o2 l s)) (hb:∀ s,Le (b1 s) (b2 s)) (n:Nat) (k:RangeK):∀ (es:List (AVal × AVal)) (s:St),Le (qaY o1 n k b1 es s) (qaY o2 n k b2 es s)
 | [],s=>qkR ho n k _
 | e :: es,s => by
   intro r hr
   rw[qaY] at hr ⊢
   cases hx:qaX o1 n k b1 e (gc (n+1) k.kr s) with
   | none=>rw[hx] at hr;cases hr
   | some x =>
     rw[qeT ho hb n k e _ x hx]
     rw[hx] at hr
     obtain⟨q,s1⟩:=x
     cases q with
     | normal=>exact qc2 ho hb n k es s1 r hr
     | _=>exact hr
theorem qch {O:List (AVal × AVal)→Prop} (hO:∃ es,O es) {f:List (AVal × AVal)→Option (AExit × St)} {r:AExit × St}:qlg O f=some r↔∀ es,O es→f es=some r:=by
 constructor
 ·intro h
  unfold qlg at h
  split at h
  ·rename_i hx
   injection h with h
   rw[← h]
   exact Classical.choose_spec hx
  ·cases h
 ·intro h
  have hx:∃ r,∀ es,O es→f es=some r:=⟨r,h⟩
  unfold qlg
  rw[dif_pos hx]
  obtain⟨es,he⟩:=hO
  have h1:=Classical.choose_spec hx es he
  rw[h es he] at h1
  exact h1.symm
theorem qbz (str:Bool) (es:List (AVal × AVal)):∃ es',qb1 str es es':=⟨es,by unfold qb1;split<;>first | rfl | exact .refl _⟩
def qb7 (ops:List Step→St→Option (AExit × St)) (k:RangeK) (runB runC:St→Option (AExit × St)) (s s1:St) (es:List (AVal × AVal)):Option (AExit × St) :=
 (match qaY ops s1.h.length k runB es ⟨upd s1.tm (some k.it) (.ptr (some (s1.h.length,0))),qjg (opd s1.tm k.m) s1.h⟩ with
  | some (.normal,s2)=>runC ⟨s2.tm,qb4 (opd s1.tm k.m) s1.h s2.h⟩
  | some (e,s2)=>some (e,⟨s2.tm,qb4 (opd s1.tm k.m) s1.h s2.h⟩)
  | none=>none).map (gcE s.h.length k.keep)
theorem qdY (ops:List Step→St→Option (AExit × St)) (k:RangeK) (runB runC:St→Option (AExit × St)) (s:St):qiT ops k runB runC s=match ops k.pre s with
 | some (.normal,s1) => (match qcc k.str (opd s1.tm k.m) s1.h with
   | some es=>qlg (qb1 k.str es) (qb7 ops k runB runC s s1)
   | none=>none)
 | _=>none:=rfl
theorem qej (ho:∀ l s,Le (o1 l s) (o2 l s)) (hb:∀ s,Le (b1 s) (b2 s)) (hc:∀ s,Le (c1' s) (c2' s)) (k:RangeK) (s s1:St) (es:List (AVal × AVal)):Le (qb7 o1 k b1 c1' s s1 es) (qb7 o2 k b2 c2' s s1 es):=by
 intro r hr
 unfold qb7 at hr ⊢
 obtain⟨x,hx,rfl⟩:=Option.map_eq_some_iff.1 hr
 refine Option.map_eq_some_iff.2 ⟨x,?_,rfl⟩
 cases hy:qaY o1 s1.h.length k b1 es ⟨upd s1.tm (some k.it) (.ptr (some (s1.h.length,0))),qjg (opd s1.tm k.m) s1.h⟩ with
 | none=>rw[hy] at hx;cases hx
 | some y =>
   rw[qc2 ho hb _ k _ _ y hy]
   rw[hy] at hx
   obtain⟨q,s2⟩:=y
   cases q with
   | normal=>exact hc _ x hx
   | _=>exact hx
theorem qiU (ho:∀ l s,Le (o1 l s) (o2 l s)) (hb:∀ s,Le (b1 s) (b2 s)) (hc:∀ s,Le (c1' s) (c2' s)) (k:RangeK) (s:St):Le (qiT o1 k b1 c1' s) (qiT o2 k b2 c2' s):=by
 intro r hr
 rw[qdY] at hr ⊢
 cases hx:o1 k.pre s with
 | none=>rw[hx] at hr;cases hr
 | some x =>
   rw[ho _ _ x hx]
   rw[hx] at hr
   obtain⟨q,s1⟩:=x
   cases q with
   | normal =>
     dsimp only at hr ⊢
     split
     ·rename_i es hes
      rw[hes] at hr
      have h1:=(qch (qbz _ _)).1 hr
      exact (qch (qbz _ _)).2 fun es' he=>qej ho hb hc k s s1 es' r (h1 es' he)
     ·rename_i hes
      rw[hes] at hr
      cases hr
   | _=>cases hr
end
theorem qjp (hc:∀ f a h,Le (c1 f a h) (c2 f a h)) (l:List Step) (cs:List (Nat × Nat × Nat)) (s:St):Le (qfD pure c1 l cs s) (qfD pure c2 l cs s):=by
 intro r hr
 unfold qfD at hr ⊢
 cases hx:qcA pure c1 l s.tm [] s.h with
 | none=>rw[hx] at hr;cases hr
 | some x=>rw[qjq hc _ _ _ _ x hx];rw[hx] at hr;exact hr
theorem qcg (hc:∀ f a h,Le (c1 f a h) (c2 f a h)) {n m:Nat} (hnm:n≤m):∀ (c:ACode) (s:St),Le (qax pure c1 n c s) (qax pure c2 m c s):=by
 intro c
 induction c with
 | skip=>intro s;exact Le.refl _
 | ops l=>intro s;exact qdG hc l s
 | draw l cs=>intro s;exact qjp hc l cs s
 | kops l=>intro s;exact qgC hc l s
 | mdraw k l ns=>intro s;exact Le.refl _
 | seq a b iha ihb =>
   intro s r hr
   rw[qax] at hr ⊢
   cases hx:qax pure c1 n a s with
   | none=>rw[hx] at hr;cases hr
   | some x =>
     rw[iha s x hx]
     rw[hx] at hr
     obtain⟨e,s'⟩:=x
     cases e with
     | normal=>exact ihb _ r hr
     | _=>exact hr
 | cond c a b iha ihb =>
   intro s r hr
   rw[qax] at hr ⊢
   split
   ·rename_i t ht
    rw[ht] at hr
    cases t with
    | true=>exact iha s r hr
    | false=>exact ihb s r hr
   ·rename_i ht
    split at hr
    ·rename_i t ht'
     exact absurd ht' (ht t)
    ·cases hr
 | block id c ih =>
   intro s r hr
   rw[qax] at hr ⊢
   cases hx:qax pure c1 n c s with
   | none=>rw[hx] at hr;cases hr
   | some x=>rw[ih s x hx];rw[hx] at hr;exact hr
 | loop c ih=>intro s;exact qdR ih hnm s
 | gloop k c ih=>intro s;exact qdR (fun s1=>ih _) hnm s
 | freeze t c ih=>intro s;exact ih _
 | view c ih=>intro s;exact ih _
 | range k b c ihb ihc=>intro s;exact qiU (fun l s=>qdG hc l s) ihb ihc k s
 | frame k c ih =>
   intro s r hr
   rw[qax] at hr ⊢
   obtain⟨x,hx,rfl⟩:=Option.map_eq_some_iff.1 hr
   rw[ih s x hx]
   rfl
 | exit id=>intro s;exact Le.refl _
 | ret=>intro s;exact Le.refl _
 | stuck=>intro s;exact Le.refl _
end
theorem qoW {rs:List ARVar} {x y:Option (AExit × St)} (h:Le x y):Le (qaw rs x) (qaw rs y):=by
 intro r hr
 cases x with
 | none=>cases hr
 | some x=>rw[h x rfl];exact hr
theorem qjB (L:Lib):∀ n f a h,Le (qbD L n f a h) (qbD L (n+1) f a h):=by
 intro n
 induction n with
 | zero=>intro f a h r hr;cases hr
 | succ n ih =>
   intro f a h r hr
   rw[qbD] at hr ⊢
   split
   ·rename_i s hs
    rw[hs] at hr
    exact hr
   ·rename_i hs
    rw[hs] at hr
    dsimp only at hr
    split
    ·rename_i fn hfn
     rw[hfn] at hr
     exact qoW (qcg ih (Nat.le_succ n) _ _) r hr
    ·rename_i hfn
     rw[hfn] at hr
     cases hr
theorem qb5 (L:Lib) {n m:Nat} (h:n≤m) (f:Nat) (a:List AVal) (hp:Heap):Le (qbD L n f a hp) (qbD L m f a hp) :=
 qkM (f:=fun k=>qbD L k f a hp) (fun k=>qjB L k f a hp) h
noncomputable def call (L:Lib):CallT:=fun f a h=>lim fun n=>qbD L n f a h
theorem qcO {L:Lib} {f:Nat} {a:List AVal} {h:Heap} {r:ARes × Heap}:call L f a h=some r↔∃ n,qbD L n f a h=some r :=
 qoi fun n=>qjB L n f a h
noncomputable def qiE (body:St→Option (AExit × St)) (s:St):Option (AExit × St):=lim fun n=>qcV body n s
theorem qcE {body:St→Option (AExit × St)} {s:St} {r:AExit × St}:qiE body s=some r↔∃ n,qcV body n s=some r:=qoi fun n=>qjY body n s
theorem qfU (body:St→Option (AExit × St)) (n:Nat) (s:St):Le (qcV body n s) (qiE body s):=fun _ hr=>qcE.2 ⟨n,hr⟩
theorem qoj (body:St→Option (AExit × St)) (s:St):qiE body s=match body s with | some (.normal,s')=>qiE body s' | r=>r:=by
 have key:∀ r,qiE body s=some r↔(match body s with | some (.normal,s')=>qiE body s' | r=>r)=some r:=by
  intro r
  constructor
  ·intro h
   obtain⟨n,hn⟩:=qcE.1 h
   cases n with
   | zero=>cases hn
   | succ n =>
     rw[qcV] at hn
     split at hn
     ·rename_i s' hs'
      rw[hs']
      exact qfU _ _ _ _ hn
     ·rename_i x hx
      split
      ·rename_i s' hs'
       exact absurd hs' (hx s')
      ·exact hn
  ·intro h
   split at h
   ·rename_i s' hs'
    obtain⟨n,hn⟩:=qcE.1 h
    exact qcE.2 ⟨n+1,by rw[qcV,hs'];exact hn⟩
   ·rename_i x hx
    refine qcE.2 ⟨1,?_⟩
    rw[qcV]
    split
    ·rename_i s' hs'
     exact absurd hs' (hx s')
    ·exact h
 cases hx:qiE body s with
 | some r=>exact ((key r).1 hx).symm
 | none =>
   cases hy:(match body s with | some (.normal,s')=>qiE body s' | r=>r) with
   | none=>rfl
   | some r=>rw[(key r).2 hy] at hx;cases hx
noncomputable def qaG (pure:Nat→Bool) (call:CallT):ACode→St→Option (AExit × St)
 | .skip,s=>some (.normal,s)
 | .ops l,s=>qbT pure call l s
 | .draw l cs,s=>qfD pure call l cs s
 | .kops l,s=>qdo pure call l s
 | .mdraw k l ns,s=>qry k l ns s
 | .seq a b,s =>
   (match qaG pure call a s with
   | some (.normal,s')=>qaG pure call b s'
   | r=>r)
 | .cond c a b,s=>(match opd s.tm c with | .bool t=>if t then qaG pure call a s else qaG pure call b s | _=>none)
 | .block id c,s =>
   (match qaG pure call c s with
   | some (.exit id',s')=>if id'=id then some (.normal,s') else some (.exit id',s')
   | r=>r)
 | .loop c,s=>qiE (qaG pure call c) s
 | .gloop k c,s=>qiE (fun s1=>qaG pure call c (gc s.h.length k s1)) s
 | .frame k c,s=>(qaG pure call c s).map (gcE s.h.length k)
 | .freeze t c,s=>qaG pure call c (qee t s)
 | .view c,s=>qaG pure call c (qnC s)
 | .range k b c,s=>qiT (qbT pure call) k (qaG pure call b) (qaG pure call c) s
 | .exit id,s=>some (.exit id,s)
 | .ret,s=>some (.ret,s)
 | .stuck,_=>none
theorem qk8 {pure:Nat→Bool} {c1 c2:CallT} (hc:∀ f a h,Le (c1 f a h) (c2 f a h)) (n:Nat):∀ (c:ACode) (s:St),Le (qax pure c1 n c s) (qaG pure c2 c s):=by
 intro c
 induction c with
 | skip=>intro s;exact Le.refl _
 | ops l=>intro s;exact qdG hc l s
 | draw l cs=>intro s;exact qjp hc l cs s
 | kops l=>intro s;exact qgC hc l s
 | mdraw k l ns=>intro s;exact Le.refl _
 | seq a b iha ihb =>
   intro s r hr
   rw[qax] at hr
   rw[qaG]
   cases hx:qax pure c1 n a s with
   | none=>rw[hx] at hr;cases hr
   | some x =>
     rw[iha s x hx]
     rw[hx] at hr
     obtain⟨e,s'⟩:=x
     cases e with
     | normal=>exact ihb _ r hr
     | _=>exact hr
 | cond c a b iha ihb =>
   intro s r hr
   rw[qax] at hr
   rw[qaG]
   split
   ·rename_i t ht
    rw[ht] at hr
    cases t with
    | true=>exact iha s r hr
    | false=>exact ihb s r hr
   ·rename_i ht
    split at hr
    ·rename_i t ht'
     exact absurd ht' (ht t)
    ·cases hr
 | block id c ih =>
   intro s r hr
   rw[qax] at hr
   rw[qaG]
   cases hx:qax pure c1 n c s with
   | none=>rw[hx] at hr;cases hr
   | some x=>rw[ih s x hx];rw[hx] at hr;exact hr
 | loop c ih=>intro s;exact (qdR ih (Nat.le_refl n) s).trans (qfU _ _ _)
 | gloop k c ih=>intro s;exact (qdR (fun s1=>ih _) (Nat.le_refl n) s).trans (qfU _ _ _)
 | freeze t c ih=>intro s;exact ih _
 | view c ih=>intro s;exact ih _
 | range k b c ihb ihc=>intro s;exact qiU (fun l s=>qdG hc l s) ihb ihc k s
 | frame k c ih =>
   intro s r hr
   rw[qax] at hr
   rw[qaG]
   obtain⟨x,hx,rfl⟩:=Option.map_eq_some_iff.1 hr
   rw[ih s x hx]
   rfl
 | exit id=>intro s;exact Le.refl _
 | ret=>intro s;exact Le.refl _
 | stuck=>intro s;exact Le.refl _
section
variable {pure:Nat→Bool} {L:Lib}
theorem qgH {f:Nat} {a:List AVal} {h:Heap} {r:ARes × Heap} (hr:qbI pure (call L) f a h=some r):∃ n,qbI pure (qbD L n) f a h=some r:=by
 unfold qbI at hr
 split at hr
 ·rename_i hp
  cases hx:call L f (a.map wipe) [] with
  | none=>rw[hx] at hr;cases hr
  | some x =>
    rw[hx] at hr
    obtain⟨n,hn⟩:=qcO.1 hx
    refine⟨n,?_⟩
    unfold qbI
    rw[if_pos hp,hn]
    exact hr
 ·rename_i hp
  unfold qhu at hr
  split at hr
  ·rename_i hq
   cases hx:call L f (a.map (ren fun i=>qan i (qbf a h) 0)) (qcb (qbf a h) h) with
   | none=>rw[hx] at hr;cases hr
   | some x =>
     rw[hx] at hr
     obtain⟨n,hn⟩:=qcO.1 hx
     refine⟨n,?_⟩
     unfold qbI qhu
     rw[if_neg hp,if_pos hq,hn]
     exact hr
  ·cases hr
theorem qkq {o:AOp} {tm:Tmps} {h:Heap} {r:ARes × Heap} (hr:aOp pure (call L) o tm h=some r):∃ n,aOp pure (qbD L n) o tm h=some r:=by
 cases o with
 | vcall f args =>
   simp only[aOp] at hr ⊢
   unfold qmD at hr
   split at hr
   ·rename_i hp
    cases hx:call L f ((args.map (opd tm)).map (lookV h)) [] with
    | none=>rw[hx] at hr;cases hr
    | some x =>
      rw[hx] at hr
      obtain⟨n,hn⟩:=qcO.1 hx
      refine⟨n,?_⟩
      unfold qmD
      rw[if_pos hp,hn]
      exact hr
   ·cases hr
 | hcall f args =>
   simp only[aOp] at hr ⊢
   split at hr
   ·rename_i hf
    exact qcO.1 hr
   ·cases hr
 | call f args =>
   simp only[aOp] at hr ⊢
   split at hr
   ·rename_i hf
    exact qgH hr
   ·cases hr
 | pcallV f args =>
   simp only[aOp] at hr ⊢
   split at hr
   ·rename_i hf
    unfold qht at hr
    split at hr
    ·rename_i hc'
     unfold qaA at hr
     split at hr
     ·rename_i v h' hd
      obtain⟨n,hn⟩:=qgH hd
      refine⟨n,?_⟩
      unfold qht
      rw[if_pos hc',hn]
      exact hr
     ·cases hr
    ·cases hr
   ·cases hr
 | pcall f args =>
   simp only[aOp] at hr ⊢
   split at hr
   ·rename_i hc'
    unfold qaA at hr
    split at hr
    ·rename_i v h' hd
     obtain⟨n,hn⟩:=qgH hd
     refine⟨n,?_⟩
     rw[if_pos hc',hn]
     exact hr
    ·cases hr
   ·cases hr
 | _=>exact⟨0,hr⟩
theorem qf0:∀ (l:List Step) {s:St} {r:AExit × St},qbT pure (call L) l s=some r→∃ n,qbT pure (qbD L n) l s=some r:=by
 intro l
 induction l with
 | nil=>intro s r hr;exact⟨0,hr⟩
 | cons o rest ih =>
   intro s r hr
   rw[qbT] at hr
   split at hr
   ·rename_i hw
    cases hx:aOp pure (call L) o.op s.tm s.h with
    | none=>rw[hx] at hr;cases hr
    | some x =>
      rw[hx] at hr
      obtain⟨n,hn⟩:=qkq hx
      obtain⟨v,h⟩:=x
      cases v with
      | val v =>
        obtain⟨m,hm⟩:=ih hr
        refine⟨max n m,?_⟩
        rw[qbT,hw]
        dsimp only
        rw[qe1 (qb5 L (Nat.le_max_left n m)) _ _ _ _ hn]
        exact qdG (qb5 L (Nat.le_max_right n m)) _ _ _ hm
      | panic v =>
        refine⟨n,?_⟩
        rw[qbT,hw]
        dsimp only
        rw[hn]
        exact hr
   ·rename_i hw
    obtain⟨m,hm⟩:=ih hr
    exact⟨m,by rw[qbT,hw];exact hm⟩
   ·cases hr
theorem qrz {o:AOp} {tm:Tmps} {h:Heap} {r:ARes × Heap} (hr:qgB pure (call L) o tm h=some r):∃ n,qgB pure (qbD L n) o tm h=some r:=by
 cases o with
 | pcall f args =>
   simp only[qgB] at hr ⊢
   unfold qkG at hr
   split at hr
   ·rename_i hp
    cases hx:call L f ((args.map (opd tm)).map wipe) [] with
    | none=>rw[hx] at hr;cases hr
    | some x =>
      rw[hx] at hr
      obtain⟨n,hn⟩:=qcO.1 hx
      refine⟨n,?_⟩
      unfold qkG
      rw[if_pos hp,hn]
      exact hr
   ·cases hr
 | append sz bytes x y =>
   simp only[qgB] at hr ⊢
   split at hr
   ·rename_i hq
    refine⟨0,?_⟩
    rw[if_pos hq]
    exact hr
   ·rename_i hq
    obtain⟨n,hn⟩:=qkq hr
    refine⟨n,?_⟩
    rw[if_neg hq]
    exact hn
 | _=>simp only[qgB] at hr ⊢;exact qkq hr
theorem qpE:∀ (l:List Step) {s:St} {r:AExit × St},qdo pure (call L) l s=some r→∃ n,qdo pure (qbD L n) l s=some r:=by
 intro l
 induction l with
 | nil=>intro s r hr;exact⟨0,hr⟩
 | cons o rest ih =>
   intro s r hr
   rw[qdo] at hr
   split at hr
   ·rename_i hw
    cases hx:qgB pure (call L) o.op s.tm s.h with
    | none=>rw[hx] at hr;cases hr
    | some x =>
      rw[hx] at hr
      obtain⟨n,hn⟩:=qrz hx
      obtain⟨v,h⟩:=x
      cases v with
      | val v =>
        obtain⟨m,hm⟩:=ih hr
        refine⟨max n m,?_⟩
        rw[qdo,hw]
        dsimp only
        rw[qla (qb5 L (Nat.le_max_left n m)) _ _ _ _ hn]
        exact qgC (qb5 L (Nat.le_max_right n m)) _ _ _ hm
      | panic v =>
        refine⟨n,?_⟩
        rw[qdo,hw]
        dsimp only
        rw[hn]
        exact hr
   ·rename_i hw
    obtain⟨m,hm⟩:=ih hr
    exact⟨m,by rw[qdo,hw];exact hm⟩
   ·cases hr
theorem qpD:∀ (l:List Step) {tm:Tmps} {hs:List Heap} {h:Heap} {r:Tmps × List Heap × Heap},qcA pure (call L) l tm hs h=some r→∃ n,qcA pure (qbD L n) l tm hs h=some r:=by
 intro l
 induction l with
 | nil=>intro tm hs h r hr;exact⟨0,hr⟩
 | cons o rest ih =>
   intro tm hs h r hr
   rw[qcA] at hr
   split at hr
   ·rename_i hw
    cases hx:aOp pure (call L) o.op tm h with
    | none=>rw[hx] at hr;cases hr
    | some x =>
      rw[hx] at hr
      obtain⟨n,hn⟩:=qkq hx
      obtain⟨v,h'⟩:=x
      cases v with
      | val v =>
        obtain⟨m,hm⟩:=ih hr
        refine⟨max n m,?_⟩
        rw[qcA,hw]
        dsimp only
        rw[qe1 (qb5 L (Nat.le_max_left n m)) _ _ _ _ hn]
        exact qjq (qb5 L (Nat.le_max_right n m)) _ _ _ _ _ hm
      | panic v=>cases hr
   ·rename_i hw
    obtain⟨m,hm⟩:=ih hr
    exact⟨m,by rw[qcA,hw];exact hm⟩
   ·cases hr
theorem qok (c:ACode) (g:St→St) (ih:∀ {s:St} {r:AExit × St},qaG pure (call L) c s=some r→∃ n,qax pure (qbD L n) n c s=some r) {r:AExit × St} :
  ∀ k s,qcV (fun s1=>qaG pure (call L) c (g s1)) k s=some r→∃ n,qcV (fun s1=>qax pure (qbD L n) n c (g s1)) n s=some r:=by
 intro k
 induction k with
 | zero=>intro s h;cases h
 | succ k ihk =>
   intro s h
   rw[qcV] at h
   cases hx:qaG pure (call L) c (g s) with
   | none=>rw[hx] at h;cases h
   | some x =>
     rw[hx] at h
     obtain⟨n,hn⟩:=ih hx
     obtain⟨e,s'⟩:=x
     cases e with
     | normal =>
       obtain⟨m,hm⟩:=ihk s' h
       refine⟨max n m+1,?_⟩
       rw[qcV,qcg (qb5 L (Nat.le_trans (Nat.le_max_left n m) (Nat.le_succ _))) (Nat.le_trans (Nat.le_max_left n m) (Nat.le_succ _)) _ _ _ hn]
       exact qdR (fun s=>qcg (qb5 L (Nat.le_trans (Nat.le_max_right n m) (Nat.le_succ _))) (Nat.le_trans (Nat.le_max_right n m) (Nat.le_succ _)) _ _) (Nat.le_max_right n m) _ _ hm
     | _ =>
       refine⟨n+1,?_⟩
       rw[qcV,qcg (qb5 L (Nat.le_succ n)) (Nat.le_succ n) _ _ _ hn]
       exact h
def qj8 (x:AVal × AVal):List (AVal × AVal)→List (List (AVal × AVal))
 | []=>[[x]]
 | y::ys=>(x::y::ys)::(qj8 x ys).map (y::·)
def qeC:List (AVal × AVal)→List (List (AVal × AVal))
 | []=>[[]]
 | x::xs=>(qeC xs).flatMap (qj8 x)
theorem qj0 (x:AVal × AVal):∀ l r:List (AVal × AVal),l++x::r∈qj8 x (l++r)
 | [],[]=>by simp[qj8]
 | [],y::ys=>by simp[qj8]
 | y :: l,r => by
   simp only[List.cons_append,qj8,List.mem_cons,List.mem_map]
   exact .inr ⟨_,qj0 x l r,rfl⟩
theorem qgu:∀ (es es':List (AVal × AVal)),es'.Perm es→es'∈qeC es
 | [],es',h=>by rw[h.eq_nil];simp[qeC]
 | x :: xs,es',h => by
   obtain⟨l,r,rfl⟩:=List.append_of_mem (h.mem_iff.2 (List.mem_cons_self ..))
   have h1:(l++r).Perm xs:=by
    have:=(List.perm_middle (a:=x) (l₁:=l) (l₂:=r)).symm.trans h
    exact this.cons_inv
   simp only[qeC,List.mem_flatMap]
   exact⟨_,qgu xs _ h1,qj0 x l r⟩
theorem qp7 {α:Type} (Q:Nat→α→Prop) (hm:∀ n m a,n≤m→Q n a→Q m a):∀ (l:List α),(∀ a∈l,∃ n,Q n a)→∃ n,∀ a∈l,Q n a
 | [],_=>⟨0,fun a ha=>by cases ha⟩
 | a :: l,h => by
   obtain⟨n,hn⟩:=h a (by simp)
   obtain⟨m,hm'⟩:=qp7 Q hm l fun b hb=>h b (by simp[hb])
   refine⟨max n m,fun b hb=>?_⟩
   rcases List.mem_cons.1 hb with rfl | hb
   ·exact hm _ _ _ (Nat.le_max_left n m) hn
   ·exact hm _ _ _ (Nat.le_max_right n m) (hm' b hb)
section
variable {b c:ACode}
theorem qdC {n m:Nat} (h:n≤m) (l:List Step) (s:St):Le (qbT pure (qbD L n) l s) (qbT pure (qbD L m) l s):=qdG (qb5 L h) l s
theorem qcY {n m:Nat} (h:n≤m) (s:St):Le (qax pure (qbD L n) n b s) (qax pure (qbD L m) m b s):=qcg (qb5 L h) h b s
theorem qjk (hb:∀ {s:St} {r:AExit × St},qaG pure (call L) b s=some r→∃ n,qax pure (qbD L n) n b s=some r) (i:Nat) (k:RangeK) (e:AVal × AVal) {s:St} {r:AExit × St}
  (hr:qaX (qbT pure (call L)) i k (qaG pure (call L) b) e s=some r):∃ n,qaX (qbT pure (qbD L n)) i k (qax pure (qbD L n) n b) e s=some r:=by
 unfold qaX at hr
 split at hr
 case isFalse=>cases hr
 rename_i g0
 cases hx:qbT pure (call L) k.r1 ⟨upd s.tm (some k.dn) (.tuple [.bool true,e.1,e.2]),s.h⟩ with
 | none=>rw[hx] at hr;cases hr
 | some x =>
   rw[hx] at hr
   obtain⟨n1,hn1⟩:=qf0 _ hx
   obtain⟨q,s1⟩:=x
   cases q with
   | normal =>
     dsimp only at hr
     split at hr
     case isFalse=>cases hr
     rename_i g1
     split at hr
     ·rename_i hq
      unfold qi0 at hr
      cases hy:qbT pure (call L) k.r2 ⟨upd s1.tm k.de (.tuple [e.1,e.2]),s1.h⟩ with
      | none=>rw[hy] at hr;cases hr
      | some y =>
        rw[hy] at hr
        obtain⟨n2,hn2⟩:=qf0 _ hy
        obtain⟨q2,s2⟩:=y
        cases q2 with
        | normal =>
          dsimp only at hr
          cases hz:qaG pure (call L) b s2 with
          | none=>rw[hz] at hr;cases hr
          | some z =>
            obtain⟨n3,hn3⟩:=hb hz
            rw[hz] at hr
            refine⟨max n1 (max n2 n3),?_⟩
            unfold qaX qi0
            rw[if_pos g0,qdC (Nat.le_max_left _ _) _ _ _ hn1]
            dsimp only
            rw[if_pos g1,hq]
            dsimp only
            rw[qdC (Nat.le_trans (Nat.le_max_left n2 n3) (Nat.le_max_right _ _)) _ _ _ hn2]
            dsimp only
            rw[qcY (Nat.le_trans (Nat.le_max_right n2 n3) (Nat.le_max_right _ _)) _ _ hn3]
            exact hr
        | _ =>
          refine⟨max n1 n2,?_⟩
          unfold qaX qi0
          rw[if_pos g0,qdC (Nat.le_max_left _ _) _ _ _ hn1]
          dsimp only
          rw[if_pos g1,hq]
          dsimp only
          rw[qdC (Nat.le_max_right _ _) _ _ _ hn2]
          exact hr
     ·cases hr
   | _=>cases hr
theorem qmk (i:Nat) (k:RangeK) {s:St} {r:AExit × St} (hr:qbs (qbT pure (call L)) i k s=some r):∃ n,qbs (qbT pure (qbD L n)) i k s=some r:=by
 unfold qbs at hr
 split at hr
 case isFalse=>cases hr
 rename_i g0
 cases hx:qbT pure (call L) k.r1 ⟨upd s.tm (some k.dn) (.tuple [.bool false]),s.h⟩ with
 | none=>rw[hx] at hr;cases hr
 | some x =>
   rw[hx] at hr
   obtain⟨n1,hn1⟩:=qf0 _ hx
   exact⟨n1,by unfold qbs;rw[if_pos g0,hn1];exact hr⟩
theorem qhj (hb:∀ {s:St} {r:AExit × St},qaG pure (call L) b s=some r→∃ n,qax pure (qbD L n) n b s=some r) (i:Nat) (k:RangeK):∀ (es:List (AVal × AVal)) {s:St} {r:AExit × St},
  qaY (qbT pure (call L)) i k (qaG pure (call L) b) es s=some r→∃ n,qaY (qbT pure (qbD L n)) i k (qax pure (qbD L n) n b) es s=some r
 | [],s,r,hr=>qmk i k hr
 | e :: es,s,r,hr => by
   rw[qaY] at hr
   cases hx:qaX (qbT pure (call L)) i k (qaG pure (call L) b) e (gc (i+1) k.kr s) with
   | none=>rw[hx] at hr;cases hr
   | some x =>
     rw[hx] at hr
     obtain⟨n,hn⟩:=qjk hb i k e hx
     obtain⟨q,s1⟩:=x
     cases q with
     | normal =>
       obtain⟨m,hm⟩:=qhj hb i k es hr
       refine⟨max n m,?_⟩
       rw[qaY,qeT (fun l s=>qdC (Nat.le_max_left n m) l s) (fun s=>qcY (Nat.le_max_left n m) s) i k e _ _ hn]
       exact qc2 (fun l s=>qdC (Nat.le_max_right n m) l s) (fun s=>qcY (Nat.le_max_right n m) s) i k es _ _ hm
     | _=>exact⟨n,by rw[qaY,hn];exact hr⟩
theorem qml (hb:∀ {s:St} {r:AExit × St},qaG pure (call L) b s=some r→∃ n,qax pure (qbD L n) n b s=some r) (hc:∀ {s:St} {r:AExit × St},qaG pure (call L) c s=some r→∃ n,qax pure (qbD L n) n c s=some r)
  (k:RangeK) (s s1:St) (es:List (AVal × AVal)) {r:AExit × St} (hr:qb7 (qbT pure (call L)) k (qaG pure (call L) b) (qaG pure (call L) c) s s1 es=some r) :
  ∃ n,qb7 (qbT pure (qbD L n)) k (qax pure (qbD L n) n b) (qax pure (qbD L n) n c) s s1 es=some r:=by
 unfold qb7 at hr
 obtain⟨x,hx,rfl⟩:=Option.map_eq_some_iff.1 hr
 cases hy:qaY (qbT pure (call L)) s1.h.length k (qaG pure (call L) b) es ⟨upd s1.tm (some k.it) (.ptr (some (s1.h.length,0))),qjg (opd s1.tm k.m) s1.h⟩ with
 | none=>rw[hy] at hx;cases hx
 | some y =>
   rw[hy] at hx
   obtain⟨n,hn⟩:=qhj hb _ k es hy
   obtain⟨q,s2⟩:=y
   cases q with
   | normal =>
     obtain⟨m,hm⟩:=hc hx
     refine⟨max n m,?_⟩
     unfold qb7
     rw[qc2 (fun l s=>qdC (Nat.le_max_left n m) l s) (fun s=>qcY (Nat.le_max_left n m) s) _ k es _ _ hn]
     dsimp only
     rw[qcY (Nat.le_max_right n m) _ _ hm]
     rfl
   | _ =>
     refine⟨n,?_⟩
     unfold qb7
     rw[hn]
     dsimp only at hx ⊢
     rw[hx]
     rfl
end
theorem qpB:∀ (c:ACode) {s:St} {r:AExit × St},qaG pure (call L) c s=some r→∃ n,qax pure (qbD L n) n c s=some r:=by
 intro c
 induction c with
 | skip=>intro s r hr;exact⟨0,hr⟩
 | ops l=>intro s r hr;exact qf0 l hr
 | kops l=>intro s r hr;exact qpE l hr
 | mdraw k l ns=>intro s r hr;exact⟨0,hr⟩
 | draw l cs =>
   intro s r hr
   rw[qaG] at hr
   unfold qfD at hr
   cases hx:qcA pure (call L) l s.tm [] s.h with
   | none=>rw[hx] at hr;cases hr
   | some x =>
     rw[hx] at hr
     obtain⟨n,hn⟩:=qpD l hx
     exact⟨n,by rw[qax];unfold qfD;rw[hn];exact hr⟩
 | seq a b iha ihb =>
   intro s r hr
   rw[qaG] at hr
   cases hx:qaG pure (call L) a s with
   | none=>rw[hx] at hr;cases hr
   | some x =>
     rw[hx] at hr
     obtain⟨n,hn⟩:=iha hx
     obtain⟨e,s'⟩:=x
     cases e with
     | normal =>
       obtain⟨m,hm⟩:=ihb hr
       refine⟨max n m,?_⟩
       rw[qax,qcg (qb5 L (Nat.le_max_left n m)) (Nat.le_max_left n m) _ _ _ hn]
       exact qcg (qb5 L (Nat.le_max_right n m)) (Nat.le_max_right n m) _ _ _ hm
     | _=>exact⟨n,by rw[qax,hn];exact hr⟩
 | cond c a b iha ihb =>
   intro s r hr
   rw[qaG] at hr
   split at hr
   ·rename_i t ht
    cases t with
    | true =>
      obtain⟨n,hn⟩:=iha hr
      exact⟨n,by rw[qax,ht];exact hn⟩
    | false =>
      obtain⟨n,hn⟩:=ihb hr
      exact⟨n,by rw[qax,ht];exact hn⟩
   ·cases hr
 | block id c ih =>
   intro s r hr
   rw[qaG] at hr
   cases hx:qaG pure (call L) c s with
   | none=>rw[hx] at hr;cases hr
   | some x =>
     rw[hx] at hr
     obtain⟨n,hn⟩:=ih hx
     exact⟨n,by rw[qax,hn];exact hr⟩
 | loop c ih =>
   intro s r hr
   rw[qaG] at hr
   obtain⟨k,hk⟩:=qcE.1 hr
   obtain⟨n,hn⟩:=qok c (fun s=>s) (fun hx=>ih hx) k s hk
   exact⟨n,by rw[qax];exact hn⟩
 | gloop kp c ih =>
   intro s r hr
   rw[qaG] at hr
   obtain⟨k,hk⟩:=qcE.1 hr
   obtain⟨n,hn⟩:=qok c (fun s1=>gc s.h.length kp s1) (fun hx=>ih hx) k s hk
   exact⟨n,by rw[qax];exact hn⟩
 | view c ih =>
   intro s r hr
   obtain⟨n,hn⟩:=ih hr
   exact⟨n,hn⟩
 | freeze t c ih =>
   intro s r hr
   obtain⟨n,hn⟩:=ih hr
   exact⟨n,hn⟩
 | range k b c ihb ihc =>
   intro s r hr
   rw[qaG,qdY] at hr
   cases hx:qbT pure (call L) k.pre s with
   | none=>rw[hx] at hr;cases hr
   | some x =>
     rw[hx] at hr
     obtain⟨n,hn⟩:=qf0 _ hx
     obtain⟨q,s1⟩:=x
     cases q with
     | normal =>
       dsimp only at hr
       split at hr
       ·rename_i es hes
        have h1:=(qch (qbz _ _)).1 hr
        obtain⟨m,hm⟩:=qp7 (fun n es'=>qb1 k.str es es'→qb7 (qbT pure (qbD L n)) k (qax pure (qbD L n) n b) (qax pure (qbD L n) n c) s s1 es'=some r)
         (fun n m a hnm h ho=>qej (fun l s=>qdC hnm l s) (fun s=>qcY hnm s) (fun s=>qcY hnm s) k s s1 a r (h ho)) (es::qeC es)
         (fun a _=>by
          by_cases ho:qb1 k.str es a
          ·obtain⟨n,hn⟩:=qml ihb ihc k s s1 a (h1 a ho)
           exact⟨n,fun _=>hn⟩
          ·exact⟨0,fun h=>absurd h ho⟩)
        refine⟨max n m,?_⟩
        rw[qax,qdY,qdC (Nat.le_max_left n m) _ _ _ hn]
        dsimp only
        rw[hes]
        dsimp only
        refine (qch (qbz _ _)).2 fun es' he=>?_
        refine qej (fun l s=>qdC (Nat.le_max_right n m) l s) (fun s=>qcY (Nat.le_max_right n m) s) (fun s=>qcY (Nat.le_max_right n m) s) k s s1 es' r (hm es' ?_ he)
        unfold qb1 at he
        split at he
        ·rw[he];simp
        ·exact List.mem_cons_of_mem _ (qgu es es' he)
       ·cases hr
     | _=>cases hr
 | frame kp c ih =>
   intro s r hr
   rw[qaG] at hr
   obtain⟨x,hx,rfl⟩:=Option.map_eq_some_iff.1 hr
   obtain⟨n,hn⟩:=ih hx
   exact⟨n,by rw[qax,hn];rfl⟩
 | exit id=>intro s r hr;exact⟨0,hr⟩
 | ret=>intro s r hr;exact⟨0,hr⟩
 | stuck=>intro s r hr;exact⟨0,hr⟩
end
theorem qfL {L:Lib} {f:Nat} {fn:AFn} (hs:L.summ f=none) (hf:L.fns f=some fn) {a:List AVal} {h:Heap} {r:ARes × Heap}
  (hr:qaw fn.results (qaG L.pure (call L) fn.body ⟨qes a,h⟩)=some r):call L f a h=some r:=by
 cases hx:qaG L.pure (call L) fn.body ⟨qes a,h⟩ with
 | none=>rw[hx] at hr;cases hr
 | some x =>
   rw[hx] at hr
   obtain⟨n,hn⟩:=qpB _ hx
   refine qcO.2 ⟨n+1,?_⟩
   rw[qbD,hs]
   dsimp only
   rw[hf]
   dsimp only
   rw[hn]
   exact hr
theorem qdb {L:Lib} {f:Nat} {s:List AVal→Heap→Option (ARes × Heap)} (hs:L.summ f=some s) {a:List AVal} {h:Heap} {r:ARes × Heap} (hr:s a h=some r):call L f a h=some r :=
 qcO.2 ⟨1,by rw[qbD,hs];exact hr⟩
end Go.Abs
