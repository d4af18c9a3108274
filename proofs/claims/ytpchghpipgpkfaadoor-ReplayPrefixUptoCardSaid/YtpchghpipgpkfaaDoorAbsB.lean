/-
  The abstract machine without bounds: calls and loops as limits of the bounded ones; each is what its body says.
-/
import Derived.Test.YtpchghpipgpkfaaDoorAbsA
set_option linter.unusedVariables false
namespace Go.Abs
def Le {α:Type} (x y:Option α):Prop:=∀ r,x=some r→y=some r
theorem Le.refl {α:Type} (x:Option α):Le x x:=fun _ h=>h
theorem Le.trans {α:Type} {x y z:Option α} (h:Le x y) (h':Le y z):Le x z:=fun r e=>h' r (h r e)
theorem Le.none {α:Type} (y:Option α):Le (Option.none:Option α) y:=fun _ h=>by cases h
open Classical in
noncomputable def lim {α:Type} (f:Nat→Option α):Option α:=if h:∃ n,(f n).isSome=true then f (Classical.choose h) else none
theorem qlU {α:Type} {f:Nat→Option α} (hm:∀ n,Le (f n) (f (n+1))):∀ {a b:Nat},a≤b→Le (f a) (f b):=by
 intro a b hab
 induction hab with
 | refl=>exact Le.refl _
 | step _ ih=>exact ih.trans (hm _)
theorem qpN {α:Type} {f:Nat→Option α} (hm:∀ n,Le (f n) (f (n+1))) {r:α}:lim f=some r↔∃ n,f n=some r:=by
 constructor
 ·intro h
  unfold lim at h
  split at h
  ·exact⟨_,h⟩
  ·cases h
 ·rintro ⟨n,hn⟩
  have hx:∃ n,(f n).isSome=true:=⟨n,by rw[hn];rfl⟩
  unfold lim
  rw[dif_pos hx]
  have h1:=Classical.choose_spec hx
  obtain⟨r',hr'⟩:=Option.isSome_iff_exists.1 h1
  rw[hr']
  have a:=qlU hm (Nat.le_max_left n (Classical.choose hx)) r hn
  have b:=qlU hm (Nat.le_max_right n (Classical.choose hx)) r' hr'
  rw[a] at b
  injection b with b
  rw[b]
theorem qkZ (body:St→Option (AExit × St)):∀ n s,Le (qdi body n s) (qdi body (n+1) s):=by
 intro n
 induction n with
 | zero=>intro s r h;cases h
 | succ n ih =>
   intro s r h
   rw[qdi] at h ⊢
   split
   ·rename_i s' hb
    rw[hb] at h
    exact ih s' r h
   ·rename_i r' hr'
    split at h
    ·rename_i s' hs'
     exact absurd hs' (hr' s')
    ·exact h
theorem qed {b1 b2:St→Option (AExit × St)} (hb:∀ s,Le (b1 s) (b2 s)):∀ {n m:Nat},n≤m→∀ s,Le (qdi b1 n s) (qdi b2 m s):=by
 intro n m hnm s
 refine Le.trans ?_ (qlU (f:=fun k=>qdi b2 k s) (fun k=>qkZ b2 k s) hnm)
 clear hnm
 induction n generalizing s with
 | zero=>intro r h;cases h
 | succ n ih =>
   intro r h
   rw[qdi] at h ⊢
   cases hx:b1 s with
   | none=>rw[hx] at h;cases h
   | some x =>
     rw[hb s x hx]
     rw[hx] at h
     obtain⟨e,s'⟩:=x
     cases e with
     | normal=>exact ih s' r h
     | _=>exact h
section
variable {pure:Nat→Bool} {c1 c2:CallT}
theorem qqU (hc:∀ f a h,Le (c1 f a h) (c2 f a h)) (f:Nat) (a:List AVal) (h:Heap):Le (qkt c1 f a h) (qkt c2 f a h):=by
 intro r hr
 unfold qkt at hr ⊢
 split
 ·rename_i hp
  rw[if_pos hp] at hr
  cases hx:c1 f (a.map (ren fun i=>qav i (qbx a h) 0)) (qcw (qbx a h) h) with
  | none=>rw[hx] at hr;cases hr
  | some x=>rw[hc _ _ _ x hx];rw[hx] at hr;exact hr
 ·rename_i hp
  rw[if_neg hp] at hr
  cases hr
theorem qgs (hc:∀ f a h,Le (c1 f a h) (c2 f a h)) (f:Nat) (a:List AVal) (h:Heap):Le (qcz pure c1 f a h) (qcz pure c2 f a h):=by
 intro r hr
 unfold qcz at hr ⊢
 split
 ·rename_i hp
  rw[if_pos hp] at hr
  cases hx:c1 f (a.map wipe) [] with
  | none=>rw[hx] at hr;cases hr
  | some x=>rw[hc _ _ _ x hx];rw[hx] at hr;exact hr
 ·rename_i hp
  rw[if_neg hp] at hr
  exact qqU hc _ _ _ _ hr
theorem qqS (hc:∀ f a h,Le (c1 f a h) (c2 f a h)) (g:Nat) (xs:List AVal) (h:Heap):Le (qjR pure c1 g xs h) (qjR pure c2 g xs h):=by
 intro r hr
 unfold qjR at hr ⊢
 split
 ·rename_i hc'
  rw[if_pos hc'] at hr
  unfold qat at hr ⊢
  split at hr
  ·rename_i v h' hd
   rw[qgs hc _ _ _ _ hd]
   exact hr
  ·cases hr
 ·rename_i hc'
  rw[if_neg hc'] at hr
  cases hr
theorem qq8 (hc:∀ f a h,Le (c1 f a h) (c2 f a h)) (f:Nat) (a:List AVal) (h:Heap):Le (qhR c1 f a h) (qhR c2 f a h):=by
 intro r hr
 unfold qhR at hr ⊢
 split
 ·rename_i hp
  rw[if_pos hp] at hr
  cases hx:c1 f (a.map (lookV h)) [] with
  | none=>rw[hx] at hr;cases hr
  | some x=>rw[hc _ _ _ x hx];rw[hx] at hr;exact hr
 ·rename_i hp
  rw[if_neg hp] at hr
  cases hr
theorem qfw (hc:∀ f a h,Le (c1 f a h) (c2 f a h)) (o:AOp) (tm:Tmps) (h:Heap):Le (aOp pure c1 o tm h) (aOp pure c2 o tm h):=by
 intro r hr
 cases o with
 | vcall f args=>exact qq8 hc _ _ _ _ hr
 | hcall f args =>
   simp only[aOp] at hr ⊢
   split
   ·rename_i hf
    rw[hf] at hr
    exact hc _ _ _ _ hr
   ·rename_i hf
    split at hr
    ·rename_i hf'
     exact absurd hf' (hf _ _ _)
    ·cases hr
 | call f args =>
   simp only[aOp] at hr ⊢
   split
   ·rename_i hf
    rw[hf] at hr
    exact qgs hc _ _ _ _ hr
   ·rename_i hf
    split at hr
    ·rename_i hf'
     exact absurd hf' (hf _ _ _)
    ·cases hr
 | pcallV f args =>
   simp only[aOp] at hr ⊢
   split
   ·rename_i hf
    rw[hf] at hr
    exact qqS hc _ _ _ _ hr
   ·rename_i hf
    split at hr
    ·rename_i hf'
     exact absurd hf' (hf _ _ _)
    ·cases hr
 | pcall f args =>
   simp only[aOp] at hr ⊢
   split
   ·rename_i hc'
    rw[if_pos hc'] at hr
    unfold qat at hr ⊢
    split at hr
    ·rename_i v h' hd
     rw[qgs hc _ _ _ _ hd]
     exact hr
    ·cases hr
   ·rename_i hc'
    rw[if_neg hc'] at hr
    cases hr
 | _=>exact hr
theorem qd2 (hc:∀ f a h,Le (c1 f a h) (c2 f a h)):∀ (l:List Step) (s:St),Le (qb1 pure c1 l s) (qb1 pure c2 l s):=by
 intro l
 induction l with
 | nil=>intro s;exact Le.refl _
 | cons o rest ih =>
   intro s r hr
   rw[qb1] at hr ⊢
   split
   ·rename_i hw
    rw[hw] at hr
    dsimp only at hr
    cases hx:aOp pure c1 o.op s.tm s.h with
    | none=>rw[hx] at hr;cases hr
    | some x =>
      rw[qfw hc _ _ _ x hx]
      rw[hx] at hr
      obtain⟨v,h⟩:=x
      cases v with
      | val v=>exact ih _ r hr
      | panic v=>exact hr
   ·rename_i hw
    rw[hw] at hr
    exact ih _ r hr
   ·rename_i hw
    rw[hw] at hr
    cases hr
theorem qqD (hc:∀ f a h,Le (c1 f a h) (c2 f a h)) (f:Nat) (a:List AVal) (h:Heap):Le (qmW c1 f a h) (qmW c2 f a h):=by
 intro r hr
 unfold qmW at hr ⊢
 split
 ·rename_i hp
  rw[if_pos hp] at hr
  cases hx:c1 f (a.map wipe) [] with
  | none=>rw[hx] at hr;cases hr
  | some x=>rw[hc _ _ _ x hx];rw[hx] at hr;exact hr
 ·rename_i hp
  rw[if_neg hp] at hr
  cases hr
theorem qmm (hc:∀ f a h,Le (c1 f a h) (c2 f a h)) (o:AOp) (tm:Tmps) (h:Heap):Le (qis pure c1 o tm h) (qis pure c2 o tm h):=by
 intro r hr
 cases o with
 | pcall f args=>exact qqD hc _ _ _ _ hr
 | append sz bytes x y =>
   simp only[qis] at hr ⊢
   split
   ·rename_i hq
    rw[if_pos hq] at hr
    exact hr
   ·rename_i hq
    rw[if_neg hq] at hr
    exact qfw hc _ tm h r hr
 | _=>simp only[qis] at hr ⊢;exact qfw hc _ tm h r hr
theorem qhr (hc:∀ f a h,Le (c1 f a h) (c2 f a h)):∀ (l:List Step) (s:St),Le (qdL pure c1 l s) (qdL pure c2 l s):=by
 intro l
 induction l with
 | nil=>intro s;exact Le.refl _
 | cons o rest ih =>
   intro s r hr
   rw[qdL] at hr ⊢
   split
   ·rename_i hw
    rw[hw] at hr
    dsimp only at hr
    cases hx:qis pure c1 o.op s.tm s.h with
    | none=>rw[hx] at hr;cases hr
    | some x =>
      rw[qmm hc _ _ _ x hx]
      rw[hx] at hr
      obtain⟨v,h⟩:=x
      cases v with
      | val v=>exact ih _ r hr
      | panic v=>exact hr
   ·rename_i hw
    rw[hw] at hr
    exact ih _ r hr
   ·rename_i hw
    rw[hw] at hr
    cases hr
theorem qkA (hc:∀ f a h,Le (c1 f a h) (c2 f a h)):∀ (l:List Step) (tm:Tmps) (hs:List Heap) (h:Heap),Le (qcR pure c1 l tm hs h) (qcR pure c2 l tm hs h):=by
 intro l
 induction l with
 | nil=>intro tm hs h;exact Le.refl _
 | cons o rest ih =>
   intro tm hs h r hr
   rw[qcR] at hr ⊢
   split
   ·rename_i hw
    rw[hw] at hr
    dsimp only at hr
    cases hx:aOp pure c1 o.op tm h with
    | none=>rw[hx] at hr;cases hr
    | some x =>
      rw[qfw hc _ _ _ x hx]
      rw[hx] at hr
      obtain⟨v,h'⟩:=x
      cases v with
      | val v=>exact ih _ _ _ r hr
      | panic v=>exact hr
   ·rename_i hw
    rw[hw] at hr
    exact ih _ _ _ r hr
   ·rename_i hw
    rw[hw] at hr
    cases hr
section
variable {o1 o2:List Step→St→Option (AExit × St)} {b1 b2 c1' c2':St→Option (AExit × St)}
theorem qmw {id:Nat} {x y:Option (AExit × St)} (h:Le x y):Le (qdf id x) (qdf id y):=by
 intro r hr
 cases x with
 | none=>cases hr
 | some x=>rw[h x rfl];exact hr
theorem qfl (ho:∀ l s,Le (o1 l s) (o2 l s)) (hb:∀ s,Le (b1 s) (b2 s)) (n:Nat) (k:RangeK) (e:AVal × AVal) (s:St):Le (qbc o1 n k b1 e s) (qbc o2 n k b2 e s):=by
 intro r hr
 unfold qbc at hr ⊢
 split
 case isFalse h0=>rw[if_neg h0] at hr;cases hr
 rename_i h0
 rw[if_pos h0] at hr
 cases hx:o1 k.r1 ⟨upd s.tm (some k.dn) (.tuple [.bool true,e.1,e.2]),s.h⟩ with
 | none=>rw[hx] at hr;cases hr
 | some x =>
   rw[ho _ _ x hx]
   rw[hx] at hr
   obtain⟨q,s1⟩:=x
   cases q with
   | normal =>
     dsimp only at hr ⊢
     split
     case isFalse h1=>rw[if_neg h1] at hr;cases hr
     rename_i h1
     rw[if_pos h1] at hr
     split
     ·rename_i hq
      rw[hq] at hr
      refine qmw (id:=k.id2) ?_ r hr
      intro r2 hr2
      unfold qj4 at hr2 ⊢
      cases hy:o1 k.r2 ⟨upd s1.tm k.de (.tuple [e.1,e.2]),s1.h⟩ with
      | none=>rw[hy] at hr2;cases hr2
      | some y =>
        rw[ho _ _ y hy]
        rw[hy] at hr2
        obtain⟨q2,s2⟩:=y
        cases q2 with
        | normal=>exact hb _ r2 hr2
        | _=>exact hr2
     ·rename_i hq
      split at hr
      ·rename_i hq'
       exact absurd hq' hq
      ·cases hr
   | _=>cases hr
theorem ql5 (ho:∀ l s,Le (o1 l s) (o2 l s)) (n:Nat) (k:RangeK) (s:St):Le (qbE o1 n k s) (qbE o2 n k s):=by
 intro r hr
 unfold qbE at hr ⊢
 split
 case isFalse h0=>rw[if_neg h0] at hr;cases hr
 rename_i h0
 rw[if_pos h0] at hr
 cases hx:o1 k.r1 ⟨upd s.tm (some k.dn) (.tuple [.bool false]),s.h⟩ with
 | none=>rw[hx] at hr;cases hr
 | some x =>
   rw[ho _ _ x hx]
   rw[hx] at hr
   exact hr
theorem qdr (ho:∀ l s,Le (o1 l s) (o2 l s)) (hb:∀ s,Le (b1 s) (b2 s)) (n:Nat) (k:RangeK):∀ (es:List (AVal × AVal)) (s:St),Le (qbd o1 n k b1 es s) (qbd o2 n k b2 es s)
 | [],s=>ql5 ho n k _
 | e :: es,s => by
   intro r hr
   rw[qbd] at hr ⊢
   cases hx:qbc o1 n k b1 e (gc (n+1) k.kr s) with
   | none=>rw[hx] at hr;cases hr
   | some x =>
     rw[qfl ho hb n k e _ x hx]
     rw[hx] at hr
     obtain⟨q,s1⟩:=x
     cases q with
     | normal=>exact qdr ho hb n k es s1 r hr
     | _=>exact hr
theorem qcq {O:List (AVal × AVal)→Prop} (hO:∃ es,O es) {f:List (AVal × AVal)→Option (AExit × St)} {r:AExit × St}:qmq O f=some r↔∀ es,O es→f es=some r:=by
 constructor
 ·intro h
  unfold qmq at h
  split at h
  ·rename_i hx
   injection h with h
   rw[← h]
   exact Classical.choose_spec hx
  ·cases h
 ·intro h
  have hx:∃ r,∀ es,O es→f es=some r:=⟨r,h⟩
  unfold qmq
  rw[dif_pos hx]
  obtain⟨es,he⟩:=hO
  have h1:=Classical.choose_spec hx es he
  rw[h es he] at h1
  exact h1.symm
theorem qbI (str:Bool) (es:List (AVal × AVal)):∃ es',qcb str es es':=⟨es,by unfold qcb;split<;>first | rfl | exact .refl _⟩
def qck (ops:List Step→St→Option (AExit × St)) (k:RangeK) (runB runC:St→Option (AExit × St)) (s s1:St) (es:List (AVal × AVal)):Option (AExit × St) :=
 (match qbd ops s1.h.length k runB es ⟨upd s1.tm (some k.it) (.ptr (some (s1.h.length,0))),qkp (opd s1.tm k.m) s1.h⟩ with
  | some (.normal,s2)=>runC ⟨s2.tm,qcd (opd s1.tm k.m) s1.h s2.h⟩
  | some (e,s2)=>some (e,⟨s2.tm,qcd (opd s1.tm k.m) s1.h s2.h⟩)
  | none=>none).map (gcE s.h.length k.keep)
theorem qej (ops:List Step→St→Option (AExit × St)) (k:RangeK) (runB runC:St→Option (AExit × St)) (s:St):qjS ops k runB runC s=match ops k.pre s with
 | some (.normal,s1) => (match qcm k.str (opd s1.tm k.m) s1.h with
   | some es=>qmq (qcb k.str es) (qck ops k runB runC s s1)
   | none=>none)
 | _=>none:=rfl
theorem qeK (ho:∀ l s,Le (o1 l s) (o2 l s)) (hb:∀ s,Le (b1 s) (b2 s)) (hc:∀ s,Le (c1' s) (c2' s)) (k:RangeK) (s s1:St) (es:List (AVal × AVal)):Le (qck o1 k b1 c1' s s1 es) (qck o2 k b2 c2' s s1 es):=by
 intro r hr
 unfold qck at hr ⊢
 obtain⟨x,hx,rfl⟩:=Option.map_eq_some_iff.1 hr
 refine Option.map_eq_some_iff.2 ⟨x,?_,rfl⟩
 cases hy:qbd o1 s1.h.length k b1 es ⟨upd s1.tm (some k.it) (.ptr (some (s1.h.length,0))),qkp (opd s1.tm k.m) s1.h⟩ with
 | none=>rw[hy] at hx;cases hx
 | some y =>
   rw[qdr ho hb _ k _ _ y hy]
   rw[hy] at hx
   obtain⟨q,s2⟩:=y
   cases q with
   | normal=>exact hc _ x hx
   | _=>exact hx
theorem qjT (ho:∀ l s,Le (o1 l s) (o2 l s)) (hb:∀ s,Le (b1 s) (b2 s)) (hc:∀ s,Le (c1' s) (c2' s)) (k:RangeK) (s:St):Le (qjS o1 k b1 c1' s) (qjS o2 k b2 c2' s):=by
 intro r hr
 rw[qej] at hr ⊢
 cases hx:o1 k.pre s with
 | none=>rw[hx] at hr;cases hr
 | some x =>
   rw[ho _ _ x hx]
   rw[hx] at hr
   obtain⟨q,s1⟩:=x
   cases q with
   | normal =>
     dsimp only at hr ⊢
     split
     ·rename_i es hes
      rw[hes] at hr
      have h1:=(qcq (qbI _ _)).1 hr
      exact (qcq (qbI _ _)).2 fun es' he=>qeK ho hb hc k s s1 es' r (h1 es' he)
     ·rename_i hes
      rw[hes] at hr
      cases hr
   | _=>cases hr
end
theorem qkz (hc:∀ f a h,Le (c1 f a h) (c2 f a h)) (l:List Step) (cs:List (Nat × Nat × Nat)) (s:St):Le (qgj pure c1 l cs s) (qgj pure c2 l cs s):=by
 intro r hr
 unfold qgj at hr ⊢
 cases hx:qcR pure c1 l s.tm [] s.h with
 | none=>rw[hx] at hr;cases hr
 | some x=>rw[qkA hc _ _ _ _ x hx];rw[hx] at hr;exact hr
theorem qcp (hc:∀ f a h,Le (c1 f a h) (c2 f a h)) {n m:Nat} (hnm:n≤m):∀ (c:ACode) (s:St),Le (qaI pure c1 n c s) (qaI pure c2 m c s):=by
 intro c
 induction c with
 | skip=>intro s;exact Le.refl _
 | ops l=>intro s;exact qd2 hc l s
 | draw l cs=>intro s;exact qkz hc l cs s
 | kops l=>intro s;exact qhr hc l s
 | mdraw k l ns=>intro s;exact Le.refl _
 | seq a b iha ihb =>
   intro s r hr
   rw[qaI] at hr ⊢
   cases hx:qaI pure c1 n a s with
   | none=>rw[hx] at hr;cases hr
   | some x =>
     rw[iha s x hx]
     rw[hx] at hr
     obtain⟨e,s'⟩:=x
     cases e with
     | normal=>exact ihb _ r hr
     | _=>exact hr
 | cond c a b iha ihb =>
   intro s r hr
   rw[qaI] at hr ⊢
   split
   ·rename_i t ht
    rw[ht] at hr
    cases t with
    | true=>exact iha s r hr
    | false=>exact ihb s r hr
   ·rename_i ht
    split at hr
    ·rename_i t ht'
     exact absurd ht' (ht t)
    ·cases hr
 | block id c ih =>
   intro s r hr
   rw[qaI] at hr ⊢
   cases hx:qaI pure c1 n c s with
   | none=>rw[hx] at hr;cases hr
   | some x=>rw[ih s x hx];rw[hx] at hr;exact hr
 | loop c ih=>intro s;exact qed ih hnm s
 | gloop k c ih=>intro s;exact qed (fun s1=>ih _) hnm s
 | freeze t c ih=>intro s;exact ih _
 | view c ih=>intro s;exact ih _
 | range k b c ihb ihc=>intro s;exact qjT (fun l s=>qd2 hc l s) ihb ihc k s
 | frame k c ih =>
   intro s r hr
   rw[qaI] at hr ⊢
   obtain⟨x,hx,rfl⟩:=Option.map_eq_some_iff.1 hr
   rw[ih s x hx]
   rfl
 | exit id=>intro s;exact Le.refl _
 | ret=>intro s;exact Le.refl _
 | stuck=>intro s;exact Le.refl _
end
theorem qqs {rs:List ARVar} {x y:Option (AExit × St)} (h:Le x y):Le (qan rs x) (qan rs y):=by
 intro r hr
 cases x with
 | none=>cases hr
 | some x=>rw[h x rfl];exact hr
theorem qkG (L:Lib):∀ n f a h,Le (qbM L n f a h) (qbM L (n+1) f a h):=by
 intro n
 induction n with
 | zero=>intro f a h r hr;cases hr
 | succ n ih =>
   intro f a h r hr
   rw[qbM] at hr ⊢
   split
   ·rename_i s hs
    rw[hs] at hr
    exact hr
   ·rename_i hs
    rw[hs] at hr
    dsimp only at hr
    split
    ·rename_i fn hfn
     rw[hfn] at hr
     exact qqs (qcp ih (Nat.le_succ n) _ _) r hr
    ·rename_i hfn
     rw[hfn] at hr
     cases hr
theorem qce (L:Lib) {n m:Nat} (h:n≤m) (f:Nat) (a:List AVal) (hp:Heap):Le (qbM L n f a hp) (qbM L m f a hp) :=
 qlU (f:=fun k=>qbM L k f a hp) (fun k=>qkG L k f a hp) h
noncomputable def call (L:Lib):CallT:=fun f a h=>lim fun n=>qbM L n f a h
theorem qc8 {L:Lib} {f:Nat} {a:List AVal} {h:Heap} {r:ARes × Heap}:call L f a h=some r↔∃ n,qbM L n f a h=some r :=
 qpN fun n=>qkG L n f a h
noncomputable def qjE (body:St→Option (AExit × St)) (s:St):Option (AExit × St):=lim fun n=>qdi body n s
theorem qcV {body:St→Option (AExit × St)} {s:St} {r:AExit × St}:qjE body s=some r↔∃ n,qdi body n s=some r:=qpN fun n=>qkZ body n s
theorem qgy (body:St→Option (AExit × St)) (n:Nat) (s:St):Le (qdi body n s) (qjE body s):=fun _ hr=>qcV.2 ⟨n,hr⟩
theorem qpP (body:St→Option (AExit × St)) (s:St):qjE body s=match body s with | some (.normal,s')=>qjE body s' | r=>r:=by
 have key:∀ r,qjE body s=some r↔(match body s with | some (.normal,s')=>qjE body s' | r=>r)=some r:=by
  intro r
  constructor
  ·intro h
   obtain⟨n,hn⟩:=qcV.1 h
   cases n with
   | zero=>cases hn
   | succ n =>
     rw[qdi] at hn
     split at hn
     ·rename_i s' hs'
      rw[hs']
      exact qgy _ _ _ _ hn
     ·rename_i x hx
      split
      ·rename_i s' hs'
       exact absurd hs' (hx s')
      ·exact hn
  ·intro h
   split at h
   ·rename_i s' hs'
    obtain⟨n,hn⟩:=qcV.1 h
    exact qcV.2 ⟨n+1,by rw[qdi,hs'];exact hn⟩
   ·rename_i x hx
    refine qcV.2 ⟨1,?_⟩
    rw[qdi]
    split
    ·rename_i s' hs'
     exact absurd hs' (hx s')
    ·exact h
 cases hx:qjE body s with
 | some r=>exact ((key r).1 hx).symm
 | none =>
   cases hy:(match body s with | some (.normal,s')=>qjE body s' | r=>r) with
   | none=>rfl
   | some r=>rw[(key r).2 hy] at hx;cases hx
noncomputable def qaR (pure:Nat→Bool) (call:CallT):ACode→St→Option (AExit × St)
 | .skip,s=>some (.normal,s)
 | .ops l,s=>qb1 pure call l s
 | .draw l cs,s=>qgj pure call l cs s
 | .kops l,s=>qdL pure call l s
 | .mdraw k l ns,s=>qtM k l ns s
 | .seq a b,s =>
   (match qaR pure call a s with
   | some (.normal,s')=>qaR pure call b s'
   | r=>r)
 | .cond c a b,s=>(match opd s.tm c with | .bool t=>if t then qaR pure call a s else qaR pure call b s | _=>none)
 | .block id c,s =>
   (match qaR pure call c s with
   | some (.exit id',s')=>if id'=id then some (.normal,s') else some (.exit id',s')
   | r=>r)
 | .loop c,s=>qjE (qaR pure call c) s
 | .gloop k c,s=>qjE (fun s1=>qaR pure call c (gc s.h.length k s1)) s
 | .frame k c,s=>(qaR pure call c s).map (gcE s.h.length k)
 | .freeze t c,s=>qaR pure call c (qeE t s)
 | .view c,s=>qaR pure call c (qnS s)
 | .range k b c,s=>qjS (qb1 pure call) k (qaR pure call b) (qaR pure call c) s
 | .exit id,s=>some (.exit id,s)
 | .ret,s=>some (.ret,s)
 | .stuck,_=>none
theorem qmk {pure:Nat→Bool} {c1 c2:CallT} (hc:∀ f a h,Le (c1 f a h) (c2 f a h)) (n:Nat):∀ (c:ACode) (s:St),Le (qaI pure c1 n c s) (qaR pure c2 c s):=by
 intro c
 induction c with
 | skip=>intro s;exact Le.refl _
 | ops l=>intro s;exact qd2 hc l s
 | draw l cs=>intro s;exact qkz hc l cs s
 | kops l=>intro s;exact qhr hc l s
 | mdraw k l ns=>intro s;exact Le.refl _
 | seq a b iha ihb =>
   intro s r hr
   rw[qaI] at hr
   rw[qaR]
   cases hx:qaI pure c1 n a s with
   | none=>rw[hx] at hr;cases hr
   | some x =>
     rw[iha s x hx]
     rw[hx] at hr
     obtain⟨e,s'⟩:=x
     cases e with
     | normal=>exact ihb _ r hr
     | _=>exact hr
 | cond c a b iha ihb =>
   intro s r hr
   rw[qaI] at hr
   rw[qaR]
   split
   ·rename_i t ht
    rw[ht] at hr
    cases t with
    | true=>exact iha s r hr
    | false=>exact ihb s r hr
   ·rename_i ht
    split at hr
    ·rename_i t ht'
     exact absurd ht' (ht t)
    ·cases hr
 | block id c ih =>
   intro s r hr
   rw[qaI] at hr
   rw[qaR]
   cases hx:qaI pure c1 n c s with
   | none=>rw[hx] at hr;cases hr
   | some x=>rw[ih s x hx];rw[hx] at hr;exact hr
 | loop c ih=>intro s;exact (qed ih (Nat.le_refl n) s).trans (qgy _ _ _)
 | gloop k c ih=>intro s;exact (qed (fun s1=>ih _) (Nat.le_refl n) s).trans (qgy _ _ _)
 | freeze t c ih=>intro s;exact ih _
 | view c ih=>intro s;exact ih _
 | range k b c ihb ihc=>intro s;exact qjT (fun l s=>qd2 hc l s) ihb ihc k s
 | frame k c ih =>
   intro s r hr
   rw[qaI] at hr
   rw[qaR]
   obtain⟨x,hx,rfl⟩:=Option.map_eq_some_iff.1 hr
   rw[ih s x hx]
   rfl
 | exit id=>intro s;exact Le.refl _
 | ret=>intro s;exact Le.refl _
 | stuck=>intro s;exact Le.refl _
section
variable {pure:Nat→Bool} {L:Lib}
theorem qhw {f:Nat} {a:List AVal} {h:Heap} {r:ARes × Heap} (hr:qcz pure (call L) f a h=some r):∃ n,qcz pure (qbM L n) f a h=some r:=by
 unfold qcz at hr
 split at hr
 ·rename_i hp
  cases hx:call L f (a.map wipe) [] with
  | none=>rw[hx] at hr;cases hr
  | some x =>
    rw[hx] at hr
    obtain⟨n,hn⟩:=qc8.1 hx
    refine⟨n,?_⟩
    unfold qcz
    rw[if_pos hp,hn]
    exact hr
 ·rename_i hp
  unfold qkt at hr
  split at hr
  ·rename_i hq
   cases hx:call L f (a.map (ren fun i=>qav i (qbx a h) 0)) (qcw (qbx a h) h) with
   | none=>rw[hx] at hr;cases hr
   | some x =>
     rw[hx] at hr
     obtain⟨n,hn⟩:=qc8.1 hx
     refine⟨n,?_⟩
     unfold qcz qkt
     rw[if_neg hp,if_pos hq,hn]
     exact hr
  ·cases hr
theorem qlu {o:AOp} {tm:Tmps} {h:Heap} {r:ARes × Heap} (hr:aOp pure (call L) o tm h=some r):∃ n,aOp pure (qbM L n) o tm h=some r:=by
 cases o with
 | vcall f args =>
   simp only[aOp] at hr ⊢
   unfold qhR at hr
   split at hr
   ·rename_i hp
    cases hx:call L f ((args.map (opd tm)).map (lookV h)) [] with
    | none=>rw[hx] at hr;cases hr
    | some x =>
      rw[hx] at hr
      obtain⟨n,hn⟩:=qc8.1 hx
      refine⟨n,?_⟩
      unfold qhR
      rw[if_pos hp,hn]
      exact hr
   ·cases hr
 | hcall f args =>
   simp only[aOp] at hr ⊢
   split at hr
   ·rename_i hf
    exact qc8.1 hr
   ·cases hr
 | call f args =>
   simp only[aOp] at hr ⊢
   split at hr
   ·rename_i hf
    exact qhw hr
   ·cases hr
 | pcallV f args =>
   simp only[aOp] at hr ⊢
   split at hr
   ·rename_i hf
    unfold qjR at hr
    split at hr
    ·rename_i hc'
     unfold qat at hr
     split at hr
     ·rename_i v h' hd
      obtain⟨n,hn⟩:=qhw hd
      refine⟨n,?_⟩
      unfold qjR
      rw[if_pos hc',hn]
      exact hr
     ·cases hr
    ·cases hr
   ·cases hr
 | pcall f args =>
   simp only[aOp] at hr ⊢
   split at hr
   ·rename_i hc'
    unfold qat at hr
    split at hr
    ·rename_i v h' hd
     obtain⟨n,hn⟩:=qhw hd
     refine⟨n,?_⟩
     rw[if_pos hc',hn]
     exact hr
    ·cases hr
   ·cases hr
 | _=>exact⟨0,hr⟩
theorem qgE:∀ (l:List Step) {s:St} {r:AExit × St},qb1 pure (call L) l s=some r→∃ n,qb1 pure (qbM L n) l s=some r:=by
 intro l
 induction l with
 | nil=>intro s r hr;exact⟨0,hr⟩
 | cons o rest ih =>
   intro s r hr
   rw[qb1] at hr
   split at hr
   ·rename_i hw
    cases hx:aOp pure (call L) o.op s.tm s.h with
    | none=>rw[hx] at hr;cases hr
    | some x =>
      rw[hx] at hr
      obtain⟨n,hn⟩:=qlu hx
      obtain⟨v,h⟩:=x
      cases v with
      | val v =>
        obtain⟨m,hm⟩:=ih hr
        refine⟨max n m,?_⟩
        rw[qb1,hw]
        dsimp only
        rw[qfw (qce L (Nat.le_max_left n m)) _ _ _ _ hn]
        exact qd2 (qce L (Nat.le_max_right n m)) _ _ _ hm
      | panic v =>
        refine⟨n,?_⟩
        rw[qb1,hw]
        dsimp only
        rw[hn]
        exact hr
   ·rename_i hw
    obtain⟨m,hm⟩:=ih hr
    exact⟨m,by rw[qb1,hw];exact hm⟩
   ·cases hr
theorem qtN {o:AOp} {tm:Tmps} {h:Heap} {r:ARes × Heap} (hr:qis pure (call L) o tm h=some r):∃ n,qis pure (qbM L n) o tm h=some r:=by
 cases o with
 | pcall f args =>
   simp only[qis] at hr ⊢
   unfold qmW at hr
   split at hr
   ·rename_i hp
    cases hx:call L f ((args.map (opd tm)).map wipe) [] with
    | none=>rw[hx] at hr;cases hr
    | some x =>
      rw[hx] at hr
      obtain⟨n,hn⟩:=qc8.1 hx
      refine⟨n,?_⟩
      unfold qmW
      rw[if_pos hp,hn]
      exact hr
   ·cases hr
 | append sz bytes x y =>
   simp only[qis] at hr ⊢
   split at hr
   ·rename_i hq
    refine⟨0,?_⟩
    rw[if_pos hq]
    exact hr
   ·rename_i hq
    obtain⟨n,hn⟩:=qlu hr
    refine⟨n,?_⟩
    rw[if_neg hq]
    exact hn
 | _=>simp only[qis] at hr ⊢;exact qlu hr
theorem qrl:∀ (l:List Step) {s:St} {r:AExit × St},qdL pure (call L) l s=some r→∃ n,qdL pure (qbM L n) l s=some r:=by
 intro l
 induction l with
 | nil=>intro s r hr;exact⟨0,hr⟩
 | cons o rest ih =>
   intro s r hr
   rw[qdL] at hr
   split at hr
   ·rename_i hw
    cases hx:qis pure (call L) o.op s.tm s.h with
    | none=>rw[hx] at hr;cases hr
    | some x =>
      rw[hx] at hr
      obtain⟨n,hn⟩:=qtN hx
      obtain⟨v,h⟩:=x
      cases v with
      | val v =>
        obtain⟨m,hm⟩:=ih hr
        refine⟨max n m,?_⟩
        rw[qdL,hw]
        dsimp only
        rw[qmm (qce L (Nat.le_max_left n m)) _ _ _ _ hn]
        exact qhr (qce L (Nat.le_max_right n m)) _ _ _ hm
      | panic v =>
        refine⟨n,?_⟩
        rw[qdL,hw]
        dsimp only
        rw[hn]
        exact hr
   ·rename_i hw
    obtain⟨m,hm⟩:=ih hr
    exact⟨m,by rw[qdL,hw];exact hm⟩
   ·cases hr
theorem qrk:∀ (l:List Step) {tm:Tmps} {hs:List Heap} {h:Heap} {r:Tmps × List Heap × Heap},qcR pure (call L) l tm hs h=some r→∃ n,qcR pure (qbM L n) l tm hs h=some r:=by
 intro l
 induction l with
 | nil=>intro tm hs h r hr;exact⟨0,hr⟩
 | cons o rest ih =>
   intro tm hs h r hr
   rw[qcR] at hr
   split at hr
   ·rename_i hw
    cases hx:aOp pure (call L) o.op tm h with
    | none=>rw[hx] at hr;cases hr
    | some x =>
      rw[hx] at hr
      obtain⟨n,hn⟩:=qlu hx
      obtain⟨v,h'⟩:=x
      cases v with
      | val v =>
        obtain⟨m,hm⟩:=ih hr
        refine⟨max n m,?_⟩
        rw[qcR,hw]
        dsimp only
        rw[qfw (qce L (Nat.le_max_left n m)) _ _ _ _ hn]
        exact qkA (qce L (Nat.le_max_right n m)) _ _ _ _ _ hm
      | panic v=>cases hr
   ·rename_i hw
    obtain⟨m,hm⟩:=ih hr
    exact⟨m,by rw[qcR,hw];exact hm⟩
   ·cases hr
theorem qpQ (c:ACode) (g:St→St) (ih:∀ {s:St} {r:AExit × St},qaR pure (call L) c s=some r→∃ n,qaI pure (qbM L n) n c s=some r) {r:AExit × St} :
  ∀ k s,qdi (fun s1=>qaR pure (call L) c (g s1)) k s=some r→∃ n,qdi (fun s1=>qaI pure (qbM L n) n c (g s1)) n s=some r:=by
 intro k
 induction k with
 | zero=>intro s h;cases h
 | succ k ihk =>
   intro s h
   rw[qdi] at h
   cases hx:qaR pure (call L) c (g s) with
   | none=>rw[hx] at h;cases h
   | some x =>
     rw[hx] at h
     obtain⟨n,hn⟩:=ih hx
     obtain⟨e,s'⟩:=x
     cases e with
     | normal =>
       obtain⟨m,hm⟩:=ihk s' h
       refine⟨max n m+1,?_⟩
       rw[qdi,qcp (qce L (Nat.le_trans (Nat.le_max_left n m) (Nat.le_succ _))) (Nat.le_trans (Nat.le_max_left n m) (Nat.le_succ _)) _ _ _ hn]
       exact qed (fun s=>qcp (qce L (Nat.le_trans (Nat.le_max_right n m) (Nat.le_succ _))) (Nat.le_trans (Nat.le_max_right n m) (Nat.le_succ _)) _ _) (Nat.le_max_right n m) _ _ hm
     | _ =>
       refine⟨n+1,?_⟩
       rw[qdi,qcp (qce L (Nat.le_succ n)) (Nat.le_succ n) _ _ _ hn]
       exact h
def qk9 (x:AVal × AVal):List (AVal × AVal)→List (List (AVal × AVal))
 | []=>[[x]]
 | y::ys=>(x::y::ys)::(qk9 x ys).map (y::·)
def qe2:List (AVal × AVal)→List (List (AVal × AVal))
 | []=>[[]]
 | x::xs=>(qe2 xs).flatMap (qk9 x)
theorem qk1 (x:AVal × AVal):∀ l r:List (AVal × AVal),l++x::r∈qk9 x (l++r)
 | [],[]=>by simp[qk9]
 | [],y::ys=>by simp[qk9]
 | y :: l,r => by
   simp only[List.cons_append,qk9,List.mem_cons,List.mem_map]
   exact .inr ⟨_,qk1 x l r,rfl⟩
theorem qhg:∀ (es es':List (AVal × AVal)),es'.Perm es→es'∈qe2 es
 | [],es',h=>by rw[h.eq_nil];simp[qe2]
 | x :: xs,es',h => by
   obtain⟨l,r,rfl⟩:=List.append_of_mem (h.mem_iff.2 (List.mem_cons_self ..))
   have h1:(l++r).Perm xs:=by
    have:=(List.perm_middle (a:=x) (l₁:=l) (l₂:=r)).symm.trans h
    exact this.cons_inv
   simp only[qe2,List.mem_flatMap]
   exact⟨_,qhg xs _ h1,qk1 x l r⟩
theorem qr1 {α:Type} (Q:Nat→α→Prop) (hm:∀ n m a,n≤m→Q n a→Q m a):∀ (l:List α),(∀ a∈l,∃ n,Q n a)→∃ n,∀ a∈l,Q n a
 | [],_=>⟨0,fun a ha=>by cases ha⟩
 | a :: l,h => by
   obtain⟨n,hn⟩:=h a (by simp)
   obtain⟨m,hm'⟩:=qr1 Q hm l fun b hb=>h b (by simp[hb])
   refine⟨max n m,fun b hb=>?_⟩
   rcases List.mem_cons.1 hb with rfl | hb
   ·exact hm _ _ _ (Nat.le_max_left n m) hn
   ·exact hm _ _ _ (Nat.le_max_right n m) (hm' b hb)
section
variable {b c:ACode}
theorem qd0 {n m:Nat} (h:n≤m) (l:List Step) (s:St):Le (qb1 pure (qbM L n) l s) (qb1 pure (qbM L m) l s):=qd2 (qce L h) l s
theorem qdl {n m:Nat} (h:n≤m) (s:St):Le (qaI pure (qbM L n) n b s) (qaI pure (qbM L m) m b s):=qcp (qce L h) h b s
theorem qku (hb:∀ {s:St} {r:AExit × St},qaR pure (call L) b s=some r→∃ n,qaI pure (qbM L n) n b s=some r) (i:Nat) (k:RangeK) (e:AVal × AVal) {s:St} {r:AExit × St}
  (hr:qbc (qb1 pure (call L)) i k (qaR pure (call L) b) e s=some r):∃ n,qbc (qb1 pure (qbM L n)) i k (qaI pure (qbM L n) n b) e s=some r:=by
 unfold qbc at hr
 split at hr
 case isFalse=>cases hr
 rename_i g0
 cases hx:qb1 pure (call L) k.r1 ⟨upd s.tm (some k.dn) (.tuple [.bool true,e.1,e.2]),s.h⟩ with
 | none=>rw[hx] at hr;cases hr
 | some x =>
   rw[hx] at hr
   obtain⟨n1,hn1⟩:=qgE _ hx
   obtain⟨q,s1⟩:=x
   cases q with
   | normal =>
     dsimp only at hr
     split at hr
     case isFalse=>cases hr
     rename_i g1
     split at hr
     ·rename_i hq
      unfold qj4 at hr
      cases hy:qb1 pure (call L) k.r2 ⟨upd s1.tm k.de (.tuple [e.1,e.2]),s1.h⟩ with
      | none=>rw[hy] at hr;cases hr
      | some y =>
        rw[hy] at hr
        obtain⟨n2,hn2⟩:=qgE _ hy
        obtain⟨q2,s2⟩:=y
        cases q2 with
        | normal =>
          dsimp only at hr
          cases hz:qaR pure (call L) b s2 with
          | none=>rw[hz] at hr;cases hr
          | some z =>
            obtain⟨n3,hn3⟩:=hb hz
            rw[hz] at hr
            refine⟨max n1 (max n2 n3),?_⟩
            unfold qbc qj4
            rw[if_pos g0,qd0 (Nat.le_max_left _ _) _ _ _ hn1]
            dsimp only
            rw[if_pos g1,hq]
            dsimp only
            rw[qd0 (Nat.le_trans (Nat.le_max_left n2 n3) (Nat.le_max_right _ _)) _ _ _ hn2]
            dsimp only
            rw[qdl (Nat.le_trans (Nat.le_max_right n2 n3) (Nat.le_max_right _ _)) _ _ hn3]
            exact hr
        | _ =>
          refine⟨max n1 n2,?_⟩
          unfold qbc qj4
          rw[if_pos g0,qd0 (Nat.le_max_left _ _) _ _ _ hn1]
          dsimp only
          rw[if_pos g1,hq]
          dsimp only
          rw[qd0 (Nat.le_max_right _ _) _ _ _ hn2]
          exact hr
     ·cases hr
   | _=>cases hr
theorem qnq (i:Nat) (k:RangeK) {s:St} {r:AExit × St} (hr:qbE (qb1 pure (call L)) i k s=some r):∃ n,qbE (qb1 pure (qbM L n)) i k s=some r:=by
 unfold qbE at hr
 split at hr
 case isFalse=>cases hr
 rename_i g0
 cases hx:qb1 pure (call L) k.r1 ⟨upd s.tm (some k.dn) (.tuple [.bool false]),s.h⟩ with
 | none=>rw[hx] at hr;cases hr
 | some x =>
   rw[hx] at hr
   obtain⟨n1,hn1⟩:=qgE _ hx
   exact⟨n1,by unfold qbE;rw[if_pos g0,hn1];exact hr⟩
theorem qif (hb:∀ {s:St} {r:AExit × St},qaR pure (call L) b s=some r→∃ n,qaI pure (qbM L n) n b s=some r) (i:Nat) (k:RangeK):∀ (es:List (AVal × AVal)) {s:St} {r:AExit × St},
  qbd (qb1 pure (call L)) i k (qaR pure (call L) b) es s=some r→∃ n,qbd (qb1 pure (qbM L n)) i k (qaI pure (qbM L n) n b) es s=some r
 | [],s,r,hr=>qnq i k hr
 | e :: es,s,r,hr => by
   rw[qbd] at hr
   cases hx:qbc (qb1 pure (call L)) i k (qaR pure (call L) b) e (gc (i+1) k.kr s) with
   | none=>rw[hx] at hr;cases hr
   | some x =>
     rw[hx] at hr
     obtain⟨n,hn⟩:=qku hb i k e hx
     obtain⟨q,s1⟩:=x
     cases q with
     | normal =>
       obtain⟨m,hm⟩:=qif hb i k es hr
       refine⟨max n m,?_⟩
       rw[qbd,qfl (fun l s=>qd0 (Nat.le_max_left n m) l s) (fun s=>qdl (Nat.le_max_left n m) s) i k e _ _ hn]
       exact qdr (fun l s=>qd0 (Nat.le_max_right n m) l s) (fun s=>qdl (Nat.le_max_right n m) s) i k es _ _ hm
     | _=>exact⟨n,by rw[qbd,hn];exact hr⟩
theorem qnr (hb:∀ {s:St} {r:AExit × St},qaR pure (call L) b s=some r→∃ n,qaI pure (qbM L n) n b s=some r) (hc:∀ {s:St} {r:AExit × St},qaR pure (call L) c s=some r→∃ n,qaI pure (qbM L n) n c s=some r)
  (k:RangeK) (s s1:St) (es:List (AVal × AVal)) {r:AExit × St} (hr:qck (qb1 pure (call L)) k (qaR pure (call L) b) (qaR pure (call L) c) s s1 es=some r) :
  ∃ n,qck (qb1 pure (qbM L n)) k (qaI pure (qbM L n) n b) (qaI pure (qbM L n) n c) s s1 es=some r:=by
 unfold qck at hr
 obtain⟨x,hx,rfl⟩:=Option.map_eq_some_iff.1 hr
 cases hy:qbd (qb1 pure (call L)) s1.h.length k (qaR pure (call L) b) es ⟨upd s1.tm (some k.it) (.ptr (some (s1.h.length,0))),qkp (opd s1.tm k.m) s1.h⟩ with
 | none=>rw[hy] at hx;cases hx
 | some y =>
   rw[hy] at hx
   obtain⟨n,hn⟩:=qif hb _ k es hy
   obtain⟨q,s2⟩:=y
   cases q with
   | normal =>
     obtain⟨m,hm⟩:=hc hx
     refine⟨max n m,?_⟩
     unfold qck
     rw[qdr (fun l s=>qd0 (Nat.le_max_left n m) l s) (fun s=>qdl (Nat.le_max_left n m) s) _ k es _ _ hn]
     dsimp only
     rw[qdl (Nat.le_max_right n m) _ _ hm]
     rfl
   | _ =>
     refine⟨n,?_⟩
     unfold qck
     rw[hn]
     dsimp only at hx ⊢
     rw[hx]
     rfl
end
theorem qri:∀ (c:ACode) {s:St} {r:AExit × St},qaR pure (call L) c s=some r→∃ n,qaI pure (qbM L n) n c s=some r:=by
 intro c
 induction c with
 | skip=>intro s r hr;exact⟨0,hr⟩
 | ops l=>intro s r hr;exact qgE l hr
 | kops l=>intro s r hr;exact qrl l hr
 | mdraw k l ns=>intro s r hr;exact⟨0,hr⟩
 | draw l cs =>
   intro s r hr
   rw[qaR] at hr
   unfold qgj at hr
   cases hx:qcR pure (call L) l s.tm [] s.h with
   | none=>rw[hx] at hr;cases hr
   | some x =>
     rw[hx] at hr
     obtain⟨n,hn⟩:=qrk l hx
     exact⟨n,by rw[qaI];unfold qgj;rw[hn];exact hr⟩
 | seq a b iha ihb =>
   intro s r hr
   rw[qaR] at hr
   cases hx:qaR pure (call L) a s with
   | none=>rw[hx] at hr;cases hr
   | some x =>
     rw[hx] at hr
     obtain⟨n,hn⟩:=iha hx
     obtain⟨e,s'⟩:=x
     cases e with
     | normal =>
       obtain⟨m,hm⟩:=ihb hr
       refine⟨max n m,?_⟩
       rw[qaI,qcp (qce L (Nat.le_max_left n m)) (Nat.le_max_left n m) _ _ _ hn]
       exact qcp (qce L (Nat.le_max_right n m)) (Nat.le_max_right n m) _ _ _ hm
     | _=>exact⟨n,by rw[qaI,hn];exact hr⟩
 | cond c a b iha ihb =>
   intro s r hr
   rw[qaR] at hr
   split at hr
   ·rename_i t ht
    cases t with
    | true =>
      obtain⟨n,hn⟩:=iha hr
      exact⟨n,by rw[qaI,ht];exact hn⟩
    | false =>
      obtain⟨n,hn⟩:=ihb hr
      exact⟨n,by rw[qaI,ht];exact hn⟩
   ·cases hr
 | block id c ih =>
   intro s r hr
   rw[qaR] at hr
   cases hx:qaR pure (call L) c s with
   | none=>rw[hx] at hr;cases hr
   | some x =>
     rw[hx] at hr
     obtain⟨n,hn⟩:=ih hx
     exact⟨n,by rw[qaI,hn];exact hr⟩
 | loop c ih =>
   intro s r hr
   rw[qaR] at hr
   obtain⟨k,hk⟩:=qcV.1 hr
   obtain⟨n,hn⟩:=qpQ c (fun s=>s) (fun hx=>ih hx) k s hk
   exact⟨n,by rw[qaI];exact hn⟩
 | gloop kp c ih =>
   intro s r hr
   rw[qaR] at hr
   obtain⟨k,hk⟩:=qcV.1 hr
   obtain⟨n,hn⟩:=qpQ c (fun s1=>gc s.h.length kp s1) (fun hx=>ih hx) k s hk
   exact⟨n,by rw[qaI];exact hn⟩
 | view c ih =>
   intro s r hr
   obtain⟨n,hn⟩:=ih hr
   exact⟨n,hn⟩
 | freeze t c ih =>
   intro s r hr
   obtain⟨n,hn⟩:=ih hr
   exact⟨n,hn⟩
 | range k b c ihb ihc =>
   intro s r hr
   rw[qaR,qej] at hr
   cases hx:qb1 pure (call L) k.pre s with
   | none=>rw[hx] at hr;cases hr
   | some x =>
     rw[hx] at hr
     obtain⟨n,hn⟩:=qgE _ hx
     obtain⟨q,s1⟩:=x
     cases q with
     | normal =>
       dsimp only at hr
       split at hr
       ·rename_i es hes
        have h1:=(qcq (qbI _ _)).1 hr
        obtain⟨m,hm⟩:=qr1 (fun n es'=>qcb k.str es es'→qck (qb1 pure (qbM L n)) k (qaI pure (qbM L n) n b) (qaI pure (qbM L n) n c) s s1 es'=some r)
         (fun n m a hnm h ho=>qeK (fun l s=>qd0 hnm l s) (fun s=>qdl hnm s) (fun s=>qdl hnm s) k s s1 a r (h ho)) (es::qe2 es)
         (fun a _=>by
          by_cases ho:qcb k.str es a
          ·obtain⟨n,hn⟩:=qnr ihb ihc k s s1 a (h1 a ho)
           exact⟨n,fun _=>hn⟩
          ·exact⟨0,fun h=>absurd h ho⟩)
        refine⟨max n m,?_⟩
        rw[qaI,qej,qd0 (Nat.le_max_left n m) _ _ _ hn]
        dsimp only
        rw[hes]
        dsimp only
        refine (qcq (qbI _ _)).2 fun es' he=>?_
        refine qeK (fun l s=>qd0 (Nat.le_max_right n m) l s) (fun s=>qdl (Nat.le_max_right n m) s) (fun s=>qdl (Nat.le_max_right n m) s) k s s1 es' r (hm es' ?_ he)
        unfold qcb at he
        split at he
        ·rw[he];simp
        ·exact List.mem_cons_of_mem _ (qhg es es' he)
       ·cases hr
     | _=>cases hr
 | frame kp c ih =>
   intro s r hr
   rw[qaR] at hr
   obtain⟨x,hx,rfl⟩:=Option.map_eq_some_iff.1 hr
   obtain⟨n,hn⟩:=ih hx
   exact⟨n,by rw[qaI,hn];rfl⟩
 | exit id=>intro s r hr;exact⟨0,hr⟩
 | ret=>intro s r hr;exact⟨0,hr⟩
 | stuck=>intro s r hr;exact⟨0,hr⟩
end
theorem qaB {L:Lib} {f:Nat} {fn:AFn} (hs:L.summ f=none) (hf:L.fns f=some fn) {a:List AVal} {h:Heap} {r:ARes × Heap}
  (hr:qan fn.results (qaR L.pure (call L) fn.body ⟨qdE a,h⟩)=some r):call L f a h=some r:=by
 cases hx:qaR L.pure (call L) fn.body ⟨qdE a,h⟩ with
 | none=>rw[hx] at hr;cases hr
 | some x =>
   rw[hx] at hr
   obtain⟨n,hn⟩:=qri _ hx
   refine qc8.2 ⟨n+1,?_⟩
   rw[qbM,hs]
   dsimp only
   rw[hf]
   dsimp only
   rw[hn]
   exact hr
theorem qgM {L:Lib} {f:Nat} {s:List AVal→Heap→Option (ARes × Heap)} (hs:L.summ f=some s) {a:List AVal} {h:Heap} {r:ARes × Heap} (hr:s a h=some r):call L f a h=some r :=
 qc8.2 ⟨1,by rw[qbM,hs];exact hr⟩
end Go.Abs
