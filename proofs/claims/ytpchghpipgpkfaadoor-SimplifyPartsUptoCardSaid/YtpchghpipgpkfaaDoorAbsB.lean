/-
  The abstract machine without bounds: calls and loops as limits of the bounded ones; each is what its body says.
-/
import Derived.Test.YtpchghpipgpkfaaDoorAbsA
set_option linter.unusedVariables false
namespace Go.Abs
def Le {α:Type} (x y:Option α):Prop:=∀ r,x=some r→y=some r
theorem Le.refl {α:Type} (x:Option α):Le x x:=fun _ h=>h
theorem Le.trans {α:Type} {x y z:Option α} (h:Le x y) (h':Le y z):Le x z:=fun r e=>h' r (h r e)
theorem Le.none {α:Type} (y:Option α):Le (Option.none:Option α) y:=fun _ h=>by cases h
open Classical in
noncomputable def lim {α:Type} (f:Nat→Option α):Option α:=if h:∃ n,(f n).isSome=true then f (Classical.choose h) else none
theorem qlG {α:Type} {f:Nat→Option α} (hm:∀ n,Le (f n) (f (n+1))):∀ {a b:Nat},a≤b→Le (f a) (f b):=by
 intro a b hab
 induction hab with
 | refl=>exact Le.refl _
 | step _ ih=>exact ih.trans (hm _)
theorem qps {α:Type} {f:Nat→Option α} (hm:∀ n,Le (f n) (f (n+1))) {r:α}:lim f=some r↔∃ n,f n=some r:=by
 constructor
 ·intro h
  unfold lim at h
  split at h
  ·exact⟨_,h⟩
  ·cases h
 ·rintro ⟨n,hn⟩
  have hx:∃ n,(f n).isSome=true:=⟨n,by rw[hn];rfl⟩
  unfold lim
  rw[dif_pos hx]
  have h1:=Classical.choose_spec hx
  obtain⟨r',hr'⟩:=Option.isSome_iff_exists.1 h1
  rw[hr']
  have a:=qlG hm (Nat.le_max_left n (Classical.choose hx)) r hn
  have b:=qlG hm (Nat.le_max_right n (Classical.choose hx)) r' hr'
  rw[a] at b
  injection b with b
  rw[b]
theorem qkO (body:St→Option (AExit × St)):∀ n s,Le (qdd body n s) (qdd body (n+1) s):=by
 intro n
 induction n with
 | zero=>intro s r h;cases h
 | succ n ih =>
   intro s r h
   rw[qdd] at h ⊢
   split
   ·rename_i s' hb
    rw[hb] at h
    exact ih s' r h
   ·rename_i r' hr'
    split at h
    ·rename_i s' hs'
     exact absurd hs' (hr' s')
    ·exact h
theorem qd5 {b1 b2:St→Option (AExit × St)} (hb:∀ s,Le (b1 s) (b2 s)):∀ {n m:Nat},n≤m→∀ s,Le (qdd b1 n s) (qdd b2 m s):=by
 intro n m hnm s
 refine Le.trans ?_ (qlG (f:=fun k=>qdd b2 k s) (fun k=>qkO b2 k s) hnm)
 clear hnm
 induction n generalizing s with
 | zero=>intro r h;cases h
 | succ n ih =>
   intro r h
   rw[qdd] at h ⊢
   cases hx:b1 s with
   | none=>rw[hx] at h;cases h
   | some x =>
     rw[hb s x hx]
     rw[hx] at h
     obtain⟨e,s'⟩:=x
     cases e with
     | normal=>exact ih s' r h
     | _=>exact h
section
variable {pure:Nat→Bool} {c1 c2:CallT}
theorem qqz (hc:∀ f a h,Le (c1 f a h) (c2 f a h)) (f:Nat) (a:List AVal) (h:Heap):Le (qki c1 f a h) (qki c2 f a h):=by
 intro r hr
 unfold qki at hr ⊢
 split
 ·rename_i hp
  rw[if_pos hp] at hr
  cases hx:c1 f (a.map (ren fun i=>qav i (qbs a h) 0)) (qct (qbs a h) h) with
  | none=>rw[hx] at hr;cases hr
  | some x=>rw[hc _ _ _ x hx];rw[hx] at hr;exact hr
 ·rename_i hp
  rw[if_neg hp] at hr
  cases hr
theorem qgl (hc:∀ f a h,Le (c1 f a h) (c2 f a h)) (f:Nat) (a:List AVal) (h:Heap):Le (qcw pure c1 f a h) (qcw pure c2 f a h):=by
 intro r hr
 unfold qcw at hr ⊢
 split
 ·rename_i hp
  rw[if_pos hp] at hr
  cases hx:c1 f (a.map wipe) [] with
  | none=>rw[hx] at hr;cases hr
  | some x=>rw[hc _ _ _ x hx];rw[hx] at hr;exact hr
 ·rename_i hp
  rw[if_neg hp] at hr
  exact qqz hc _ _ _ _ hr
theorem qqx (hc:∀ f a h,Le (c1 f a h) (c2 f a h)) (g:Nat) (xs:List AVal) (h:Heap):Le (qjI pure c1 g xs h) (qjI pure c2 g xs h):=by
 intro r hr
 unfold qjI at hr ⊢
 split
 ·rename_i hc'
  rw[if_pos hc'] at hr
  unfold qar at hr ⊢
  split at hr
  ·rename_i v h' hd
   rw[qgl hc _ _ _ _ hd]
   exact hr
  ·cases hr
 ·rename_i hc'
  rw[if_neg hc'] at hr
  cases hr
theorem qqM (hc:∀ f a h,Le (c1 f a h) (c2 f a h)) (f:Nat) (a:List AVal) (h:Heap):Le (qhG c1 f a h) (qhG c2 f a h):=by
 intro r hr
 unfold qhG at hr ⊢
 split
 ·rename_i hp
  rw[if_pos hp] at hr
  cases hx:c1 f (a.map (lookV h)) [] with
  | none=>rw[hx] at hr;cases hr
  | some x=>rw[hc _ _ _ x hx];rw[hx] at hr;exact hr
 ·rename_i hp
  rw[if_neg hp] at hr
  cases hr
theorem qfn (hc:∀ f a h,Le (c1 f a h) (c2 f a h)) (o:AOp) (tm:Tmps) (h:Heap):Le (aOp pure c1 o tm h) (aOp pure c2 o tm h):=by
 intro r hr
 cases o with
 | vcall f args=>exact qqM hc _ _ _ _ hr
 | hcall f args =>
   simp only[aOp] at hr ⊢
   split
   ·rename_i hf
    rw[hf] at hr
    exact hc _ _ _ _ hr
   ·rename_i hf
    split at hr
    ·rename_i hf'
     exact absurd hf' (hf _ _ _)
    ·cases hr
 | call f args =>
   simp only[aOp] at hr ⊢
   split
   ·rename_i hf
    rw[hf] at hr
    exact qgl hc _ _ _ _ hr
   ·rename_i hf
    split at hr
    ·rename_i hf'
     exact absurd hf' (hf _ _ _)
    ·cases hr
 | pcallV f args =>
   simp only[aOp] at hr ⊢
   split
   ·rename_i hf
    rw[hf] at hr
    exact qqx hc _ _ _ _ hr
   ·rename_i hf
    split at hr
    ·rename_i hf'
     exact absurd hf' (hf _ _ _)
    ·cases hr
 | pcall f args =>
   simp only[aOp] at hr ⊢
   split
   ·rename_i hc'
    rw[if_pos hc'] at hr
    unfold qar at hr ⊢
    split at hr
    ·rename_i v h' hd
     rw[qgl hc _ _ _ _ hd]
     exact hr
    ·cases hr
   ·rename_i hc'
    rw[if_neg hc'] at hr
    cases hr
 | _=>exact hr
theorem qdW (hc:∀ f a h,Le (c1 f a h) (c2 f a h)):∀ (l:List Step) (s:St),Le (qb0 pure c1 l s) (qb0 pure c2 l s):=by
 intro l
 induction l with
 | nil=>intro s;exact Le.refl _
 | cons o rest ih =>
   intro s r hr
   rw[qb0] at hr ⊢
   split
   ·rename_i hw
    rw[hw] at hr
    dsimp only at hr
    cases hx:aOp pure c1 o.op s.tm s.h with
    | none=>rw[hx] at hr;cases hr
    | some x =>
      rw[qfn hc _ _ _ x hx]
      rw[hx] at hr
      obtain⟨v,h⟩:=x
      cases v with
      | val v=>exact ih _ r hr
      | panic v=>exact hr
   ·rename_i hw
    rw[hw] at hr
    exact ih _ r hr
   ·rename_i hw
    rw[hw] at hr
    cases hr
theorem qqj (hc:∀ f a h,Le (c1 f a h) (c2 f a h)) (f:Nat) (a:List AVal) (h:Heap):Le (qmJ c1 f a h) (qmJ c2 f a h):=by
 intro r hr
 unfold qmJ at hr ⊢
 split
 ·rename_i hp
  rw[if_pos hp] at hr
  cases hx:c1 f (a.map wipe) [] with
  | none=>rw[hx] at hr;cases hr
  | some x=>rw[hc _ _ _ x hx];rw[hx] at hr;exact hr
 ·rename_i hp
  rw[if_neg hp] at hr
  cases hr
theorem qma (hc:∀ f a h,Le (c1 f a h) (c2 f a h)) (o:AOp) (tm:Tmps) (h:Heap):Le (qih pure c1 o tm h) (qih pure c2 o tm h):=by
 intro r hr
 cases o with
 | pcall f args=>exact qqj hc _ _ _ _ hr
 | append sz bytes x y =>
   simp only[qih] at hr ⊢
   split
   ·rename_i hq
    rw[if_pos hq] at hr
    exact hr
   ·rename_i hq
    rw[if_neg hq] at hr
    exact qfn hc _ tm h r hr
 | _=>simp only[qih] at hr ⊢;exact qfn hc _ tm h r hr
theorem qhh (hc:∀ f a h,Le (c1 f a h) (c2 f a h)):∀ (l:List Step) (s:St),Le (qdH pure c1 l s) (qdH pure c2 l s):=by
 intro l
 induction l with
 | nil=>intro s;exact Le.refl _
 | cons o rest ih =>
   intro s r hr
   rw[qdH] at hr ⊢
   split
   ·rename_i hw
    rw[hw] at hr
    dsimp only at hr
    cases hx:qih pure c1 o.op s.tm s.h with
    | none=>rw[hx] at hr;cases hr
    | some x =>
      rw[qma hc _ _ _ x hx]
      rw[hx] at hr
      obtain⟨v,h⟩:=x
      cases v with
      | val v=>exact ih _ r hr
      | panic v=>exact hr
   ·rename_i hw
    rw[hw] at hr
    exact ih _ r hr
   ·rename_i hw
    rw[hw] at hr
    cases hr
theorem qko (hc:∀ f a h,Le (c1 f a h) (c2 f a h)):∀ (l:List Step) (tm:Tmps) (hs:List Heap) (h:Heap),Le (qcO pure c1 l tm hs h) (qcO pure c2 l tm hs h):=by
 intro l
 induction l with
 | nil=>intro tm hs h;exact Le.refl _
 | cons o rest ih =>
   intro tm hs h r hr
   rw[qcO] at hr ⊢
   split
   ·rename_i hw
    rw[hw] at hr
    dsimp only at hr
    cases hx:aOp pure c1 o.op tm h with
    | none=>rw[hx] at hr;cases hr
    | some x =>
      rw[qfn hc _ _ _ x hx]
      rw[hx] at hr
      obtain⟨v,h'⟩:=x
      cases v with
      | val v=>exact ih _ _ _ r hr
      | panic v=>exact hr
   ·rename_i hw
    rw[hw] at hr
    exact ih _ _ _ r hr
   ·rename_i hw
    rw[hw] at hr
    cases hr
section
variable {o1 o2:List Step→St→Option (AExit × St)} {b1 b2 c1' c2':St→Option (AExit × St)}
theorem qmj {id:Nat} {x y:Option (AExit × St)} (h:Le x y):Le (qdb id x) (qdb id y):=by
 intro r hr
 cases x with
 | none=>cases hr
 | some x=>rw[h x rfl];exact hr
theorem qfd (ho:∀ l s,Le (o1 l s) (o2 l s)) (hb:∀ s,Le (b1 s) (b2 s)) (n:Nat) (k:RangeK) (e:AVal × AVal) (s:St):Le (qba o1 n k b1 e s) (qba o2 n k b2 e s):=by
 intro r hr
 unfold qba at hr ⊢
 split
 case isFalse h0=>rw[if_neg h0] at hr;cases hr
 rename_i h0
 rw[if_pos h0] at hr
 cases hx:o1 k.r1 ⟨upd s.tm (some k.dn) (.tuple [.bool true,e.1,e.2]),s.h⟩ with
 | none=>rw[hx] at hr;cases hr
 | some x =>
   rw[ho _ _ x hx]
   rw[hx] at hr
   obtain⟨q,s1⟩:=x
   cases q with
   | normal =>
     dsimp only at hr ⊢
     split
     case isFalse h1=>rw[if_neg h1] at hr;cases hr
     rename_i h1
     rw[if_pos h1] at hr
     split
     ·rename_i hq
      rw[hq] at hr
      refine qmj (id:=k.id2) ?_ r hr
      intro r2 hr2
      unfold qjT at hr2 ⊢
      cases hy:o1 k.r2 ⟨upd s1.tm k.de (.tuple [e.1,e.2]),s1.h⟩ with
      | none=>rw[hy] at hr2;cases hr2
      | some y =>
        rw[ho _ _ y hy]
        rw[hy] at hr2
        obtain⟨q2,s2⟩:=y
        cases q2 with
        | normal=>exact hb _ r2 hr2
        | _=>exact hr2
     ·rename_i hq
      split at hr
      ·rename_i hq'
       exact absurd hq' hq
      ·cases hr
   | _=>cases hr
theorem qlR (ho:∀ l s,Le (o1 l s) (o2 l s)) (n:Nat) (k:RangeK) (s:St):Le (qbA o1 n k s) (qbA o2 n k s):=by
 intro r hr
 unfold qbA at hr ⊢
 split
 case isFalse h0=>rw[if_neg h0] at hr;cases hr
 rename_i h0
 rw[if_pos h0] at hr
 cases hx:o1 k.r1 ⟨upd s.tm (some k.dn) (.tuple [.bool false]),s.h⟩ with
 | none=>rw[hx] at hr;cases hr
 | some x =>
   rw[ho _ _ x hx]
   rw[hx] at hr
   exact hr
theorem qdo (ho:∀ l s,Le (o1 l s) (o2 l s)) (hb:∀ s,Le (b1 s) (b2 s)) (n:Nat) (k:RangeK):∀ (es:List (AVal × AVal)) (s:St),Le (qbb o1 n k b1 es s) (qbb o2 n k b2 es s)
 | [],s=>qlR ho n k _
 | e :: es,s => by
   intro r hr
   rw[qbb] at hr ⊢
   cases hx:qba o1 n k b1 e (gc (n+1) k.kr s) with
   | none=>rw[hx] at hr;cases hr
   | some x =>
     rw[qfd ho hb n k e _ x hx]
     rw[hx] at hr
     obtain⟨q,s1⟩:=x
     cases q with
     | normal=>exact qdo ho hb n k es s1 r hr
     | _=>exact hr
theorem qcm {O:List (AVal × AVal)→Prop} (hO:∃ es,O es) {f:List (AVal × AVal)→Option (AExit × St)} {r:AExit × St}:qme O f=some r↔∀ es,O es→f es=some r:=by
 constructor
 ·intro h
  unfold qme at h
  split at h
  ·rename_i hx
   injection h with h
   rw[← h]
   exact Classical.choose_spec hx
  ·cases h
 ·intro h
  have hx:∃ r,∀ es,O es→f es=some r:=⟨r,h⟩
  unfold qme
  rw[dif_pos hx]
  obtain⟨es,he⟩:=hO
  have h1:=Classical.choose_spec hx es he
  rw[h es he] at h1
  exact h1.symm
theorem qbF (str:Bool) (es:List (AVal × AVal)):∃ es',qb9 str es es':=⟨es,by unfold qb9;split<;>first | rfl | exact .refl _⟩
def qcg (ops:List Step→St→Option (AExit × St)) (k:RangeK) (runB runC:St→Option (AExit × St)) (s s1:St) (es:List (AVal × AVal)):Option (AExit × St) :=
 (match qbb ops s1.h.length k runB es ⟨upd s1.tm (some k.it) (.ptr (some (s1.h.length,0))),qke (opd s1.tm k.m) s1.h⟩ with
  | some (.normal,s2)=>runC ⟨s2.tm,qca (opd s1.tm k.m) s1.h s2.h⟩
  | some (e,s2)=>some (e,⟨s2.tm,qca (opd s1.tm k.m) s1.h s2.h⟩)
  | none=>none).map (gcE s.h.length k.keep)
theorem qeb (ops:List Step→St→Option (AExit × St)) (k:RangeK) (runB runC:St→Option (AExit × St)) (s:St):qjJ ops k runB runC s=match ops k.pre s with
 | some (.normal,s1) => (match qci k.str (opd s1.tm k.m) s1.h with
   | some es=>qme (qb9 k.str es) (qcg ops k runB runC s s1)
   | none=>none)
 | _=>none:=rfl
theorem qeC (ho:∀ l s,Le (o1 l s) (o2 l s)) (hb:∀ s,Le (b1 s) (b2 s)) (hc:∀ s,Le (c1' s) (c2' s)) (k:RangeK) (s s1:St) (es:List (AVal × AVal)):Le (qcg o1 k b1 c1' s s1 es) (qcg o2 k b2 c2' s s1 es):=by
 intro r hr
 unfold qcg at hr ⊢
 obtain⟨x,hx,rfl⟩:=Option.map_eq_some_iff.1 hr
 refine Option.map_eq_some_iff.2 ⟨x,?_,rfl⟩
 cases hy:qbb o1 s1.h.length k b1 es ⟨upd s1.tm (some k.it) (.ptr (some (s1.h.length,0))),qke (opd s1.tm k.m) s1.h⟩ with
 | none=>rw[hy] at hx;cases hx
 | some y =>
   rw[qdo ho hb _ k _ _ y hy]
   rw[hy] at hx
   obtain⟨q,s2⟩:=y
   cases q with
   | normal=>exact hc _ x hx
   | _=>exact hx
theorem qjK (ho:∀ l s,Le (o1 l s) (o2 l s)) (hb:∀ s,Le (b1 s) (b2 s)) (hc:∀ s,Le (c1' s) (c2' s)) (k:RangeK) (s:St):Le (qjJ o1 k b1 c1' s) (qjJ o2 k b2 c2' s):=by
 intro r hr
 rw[qeb] at hr ⊢
 cases hx:o1 k.pre s with
 | none=>rw[hx] at hr;cases hr
 | some x =>
   rw[ho _ _ x hx]
   rw[hx] at hr
   obtain⟨q,s1⟩:=x
   cases q with
   | normal =>
     dsimp only at hr ⊢
     split
     ·rename_i es hes
      rw[hes] at hr
      have h1:=(qcm (qbF _ _)).1 hr
      exact (qcm (qbF _ _)).2 fun es' he=>qeC ho hb hc k s s1 es' r (h1 es' he)
     ·rename_i hes
      rw[hes] at hr
      cases hr
   | _=>cases hr
end
theorem qkn (hc:∀ f a h,Le (c1 f a h) (c2 f a h)) (l:List Step) (cs:List (Nat × Nat × Nat)) (s:St):Le (qga pure c1 l cs s) (qga pure c2 l cs s):=by
 intro r hr
 unfold qga at hr ⊢
 cases hx:qcO pure c1 l s.tm [] s.h with
 | none=>rw[hx] at hr;cases hr
 | some x=>rw[qko hc _ _ _ _ x hx];rw[hx] at hr;exact hr
theorem qcl (hc:∀ f a h,Le (c1 f a h) (c2 f a h)) {n m:Nat} (hnm:n≤m):∀ (c:ACode) (s:St),Le (qaH pure c1 n c s) (qaH pure c2 m c s):=by
 intro c
 induction c with
 | skip=>intro s;exact Le.refl _
 | ops l=>intro s;exact qdW hc l s
 | draw l cs=>intro s;exact qkn hc l cs s
 | kops l=>intro s;exact qhh hc l s
 | mdraw k l ns=>intro s;exact Le.refl _
 | seq a b iha ihb =>
   intro s r hr
   rw[qaH] at hr ⊢
   cases hx:qaH pure c1 n a s with
   | none=>rw[hx] at hr;cases hr
   | some x =>
     rw[iha s x hx]
     rw[hx] at hr
     obtain⟨e,s'⟩:=x
     cases e with
     | normal=>exact ihb _ r hr
     | _=>exact hr
 | cond c a b iha ihb =>
   intro s r hr
   rw[qaH] at hr ⊢
   split
   ·rename_i t ht
    rw[ht] at hr
    cases t with
    | true=>exact iha s r hr
    | false=>exact ihb s r hr
   ·rename_i ht
    split at hr
    ·rename_i t ht'
     exact absurd ht' (ht t)
    ·cases hr
 | block id c ih =>
   intro s r hr
   rw[qaH] at hr ⊢
   cases hx:qaH pure c1 n c s with
   | none=>rw[hx] at hr;cases hr
   | some x=>rw[ih s x hx];rw[hx] at hr;exact hr
 | loop c ih=>intro s;exact qd5 ih hnm s
 | gloop k c ih=>intro s;exact qd5 (fun s1=>ih _) hnm s
 | freeze t c ih=>intro s;exact ih _
 | view c ih=>intro s;exact ih _
 | range k b c ihb ihc=>intro s;exact qjK (fun l s=>qdW hc l s) ihb ihc k s
 | frame k c ih =>
   intro s r hr
   rw[qaH] at hr ⊢
   obtain⟨x,hx,rfl⟩:=Option.map_eq_some_iff.1 hr
   rw[ih s x hx]
   rfl
 | exit id=>intro s;exact Le.refl _
 | ret=>intro s;exact Le.refl _
 | stuck=>intro s;exact Le.refl _
end
theorem qp8 {rs:List ARVar} {x y:Option (AExit × St)} (h:Le x y):Le (qan rs x) (qan rs y):=by
 intro r hr
 cases x with
 | none=>cases hr
 | some x=>rw[h x rfl];exact hr
theorem qkv (L:Lib):∀ n f a h,Le (qbJ L n f a h) (qbJ L (n+1) f a h):=by
 intro n
 induction n with
 | zero=>intro f a h r hr;cases hr
 | succ n ih =>
   intro f a h r hr
   rw[qbJ] at hr ⊢
   split
   ·rename_i s hs
    rw[hs] at hr
    exact hr
   ·rename_i hs
    rw[hs] at hr
    dsimp only at hr
    split
    ·rename_i fn hfn
     rw[hfn] at hr
     exact qp8 (qcl ih (Nat.le_succ n) _ _) r hr
    ·rename_i hfn
     rw[hfn] at hr
     cases hr
theorem qcb (L:Lib) {n m:Nat} (h:n≤m) (f:Nat) (a:List AVal) (hp:Heap):Le (qbJ L n f a hp) (qbJ L m f a hp) :=
 qlG (f:=fun k=>qbJ L k f a hp) (fun k=>qkv L k f a hp) h
noncomputable def call (L:Lib):CallT:=fun f a h=>lim fun n=>qbJ L n f a h
theorem qc4 {L:Lib} {f:Nat} {a:List AVal} {h:Heap} {r:ARes × Heap}:call L f a h=some r↔∃ n,qbJ L n f a h=some r :=
 qps fun n=>qkv L n f a h
noncomputable def qjw (body:St→Option (AExit × St)) (s:St):Option (AExit × St):=lim fun n=>qdd body n s
theorem qcS {body:St→Option (AExit × St)} {s:St} {r:AExit × St}:qjw body s=some r↔∃ n,qdd body n s=some r:=qps fun n=>qkO body n s
theorem qgr (body:St→Option (AExit × St)) (n:Nat) (s:St):Le (qdd body n s) (qjw body s):=fun _ hr=>qcS.2 ⟨n,hr⟩
theorem qpu (body:St→Option (AExit × St)) (s:St):qjw body s=match body s with | some (.normal,s')=>qjw body s' | r=>r:=by
 have key:∀ r,qjw body s=some r↔(match body s with | some (.normal,s')=>qjw body s' | r=>r)=some r:=by
  intro r
  constructor
  ·intro h
   obtain⟨n,hn⟩:=qcS.1 h
   cases n with
   | zero=>cases hn
   | succ n =>
     rw[qdd] at hn
     split at hn
     ·rename_i s' hs'
      rw[hs']
      exact qgr _ _ _ _ hn
     ·rename_i x hx
      split
      ·rename_i s' hs'
       exact absurd hs' (hx s')
      ·exact hn
  ·intro h
   split at h
   ·rename_i s' hs'
    obtain⟨n,hn⟩:=qcS.1 h
    exact qcS.2 ⟨n+1,by rw[qdd,hs'];exact hn⟩
   ·rename_i x hx
    refine qcS.2 ⟨1,?_⟩
    rw[qdd]
    split
    ·rename_i s' hs'
     exact absurd hs' (hx s')
    ·exact h
 cases hx:qjw body s with
 | some r=>exact ((key r).1 hx).symm
 | none =>
   cases hy:(match body s with | some (.normal,s')=>qjw body s' | r=>r) with
   | none=>rfl
   | some r=>rw[(key r).2 hy] at hx;cases hx
noncomputable def qaT (pure:Nat→Bool) (call:CallT):ACode→St→Option (AExit × St)
 | .skip,s=>some (.normal,s)
 | .ops l,s=>qb0 pure call l s
 | .draw l cs,s=>qga pure call l cs s
 | .kops l,s=>qdH pure call l s
 | .mdraw k l ns,s=>qtq k l ns s
 | .seq a b,s =>
   (match qaT pure call a s with
   | some (.normal,s')=>qaT pure call b s'
   | r=>r)
 | .cond c a b,s=>(match opd s.tm c with | .bool t=>if t then qaT pure call a s else qaT pure call b s | _=>none)
 | .block id c,s =>
   (match qaT pure call c s with
   | some (.exit id',s')=>if id'=id then some (.normal,s') else some (.exit id',s')
   | r=>r)
 | .loop c,s=>qjw (qaT pure call c) s
 | .gloop k c,s=>qjw (fun s1=>qaT pure call c (gc s.h.length k s1)) s
 | .frame k c,s=>(qaT pure call c s).map (gcE s.h.length k)
 | .freeze t c,s=>qaT pure call c (qev t s)
 | .view c,s=>qaT pure call c (qnE s)
 | .range k b c,s=>qjJ (qb0 pure call) k (qaT pure call b) (qaT pure call c) s
 | .exit id,s=>some (.exit id,s)
 | .ret,s=>some (.ret,s)
 | .stuck,_=>none
theorem ql8 {pure:Nat→Bool} {c1 c2:CallT} (hc:∀ f a h,Le (c1 f a h) (c2 f a h)) (n:Nat):∀ (c:ACode) (s:St),Le (qaH pure c1 n c s) (qaT pure c2 c s):=by
 intro c
 induction c with
 | skip=>intro s;exact Le.refl _
 | ops l=>intro s;exact qdW hc l s
 | draw l cs=>intro s;exact qkn hc l cs s
 | kops l=>intro s;exact qhh hc l s
 | mdraw k l ns=>intro s;exact Le.refl _
 | seq a b iha ihb =>
   intro s r hr
   rw[qaH] at hr
   rw[qaT]
   cases hx:qaH pure c1 n a s with
   | none=>rw[hx] at hr;cases hr
   | some x =>
     rw[iha s x hx]
     rw[hx] at hr
     obtain⟨e,s'⟩:=x
     cases e with
     | normal=>exact ihb _ r hr
     | _=>exact hr
 | cond c a b iha ihb =>
   intro s r hr
   rw[qaH] at hr
   rw[qaT]
   split
   ·rename_i t ht
    rw[ht] at hr
    cases t with
    | true=>exact iha s r hr
    | false=>exact ihb s r hr
   ·rename_i ht
    split at hr
    ·rename_i t ht'
     exact absurd ht' (ht t)
    ·cases hr
 | block id c ih =>
   intro s r hr
   rw[qaH] at hr
   rw[qaT]
   cases hx:qaH pure c1 n c s with
   | none=>rw[hx] at hr;cases hr
   | some x=>rw[ih s x hx];rw[hx] at hr;exact hr
 | loop c ih=>intro s;exact (qd5 ih (Nat.le_refl n) s).trans (qgr _ _ _)
 | gloop k c ih=>intro s;exact (qd5 (fun s1=>ih _) (Nat.le_refl n) s).trans (qgr _ _ _)
 | freeze t c ih=>intro s;exact ih _
 | view c ih=>intro s;exact ih _
 | range k b c ihb ihc=>intro s;exact qjK (fun l s=>qdW hc l s) ihb ihc k s
 | frame k c ih =>
   intro s r hr
   rw[qaH] at hr
   rw[qaT]
   obtain⟨x,hx,rfl⟩:=Option.map_eq_some_iff.1 hr
   rw[ih s x hx]
   rfl
 | exit id=>intro s;exact Le.refl _
 | ret=>intro s;exact Le.refl _
 | stuck=>intro s;exact Le.refl _
section
variable {pure:Nat→Bool} {L:Lib}
theorem qhm {f:Nat} {a:List AVal} {h:Heap} {r:ARes × Heap} (hr:qcw pure (call L) f a h=some r):∃ n,qcw pure (qbJ L n) f a h=some r:=by
 unfold qcw at hr
 split at hr
 ·rename_i hp
  cases hx:call L f (a.map wipe) [] with
  | none=>rw[hx] at hr;cases hr
  | some x =>
    rw[hx] at hr
    obtain⟨n,hn⟩:=qc4.1 hx
    refine⟨n,?_⟩
    unfold qcw
    rw[if_pos hp,hn]
    exact hr
 ·rename_i hp
  unfold qki at hr
  split at hr
  ·rename_i hq
   cases hx:call L f (a.map (ren fun i=>qav i (qbs a h) 0)) (qct (qbs a h) h) with
   | none=>rw[hx] at hr;cases hr
   | some x =>
     rw[hx] at hr
     obtain⟨n,hn⟩:=qc4.1 hx
     refine⟨n,?_⟩
     unfold qcw qki
     rw[if_neg hp,if_pos hq,hn]
     exact hr
  ·cases hr
theorem qlf {o:AOp} {tm:Tmps} {h:Heap} {r:ARes × Heap} (hr:aOp pure (call L) o tm h=some r):∃ n,aOp pure (qbJ L n) o tm h=some r:=by
 cases o with
 | vcall f args =>
   simp only[aOp] at hr ⊢
   unfold qhG at hr
   split at hr
   ·rename_i hp
    cases hx:call L f ((args.map (opd tm)).map (lookV h)) [] with
    | none=>rw[hx] at hr;cases hr
    | some x =>
      rw[hx] at hr
      obtain⟨n,hn⟩:=qc4.1 hx
      refine⟨n,?_⟩
      unfold qhG
      rw[if_pos hp,hn]
      exact hr
   ·cases hr
 | hcall f args =>
   simp only[aOp] at hr ⊢
   split at hr
   ·rename_i hf
    exact qc4.1 hr
   ·cases hr
 | call f args =>
   simp only[aOp] at hr ⊢
   split at hr
   ·rename_i hf
    exact qhm hr
   ·cases hr
 | pcallV f args =>
   simp only[aOp] at hr ⊢
   split at hr
   ·rename_i hf
    unfold qjI at hr
    split at hr
    ·rename_i hc'
     unfold qar at hr
     split at hr
     ·rename_i v h' hd
      obtain⟨n,hn⟩:=qhm hd
      refine⟨n,?_⟩
      unfold qjI
      rw[if_pos hc',hn]
      exact hr
     ·cases hr
    ·cases hr
   ·cases hr
 | pcall f args =>
   simp only[aOp] at hr ⊢
   split at hr
   ·rename_i hc'
    unfold qar at hr
    split at hr
    ·rename_i v h' hd
     obtain⟨n,hn⟩:=qhm hd
     refine⟨n,?_⟩
     rw[if_pos hc',hn]
     exact hr
    ·cases hr
   ·cases hr
 | _=>exact⟨0,hr⟩
theorem qgx:∀ (l:List Step) {s:St} {r:AExit × St},qb0 pure (call L) l s=some r→∃ n,qb0 pure (qbJ L n) l s=some r:=by
 intro l
 induction l with
 | nil=>intro s r hr;exact⟨0,hr⟩
 | cons o rest ih =>
   intro s r hr
   rw[qb0] at hr
   split at hr
   ·rename_i hw
    cases hx:aOp pure (call L) o.op s.tm s.h with
    | none=>rw[hx] at hr;cases hr
    | some x =>
      rw[hx] at hr
      obtain⟨n,hn⟩:=qlf hx
      obtain⟨v,h⟩:=x
      cases v with
      | val v =>
        obtain⟨m,hm⟩:=ih hr
        refine⟨max n m,?_⟩
        rw[qb0,hw]
        dsimp only
        rw[qfn (qcb L (Nat.le_max_left n m)) _ _ _ _ hn]
        exact qdW (qcb L (Nat.le_max_right n m)) _ _ _ hm
      | panic v =>
        refine⟨n,?_⟩
        rw[qb0,hw]
        dsimp only
        rw[hn]
        exact hr
   ·rename_i hw
    obtain⟨m,hm⟩:=ih hr
    exact⟨m,by rw[qb0,hw];exact hm⟩
   ·cases hr
theorem qtr {o:AOp} {tm:Tmps} {h:Heap} {r:ARes × Heap} (hr:qih pure (call L) o tm h=some r):∃ n,qih pure (qbJ L n) o tm h=some r:=by
 cases o with
 | pcall f args =>
   simp only[qih] at hr ⊢
   unfold qmJ at hr
   split at hr
   ·rename_i hp
    cases hx:call L f ((args.map (opd tm)).map wipe) [] with
    | none=>rw[hx] at hr;cases hr
    | some x =>
      rw[hx] at hr
      obtain⟨n,hn⟩:=qc4.1 hx
      refine⟨n,?_⟩
      unfold qmJ
      rw[if_pos hp,hn]
      exact hr
   ·cases hr
 | append sz bytes x y =>
   simp only[qih] at hr ⊢
   split at hr
   ·rename_i hq
    refine⟨0,?_⟩
    rw[if_pos hq]
    exact hr
   ·rename_i hq
    obtain⟨n,hn⟩:=qlf hr
    refine⟨n,?_⟩
    rw[if_neg hq]
    exact hn
 | _=>simp only[qih] at hr ⊢;exact qlf hr
theorem qqY:∀ (l:List Step) {s:St} {r:AExit × St},qdH pure (call L) l s=some r→∃ n,qdH pure (qbJ L n) l s=some r:=by
 intro l
 induction l with
 | nil=>intro s r hr;exact⟨0,hr⟩
 | cons o rest ih =>
   intro s r hr
   rw[qdH] at hr
   split at hr
   ·rename_i hw
    cases hx:qih pure (call L) o.op s.tm s.h with
    | none=>rw[hx] at hr;cases hr
    | some x =>
      rw[hx] at hr
      obtain⟨n,hn⟩:=qtr hx
      obtain⟨v,h⟩:=x
      cases v with
      | val v =>
        obtain⟨m,hm⟩:=ih hr
        refine⟨max n m,?_⟩
        rw[qdH,hw]
        dsimp only
        rw[qma (qcb L (Nat.le_max_left n m)) _ _ _ _ hn]
        exact qhh (qcb L (Nat.le_max_right n m)) _ _ _ hm
      | panic v =>
        refine⟨n,?_⟩
        rw[qdH,hw]
        dsimp only
        rw[hn]
        exact hr
   ·rename_i hw
    obtain⟨m,hm⟩:=ih hr
    exact⟨m,by rw[qdH,hw];exact hm⟩
   ·cases hr
theorem qqX:∀ (l:List Step) {tm:Tmps} {hs:List Heap} {h:Heap} {r:Tmps × List Heap × Heap},qcO pure (call L) l tm hs h=some r→∃ n,qcO pure (qbJ L n) l tm hs h=some r:=by
 intro l
 induction l with
 | nil=>intro tm hs h r hr;exact⟨0,hr⟩
 | cons o rest ih =>
   intro tm hs h r hr
   rw[qcO] at hr
   split at hr
   ·rename_i hw
    cases hx:aOp pure (call L) o.op tm h with
    | none=>rw[hx] at hr;cases hr
    | some x =>
      rw[hx] at hr
      obtain⟨n,hn⟩:=qlf hx
      obtain⟨v,h'⟩:=x
      cases v with
      | val v =>
        obtain⟨m,hm⟩:=ih hr
        refine⟨max n m,?_⟩
        rw[qcO,hw]
        dsimp only
        rw[qfn (qcb L (Nat.le_max_left n m)) _ _ _ _ hn]
        exact qko (qcb L (Nat.le_max_right n m)) _ _ _ _ _ hm
      | panic v=>cases hr
   ·rename_i hw
    obtain⟨m,hm⟩:=ih hr
    exact⟨m,by rw[qcO,hw];exact hm⟩
   ·cases hr
theorem qpv (c:ACode) (g:St→St) (ih:∀ {s:St} {r:AExit × St},qaT pure (call L) c s=some r→∃ n,qaH pure (qbJ L n) n c s=some r) {r:AExit × St} :
  ∀ k s,qdd (fun s1=>qaT pure (call L) c (g s1)) k s=some r→∃ n,qdd (fun s1=>qaH pure (qbJ L n) n c (g s1)) n s=some r:=by
 intro k
 induction k with
 | zero=>intro s h;cases h
 | succ k ihk =>
   intro s h
   rw[qdd] at h
   cases hx:qaT pure (call L) c (g s) with
   | none=>rw[hx] at h;cases h
   | some x =>
     rw[hx] at h
     obtain⟨n,hn⟩:=ih hx
     obtain⟨e,s'⟩:=x
     cases e with
     | normal =>
       obtain⟨m,hm⟩:=ihk s' h
       refine⟨max n m+1,?_⟩
       rw[qdd,qcl (qcb L (Nat.le_trans (Nat.le_max_left n m) (Nat.le_succ _))) (Nat.le_trans (Nat.le_max_left n m) (Nat.le_succ _)) _ _ _ hn]
       exact qd5 (fun s=>qcl (qcb L (Nat.le_trans (Nat.le_max_right n m) (Nat.le_succ _))) (Nat.le_trans (Nat.le_max_right n m) (Nat.le_succ _)) _ _) (Nat.le_max_right n m) _ _ hm
     | _ =>
       refine⟨n+1,?_⟩
       rw[qdd,qcl (qcb L (Nat.le_succ n)) (Nat.le_succ n) _ _ _ hn]
       exact h
def qk0 (x:AVal × AVal):List (AVal × AVal)→List (List (AVal × AVal))
 | []=>[[x]]
 | y::ys=>(x::y::ys)::(qk0 x ys).map (y::·)
def qeU:List (AVal × AVal)→List (List (AVal × AVal))
 | []=>[[]]
 | x::xs=>(qeU xs).flatMap (qk0 x)
theorem qkQ (x:AVal × AVal):∀ l r:List (AVal × AVal),l++x::r∈qk0 x (l++r)
 | [],[]=>by simp[qk0]
 | [],y::ys=>by simp[qk0]
 | y :: l,r => by
   simp only[List.cons_append,qk0,List.mem_cons,List.mem_map]
   exact .inr ⟨_,qkQ x l r,rfl⟩
theorem qg8:∀ (es es':List (AVal × AVal)),es'.Perm es→es'∈qeU es
 | [],es',h=>by rw[h.eq_nil];simp[qeU]
 | x :: xs,es',h => by
   obtain⟨l,r,rfl⟩:=List.append_of_mem (h.mem_iff.2 (List.mem_cons_self ..))
   have h1:(l++r).Perm xs:=by
    have:=(List.perm_middle (a:=x) (l₁:=l) (l₂:=r)).symm.trans h
    exact this.cons_inv
   simp only[qeU,List.mem_flatMap]
   exact⟨_,qg8 xs _ h1,qkQ x l r⟩
theorem qrE {α:Type} (Q:Nat→α→Prop) (hm:∀ n m a,n≤m→Q n a→Q m a):∀ (l:List α),(∀ a∈l,∃ n,Q n a)→∃ n,∀ a∈l,Q n a
 | [],_=>⟨0,fun a ha=>by cases ha⟩
 | a :: l,h => by
   obtain⟨n,hn⟩:=h a (by simp)
   obtain⟨m,hm'⟩:=qrE Q hm l fun b hb=>h b (by simp[hb])
   refine⟨max n m,fun b hb=>?_⟩
   rcases List.mem_cons.1 hb with rfl | hb
   ·exact hm _ _ _ (Nat.le_max_left n m) hn
   ·exact hm _ _ _ (Nat.le_max_right n m) (hm' b hb)
section
variable {b c:ACode}
theorem qdU {n m:Nat} (h:n≤m) (l:List Step) (s:St):Le (qb0 pure (qbJ L n) l s) (qb0 pure (qbJ L m) l s):=qdW (qcb L h) l s
theorem qdh {n m:Nat} (h:n≤m) (s:St):Le (qaH pure (qbJ L n) n b s) (qaH pure (qbJ L m) m b s):=qcl (qcb L h) h b s
theorem qkj (hb:∀ {s:St} {r:AExit × St},qaT pure (call L) b s=some r→∃ n,qaH pure (qbJ L n) n b s=some r) (i:Nat) (k:RangeK) (e:AVal × AVal) {s:St} {r:AExit × St}
  (hr:qba (qb0 pure (call L)) i k (qaT pure (call L) b) e s=some r):∃ n,qba (qb0 pure (qbJ L n)) i k (qaH pure (qbJ L n) n b) e s=some r:=by
 unfold qba at hr
 split at hr
 case isFalse=>cases hr
 rename_i g0
 cases hx:qb0 pure (call L) k.r1 ⟨upd s.tm (some k.dn) (.tuple [.bool true,e.1,e.2]),s.h⟩ with
 | none=>rw[hx] at hr;cases hr
 | some x =>
   rw[hx] at hr
   obtain⟨n1,hn1⟩:=qgx _ hx
   obtain⟨q,s1⟩:=x
   cases q with
   | normal =>
     dsimp only at hr
     split at hr
     case isFalse=>cases hr
     rename_i g1
     split at hr
     ·rename_i hq
      unfold qjT at hr
      cases hy:qb0 pure (call L) k.r2 ⟨upd s1.tm k.de (.tuple [e.1,e.2]),s1.h⟩ with
      | none=>rw[hy] at hr;cases hr
      | some y =>
        rw[hy] at hr
        obtain⟨n2,hn2⟩:=qgx _ hy
        obtain⟨q2,s2⟩:=y
        cases q2 with
        | normal =>
          dsimp only at hr
          cases hz:qaT pure (call L) b s2 with
          | none=>rw[hz] at hr;cases hr
          | some z =>
            obtain⟨n3,hn3⟩:=hb hz
            rw[hz] at hr
            refine⟨max n1 (max n2 n3),?_⟩
            unfold qba qjT
            rw[if_pos g0,qdU (Nat.le_max_left _ _) _ _ _ hn1]
            dsimp only
            rw[if_pos g1,hq]
            dsimp only
            rw[qdU (Nat.le_trans (Nat.le_max_left n2 n3) (Nat.le_max_right _ _)) _ _ _ hn2]
            dsimp only
            rw[qdh (Nat.le_trans (Nat.le_max_right n2 n3) (Nat.le_max_right _ _)) _ _ hn3]
            exact hr
        | _ =>
          refine⟨max n1 n2,?_⟩
          unfold qba qjT
          rw[if_pos g0,qdU (Nat.le_max_left _ _) _ _ _ hn1]
          dsimp only
          rw[if_pos g1,hq]
          dsimp only
          rw[qdU (Nat.le_max_right _ _) _ _ _ hn2]
          exact hr
     ·cases hr
   | _=>cases hr
theorem qne (i:Nat) (k:RangeK) {s:St} {r:AExit × St} (hr:qbA (qb0 pure (call L)) i k s=some r):∃ n,qbA (qb0 pure (qbJ L n)) i k s=some r:=by
 unfold qbA at hr
 split at hr
 case isFalse=>cases hr
 rename_i g0
 cases hx:qb0 pure (call L) k.r1 ⟨upd s.tm (some k.dn) (.tuple [.bool false]),s.h⟩ with
 | none=>rw[hx] at hr;cases hr
 | some x =>
   rw[hx] at hr
   obtain⟨n1,hn1⟩:=qgx _ hx
   exact⟨n1,by unfold qbA;rw[if_pos g0,hn1];exact hr⟩
theorem qh3 (hb:∀ {s:St} {r:AExit × St},qaT pure (call L) b s=some r→∃ n,qaH pure (qbJ L n) n b s=some r) (i:Nat) (k:RangeK):∀ (es:List (AVal × AVal)) {s:St} {r:AExit × St},
  qbb (qb0 pure (call L)) i k (qaT pure (call L) b) es s=some r→∃ n,qbb (qb0 pure (qbJ L n)) i k (qaH pure (qbJ L n) n b) es s=some r
 | [],s,r,hr=>qne i k hr
 | e :: es,s,r,hr => by
   rw[qbb] at hr
   cases hx:qba (qb0 pure (call L)) i k (qaT pure (call L) b) e (gc (i+1) k.kr s) with
   | none=>rw[hx] at hr;cases hr
   | some x =>
     rw[hx] at hr
     obtain⟨n,hn⟩:=qkj hb i k e hx
     obtain⟨q,s1⟩:=x
     cases q with
     | normal =>
       obtain⟨m,hm⟩:=qh3 hb i k es hr
       refine⟨max n m,?_⟩
       rw[qbb,qfd (fun l s=>qdU (Nat.le_max_left n m) l s) (fun s=>qdh (Nat.le_max_left n m) s) i k e _ _ hn]
       exact qdo (fun l s=>qdU (Nat.le_max_right n m) l s) (fun s=>qdh (Nat.le_max_right n m) s) i k es _ _ hm
     | _=>exact⟨n,by rw[qbb,hn];exact hr⟩
theorem qnf (hb:∀ {s:St} {r:AExit × St},qaT pure (call L) b s=some r→∃ n,qaH pure (qbJ L n) n b s=some r) (hc:∀ {s:St} {r:AExit × St},qaT pure (call L) c s=some r→∃ n,qaH pure (qbJ L n) n c s=some r)
  (k:RangeK) (s s1:St) (es:List (AVal × AVal)) {r:AExit × St} (hr:qcg (qb0 pure (call L)) k (qaT pure (call L) b) (qaT pure (call L) c) s s1 es=some r) :
  ∃ n,qcg (qb0 pure (qbJ L n)) k (qaH pure (qbJ L n) n b) (qaH pure (qbJ L n) n c) s s1 es=some r:=by
 unfold qcg at hr
 obtain⟨x,hx,rfl⟩:=Option.map_eq_some_iff.1 hr
 cases hy:qbb (qb0 pure (call L)) s1.h.length k (qaT pure (call L) b) es ⟨upd s1.tm (some k.it) (.ptr (some (s1.h.length,0))),qke (opd s1.tm k.m) s1.h⟩ with
 | none=>rw[hy] at hx;cases hx
 | some y =>
   rw[hy] at hx
   obtain⟨n,hn⟩:=qh3 hb _ k es hy
   obtain⟨q,s2⟩:=y
   cases q with
   | normal =>
     obtain⟨m,hm⟩:=hc hx
     refine⟨max n m,?_⟩
     unfold qcg
     rw[qdo (fun l s=>qdU (Nat.le_max_left n m) l s) (fun s=>qdh (Nat.le_max_left n m) s) _ k es _ _ hn]
     dsimp only
     rw[qdh (Nat.le_max_right n m) _ _ hm]
     rfl
   | _ =>
     refine⟨n,?_⟩
     unfold qcg
     rw[hn]
     dsimp only at hx ⊢
     rw[hx]
     rfl
end
theorem qqV:∀ (c:ACode) {s:St} {r:AExit × St},qaT pure (call L) c s=some r→∃ n,qaH pure (qbJ L n) n c s=some r:=by
 intro c
 induction c with
 | skip=>intro s r hr;exact⟨0,hr⟩
 | ops l=>intro s r hr;exact qgx l hr
 | kops l=>intro s r hr;exact qqY l hr
 | mdraw k l ns=>intro s r hr;exact⟨0,hr⟩
 | draw l cs =>
   intro s r hr
   rw[qaT] at hr
   unfold qga at hr
   cases hx:qcO pure (call L) l s.tm [] s.h with
   | none=>rw[hx] at hr;cases hr
   | some x =>
     rw[hx] at hr
     obtain⟨n,hn⟩:=qqX l hx
     exact⟨n,by rw[qaH];unfold qga;rw[hn];exact hr⟩
 | seq a b iha ihb =>
   intro s r hr
   rw[qaT] at hr
   cases hx:qaT pure (call L) a s with
   | none=>rw[hx] at hr;cases hr
   | some x =>
     rw[hx] at hr
     obtain⟨n,hn⟩:=iha hx
     obtain⟨e,s'⟩:=x
     cases e with
     | normal =>
       obtain⟨m,hm⟩:=ihb hr
       refine⟨max n m,?_⟩
       rw[qaH,qcl (qcb L (Nat.le_max_left n m)) (Nat.le_max_left n m) _ _ _ hn]
       exact qcl (qcb L (Nat.le_max_right n m)) (Nat.le_max_right n m) _ _ _ hm
     | _=>exact⟨n,by rw[qaH,hn];exact hr⟩
 | cond c a b iha ihb =>
   intro s r hr
   rw[qaT] at hr
   split at hr
   ·rename_i t ht
    cases t with
    | true =>
      obtain⟨n,hn⟩:=iha hr
      exact⟨n,by rw[qaH,ht];exact hn⟩
    | false =>
      obtain⟨n,hn⟩:=ihb hr
      exact⟨n,by rw[qaH,ht];exact hn⟩
   ·cases hr
 | block id c ih =>
   intro s r hr
   rw[qaT] at hr
   cases hx:qaT pure (call L) c s with
   | none=>rw[hx] at hr;cases hr
   | some x =>
     rw[hx] at hr
     obtain⟨n,hn⟩:=ih hx
     exact⟨n,by rw[qaH,hn];exact hr⟩
 | loop c ih =>
   intro s r hr
   rw[qaT] at hr
   obtain⟨k,hk⟩:=qcS.1 hr
   obtain⟨n,hn⟩:=qpv c (fun s=>s) (fun hx=>ih hx) k s hk
   exact⟨n,by rw[qaH];exact hn⟩
 | gloop kp c ih =>
   intro s r hr
   rw[qaT] at hr
   obtain⟨k,hk⟩:=qcS.1 hr
   obtain⟨n,hn⟩:=qpv c (fun s1=>gc s.h.length kp s1) (fun hx=>ih hx) k s hk
   exact⟨n,by rw[qaH];exact hn⟩
 | view c ih =>
   intro s r hr
   obtain⟨n,hn⟩:=ih hr
   exact⟨n,hn⟩
 | freeze t c ih =>
   intro s r hr
   obtain⟨n,hn⟩:=ih hr
   exact⟨n,hn⟩
 | range k b c ihb ihc =>
   intro s r hr
   rw[qaT,qeb] at hr
   cases hx:qb0 pure (call L) k.pre s with
   | none=>rw[hx] at hr;cases hr
   | some x =>
     rw[hx] at hr
     obtain⟨n,hn⟩:=qgx _ hx
     obtain⟨q,s1⟩:=x
     cases q with
     | normal =>
       dsimp only at hr
       split at hr
       ·rename_i es hes
        have h1:=(qcm (qbF _ _)).1 hr
        obtain⟨m,hm⟩:=qrE (fun n es'=>qb9 k.str es es'→qcg (qb0 pure (qbJ L n)) k (qaH pure (qbJ L n) n b) (qaH pure (qbJ L n) n c) s s1 es'=some r)
         (fun n m a hnm h ho=>qeC (fun l s=>qdU hnm l s) (fun s=>qdh hnm s) (fun s=>qdh hnm s) k s s1 a r (h ho)) (es::qeU es)
         (fun a _=>by
          by_cases ho:qb9 k.str es a
          ·obtain⟨n,hn⟩:=qnf ihb ihc k s s1 a (h1 a ho)
           exact⟨n,fun _=>hn⟩
          ·exact⟨0,fun h=>absurd h ho⟩)
        refine⟨max n m,?_⟩
        rw[qaH,qeb,qdU (Nat.le_max_left n m) _ _ _ hn]
        dsimp only
        rw[hes]
        dsimp only
        refine (qcm (qbF _ _)).2 fun es' he=>?_
        refine qeC (fun l s=>qdU (Nat.le_max_right n m) l s) (fun s=>qdh (Nat.le_max_right n m) s) (fun s=>qdh (Nat.le_max_right n m) s) k s s1 es' r (hm es' ?_ he)
        unfold qb9 at he
        split at he
        ·rw[he];simp
        ·exact List.mem_cons_of_mem _ (qg8 es es' he)
       ·cases hr
     | _=>cases hr
 | frame kp c ih =>
   intro s r hr
   rw[qaT] at hr
   obtain⟨x,hx,rfl⟩:=Option.map_eq_some_iff.1 hr
   obtain⟨n,hn⟩:=ih hx
   exact⟨n,by rw[qaH,hn];rfl⟩
 | exit id=>intro s r hr;exact⟨0,hr⟩
 | ret=>intro s r hr;exact⟨0,hr⟩
 | stuck=>intro s r hr;exact⟨0,hr⟩
end
theorem qaA {L:Lib} {f:Nat} {fn:AFn} (hs:L.summ f=none) (hf:L.fns f=some fn) {a:List AVal} {h:Heap} {r:ARes × Heap}
  (hr:qan fn.results (qaT L.pure (call L) fn.body ⟨qdA a,h⟩)=some r):call L f a h=some r:=by
 cases hx:qaT L.pure (call L) fn.body ⟨qdA a,h⟩ with
 | none=>rw[hx] at hr;cases hr
 | some x =>
   rw[hx] at hr
   obtain⟨n,hn⟩:=qqV _ hx
   refine qc4.2 ⟨n+1,?_⟩
   rw[qbJ,hs]
   dsimp only
   rw[hf]
   dsimp only
   rw[hn]
   exact hr
theorem qeY {L:Lib} {f:Nat} {s:List AVal→Heap→Option (ARes × Heap)} (hs:L.summ f=some s) {a:List AVal} {h:Heap} {r:ARes × Heap} (hr:s a h=some r):call L f a h=some r :=
 qc4.2 ⟨1,by rw[qbJ,hs];exact hr⟩
end Go.Abs
