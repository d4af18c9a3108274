/-
  The abstract machine without bounds: calls and loops as limits of the bounded ones; each is what its body says.
-/
import Derived.Test.YtpchghpipgpkfaaDoorAbsA
set_option linter.unusedVariables false
namespace Go.Abs
def Le {α:Type} (x y:Option α):Prop:=∀ r,x=some r→y=some r
theorem Le.refl {α:Type} (x:Option α):Le x x:=fun _ h=>h
theorem Le.trans {α:Type} {x y z:Option α} (h:Le x y) (h':Le y z):Le x z:=fun r e=>h' r (h r e)
theorem Le.none {α:Type} (y:Option α):Le (Option.none:Option α) y:=fun _ h=>by cases h
open Classical in
noncomputable def lim {α:Type} (f:Nat→Option α):Option α:=if h:∃ n,(f n).isSome=true then f (Classical.choose h) else none
theorem qnO {α:Type} {f:Nat→Option α} (hm:∀ n,Le (f n) (f (n+1))):∀ {a b:Nat},a≤b→Le (f a) (f b):=by
 intro a b hab
 induction hab with
 | refl=>exact Le.refl _
 | step _ ih=>exact ih.trans (hm _)
theorem qrW {α:Type} {f:Nat→Option α} (hm:∀ n,Le (f n) (f (n+1))) {r:α}:lim f=some r↔∃ n,f n=some r:=by
 constructor
 ·intro h
  unfold lim at h
  split at h
  ·exact⟨_,h⟩
  ·cases h
 ·rintro ⟨n,hn⟩
  have hx:∃ n,(f n).isSome=true:=⟨n,by rw[hn];rfl⟩
  unfold lim
  rw[dif_pos hx]
  have h1:=Classical.choose_spec hx
  obtain⟨r',hr'⟩:=Option.isSome_iff_exists.1 h1
  rw[hr']
  have a:=qnO hm (Nat.le_max_left n (Classical.choose hx)) r hn
  have b:=qnO hm (Nat.le_max_right n (Classical.choose hx)) r' hr'
  rw[a] at b
  injection b with b
  rw[b]
theorem qmN (body:St→Option (AExit × St)):∀ n s,Le (qdZ body n s) (qdZ body (n+1) s):=by
 intro n
 induction n with
 | zero=>intro s r h;cases h
 | succ n ih =>
   intro s r h
   rw[qdZ] at h ⊢
   split
   ·rename_i s' hb
    rw[hb] at h
    exact ih s' r h
   ·rename_i r' hr'
    split at h
    ·rename_i s' hs'
     exact absurd hs' (hr' s')
    ·exact h
theorem qfb {b1 b2:St→Option (AExit × St)} (hb:∀ s,Le (b1 s) (b2 s)):∀ {n m:Nat},n≤m→∀ s,Le (qdZ b1 n s) (qdZ b2 m s):=by
 intro n m hnm s
 refine Le.trans ?_ (qnO (f:=fun k=>qdZ b2 k s) (fun k=>qmN b2 k s) hnm)
 clear hnm
 induction n generalizing s with
 | zero=>intro r h;cases h
 | succ n ih =>
   intro r h
   rw[qdZ] at h ⊢
   cases hx:b1 s with
   | none=>rw[hx] at h;cases h
   | some x =>
     rw[hb s x hx]
     rw[hx] at h
     obtain⟨e,s'⟩:=x
     cases e with
     | normal=>exact ih s' r h
     | _=>exact h
section
variable {pure:Nat→Bool} {c1 c2:CallT}
theorem qte (hc:∀ f a h,Le (c1 f a h) (c2 f a h)) (f:Nat) (a:List AVal) (h:Heap):Le (qmd c1 f a h) (qmd c2 f a h):=by
 intro r hr
 unfold qmd at hr ⊢
 split
 ·rename_i hp
  rw[if_pos hp] at hr
  cases hx:c1 f (a.map (ren fun i=>qaC i (qbP a h) 0)) (qc5 (qbP a h) h) with
  | none=>rw[hx] at hr;cases hr
  | some x=>rw[hc _ _ _ x hx];rw[hx] at hr;exact hr
 ·rename_i hp
  rw[if_neg hp] at hr
  cases hr
theorem qhG (hc:∀ f a h,Le (c1 f a h) (c2 f a h)) (f:Nat) (a:List AVal) (h:Heap):Le (qc8 pure c1 f a h) (qc8 pure c2 f a h):=by
 intro r hr
 unfold qc8 at hr ⊢
 split
 ·rename_i hp
  rw[if_pos hp] at hr
  cases hx:c1 f (a.map wipe) [] with
  | none=>rw[hx] at hr;cases hr
  | some x=>rw[hc _ _ _ x hx];rw[hx] at hr;exact hr
 ·rename_i hp
  rw[if_neg hp] at hr
  exact qte hc _ _ _ _ hr
theorem qtc (hc:∀ f a h,Le (c1 f a h) (c2 f a h)) (g:Nat) (xs:List AVal) (h:Heap):Le (qlw pure c1 g xs h) (qlw pure c2 g xs h):=by
 intro r hr
 unfold qlw at hr ⊢
 split
 ·rename_i hc'
  rw[if_pos hc'] at hr
  unfold qaw at hr ⊢
  split at hr
  ·rename_i v h' hd
   rw[qhG hc _ _ _ _ hd]
   exact hr
  ·cases hr
 ·rename_i hc'
  rw[if_neg hc'] at hr
  cases hr
theorem qtw (hc:∀ f a h,Le (c1 f a h) (c2 f a h)) (f:Nat) (a:List AVal) (h:Heap):Le (qgI c1 f a h) (qgI c2 f a h):=by
 intro r hr
 unfold qgI at hr ⊢
 split
 ·rename_i hp
  rw[if_pos hp] at hr
  cases hx:c1 f (a.map (lookV h)) [] with
  | none=>rw[hx] at hr;cases hr
  | some x=>rw[hc _ _ _ x hx];rw[hx] at hr;exact hr
 ·rename_i hp
  rw[if_neg hp] at hr
  cases hr
theorem qgJ (hc:∀ f a h,Le (c1 f a h) (c2 f a h)) (o:AOp) (tm:Tmps) (h:Heap):Le (aOp pure c1 o tm h) (aOp pure c2 o tm h):=by
 intro r hr
 cases o with
 | vcall f args=>exact qtw hc _ _ _ _ hr
 | hcall f args =>
   simp only[aOp] at hr ⊢
   split
   ·rename_i hf
    rw[hf] at hr
    exact hc _ _ _ _ hr
   ·rename_i hf
    split at hr
    ·rename_i hf'
     exact absurd hf' (hf _ _ _)
    ·cases hr
 | call f args =>
   simp only[aOp] at hr ⊢
   split
   ·rename_i hf
    rw[hf] at hr
    exact qhG hc _ _ _ _ hr
   ·rename_i hf
    split at hr
    ·rename_i hf'
     exact absurd hf' (hf _ _ _)
    ·cases hr
 | pcallV f args =>
   simp only[aOp] at hr ⊢
   split
   ·rename_i hf
    rw[hf] at hr
    exact qtc hc _ _ _ _ hr
   ·rename_i hf
    split at hr
    ·rename_i hf'
     exact absurd hf' (hf _ _ _)
    ·cases hr
 | pcall f args =>
   simp only[aOp] at hr ⊢
   split
   ·rename_i hc'
    rw[if_pos hc'] at hr
    unfold qaw at hr ⊢
    split at hr
    ·rename_i v h' hd
     rw[qhG hc _ _ _ _ hd]
     exact hr
    ·cases hr
   ·rename_i hc'
    rw[if_neg hc'] at hr
    cases hr
 | _=>exact hr
theorem qeV (hc:∀ f a h,Le (c1 f a h) (c2 f a h)):∀ (l:List Step) (s:St),Le (qcq pure c1 l s) (qcq pure c2 l s):=by
 intro l
 induction l with
 | nil=>intro s;exact Le.refl _
 | cons o rest ih =>
   intro s r hr
   rw[qcq] at hr ⊢
   split
   ·rename_i hw
    rw[hw] at hr
    dsimp only at hr
    cases hx:aOp pure c1 o.op s.tm s.h with
    | none=>rw[hx] at hr;cases hr
    | some x =>
      rw[qgJ hc _ _ _ x hx]
      rw[hx] at hr
      obtain⟨v,h⟩:=x
      cases v with
      | val v=>exact ih _ r hr
      | panic v=>exact hr
   ·rename_i hw
    rw[hw] at hr
    exact ih _ r hr
   ·rename_i hw
    rw[hw] at hr
    cases hr
theorem qsX (hc:∀ f a h,Le (c1 f a h) (c2 f a h)) (f:Nat) (a:List AVal) (h:Heap):Le (qoY c1 f a h) (qoY c2 f a h):=by
 intro r hr
 unfold qoY at hr ⊢
 split
 ·rename_i hp
  rw[if_pos hp] at hr
  cases hx:c1 f (a.map wipe) [] with
  | none=>rw[hx] at hr;cases hr
  | some x=>rw[hc _ _ _ x hx];rw[hx] at hr;exact hr
 ·rename_i hp
  rw[if_neg hp] at hr
  cases hr
theorem qol (hc:∀ f a h,Le (c1 f a h) (c2 f a h)) (o:AOp) (tm:Tmps) (h:Heap):Le (qjV pure c1 o tm h) (qjV pure c2 o tm h):=by
 intro r hr
 cases o with
 | pcall f args=>exact qsX hc _ _ _ _ hr
 | append sz bytes x y =>
   simp only[qjV] at hr ⊢
   split
   ·rename_i hq
    rw[if_pos hq] at hr
    exact hr
   ·rename_i hq
    rw[if_neg hq] at hr
    exact qgJ hc _ tm h r hr
 | _=>simp only[qjV] at hr ⊢;exact qgJ hc _ tm h r hr
theorem qiQ (hc:∀ f a h,Le (c1 f a h) (c2 f a h)):∀ (l:List Step) (s:St),Le (qeE pure c1 l s) (qeE pure c2 l s):=by
 intro l
 induction l with
 | nil=>intro s;exact Le.refl _
 | cons o rest ih =>
   intro s r hr
   rw[qeE] at hr ⊢
   split
   ·rename_i hw
    rw[hw] at hr
    dsimp only at hr
    cases hx:qjV pure c1 o.op s.tm s.h with
    | none=>rw[hx] at hr;cases hr
    | some x =>
      rw[qol hc _ _ _ x hx]
      rw[hx] at hr
      obtain⟨v,h⟩:=x
      cases v with
      | val v=>exact ih _ r hr
      | panic v=>exact hr
   ·rename_i hw
    rw[hw] at hr
    exact ih _ r hr
   ·rename_i hw
    rw[hw] at hr
    cases hr
theorem qml (hc:∀ f a h,Le (c1 f a h) (c2 f a h)):∀ (l:List Step) (tm:Tmps) (hs:List Heap) (h:Heap),Le (qds pure c1 l tm hs h) (qds pure c2 l tm hs h):=by
 intro l
 induction l with
 | nil=>intro tm hs h;exact Le.refl _
 | cons o rest ih =>
   intro tm hs h r hr
   rw[qds] at hr ⊢
   split
   ·rename_i hw
    rw[hw] at hr
    dsimp only at hr
    cases hx:aOp pure c1 o.op tm h with
    | none=>rw[hx] at hr;cases hr
    | some x =>
      rw[qgJ hc _ _ _ x hx]
      rw[hx] at hr
      obtain⟨v,h'⟩:=x
      cases v with
      | val v=>exact ih _ _ _ r hr
      | panic v=>exact hr
   ·rename_i hw
    rw[hw] at hr
    exact ih _ _ _ r hr
   ·rename_i hw
    rw[hw] at hr
    cases hr
section
variable {o1 o2:List Step→St→Option (AExit × St)} {b1 b2 c1' c2':St→Option (AExit × St)}
theorem qou {id:Nat} {x y:Option (AExit × St)} (h:Le x y):Le (qdU id x) (qdU id y):=by
 intro r hr
 cases x with
 | none=>cases hr
 | some x=>rw[h x rfl];exact hr
theorem qgv (ho:∀ l s,Le (o1 l s) (o2 l s)) (hb:∀ s,Le (b1 s) (b2 s)) (n:Nat) (k:RangeK) (e:AVal × AVal) (s:St):Le (qbr o1 n k b1 e s) (qbr o2 n k b2 e s):=by
 intro r hr
 unfold qbr at hr ⊢
 split
 case isFalse h0=>rw[if_neg h0] at hr;cases hr
 rename_i h0
 rw[if_pos h0] at hr
 cases hx:o1 k.r1 ⟨upd s.tm (some k.dn) (.tuple [.bool true,e.1,e.2]),s.h⟩ with
 | none=>rw[hx] at hr;cases hr
 | some x =>
   rw[ho _ _ x hx]
   rw[hx] at hr
   obtain⟨q,s1⟩:=x
   cases q with
   | normal =>
     dsimp only at hr ⊢
     split
     case isFalse h1=>rw[if_neg h1] at hr;cases hr
     rename_i h1
     rw[if_pos h1] at hr
     split
     ·rename_i hq
      rw[hq] at hr
      refine qou (id:=k.id2) ?_ r hr
      intro r2 hr2
      unfold qlN at hr2 ⊢
      cases hy:o1 k.r2 ⟨upd s1.tm k.de (.tuple [e.1,e.2]),s1.h⟩ with
      | none=>rw[hy] at hr2;cases hr2
      | some y =>
        rw[ho _ _ y hy]
        rw[hy] at hr2
        obtain⟨q2,s2⟩:=y
        cases q2 with
        | normal=>exact hb _ r2 hr2
        | _=>exact hr2
     ·rename_i hq
      split at hr
      ·rename_i hq'
       exact absurd hq' hq
      ·cases hr
   | _=>cases hr
theorem qnY (ho:∀ l s,Le (o1 l s) (o2 l s)) (n:Nat) (k:RangeK) (s:St):Le (qb2 o1 n k s) (qb2 o2 n k s):=by
 intro r hr
 unfold qb2 at hr ⊢
 split
 case isFalse h0=>rw[if_neg h0] at hr;cases hr
 rename_i h0
 rw[if_pos h0] at hr
 cases hx:o1 k.r1 ⟨upd s.tm (some k.dn) (.tuple [.bool false]),s.h⟩ with
 | none=>rw[hx] at hr;cases hr
 | some x =>
   rw[ho _ _ x hx]
   rw[hx] at hr
   exact hr
theorem qee (ho:∀ l s,Le (o1 l s) (o2 l s)) (hb:∀ s,Le (b1 s) (b2 s)) (n:Nat) (k:RangeK):∀ (es:List (AVal × AVal)) (s:St),Le (qbs o1 n k b1 es s) (qbs o2 n k b2 es s)
 | [],s=>qnY ho n k _
 | e :: es,s => by
   intro r hr
   rw[qbs] at hr ⊢
   cases hx:qbr o1 n k b1 e (gc (n+1) k.kr s) with
   | none=>rw[hx] at hr;cases hr
   | some x =>
     rw[qgv ho hb n k e _ x hx]
     rw[hx] at hr
     obtain⟨q,s1⟩:=x
     cases q with
     | normal=>exact qee ho hb n k es s1 r hr
     | _=>exact hr
theorem qcZ {O:List (AVal × AVal)→Prop} (hO:∃ es,O es) {f:List (AVal × AVal)→Option (AExit × St)} {r:AExit × St}:qop O f=some r↔∀ es,O es→f es=some r:=by
 constructor
 ·intro h
  unfold qop at h
  split at h
  ·rename_i hx
   injection h with h
   rw[← h]
   exact Classical.choose_spec hx
  ·cases h
 ·intro h
  have hx:∃ r,∀ es,O es→f es=some r:=⟨r,h⟩
  unfold qop
  rw[dif_pos hx]
  obtain⟨es,he⟩:=hO
  have h1:=Classical.choose_spec hx es he
  rw[h es he] at h1
  exact h1.symm
theorem qb7 (str:Bool) (es:List (AVal × AVal)):∃ es',qcC str es es':=⟨es,by unfold qcC;split<;>first | rfl | exact .refl _⟩
def qcN (ops:List Step→St→Option (AExit × St)) (k:RangeK) (runB runC:St→Option (AExit × St)) (s s1:St) (es:List (AVal × AVal)):Option (AExit × St) :=
 (match qbs ops s1.h.length k runB es ⟨upd s1.tm (some k.it) (.ptr (some (s1.h.length,0))),ql9 (opd s1.tm k.m) s1.h⟩ with
  | some (.normal,s2)=>runC ⟨s2.tm,qcG (opd s1.tm k.m) s1.h s2.h⟩
  | some (e,s2)=>some (e,⟨s2.tm,qcG (opd s1.tm k.m) s1.h s2.h⟩)
  | none=>none).map (gcE s.h.length k.keep)
theorem qfi (ops:List Step→St→Option (AExit × St)) (k:RangeK) (runB runC:St→Option (AExit × St)) (s:St):qlx ops k runB runC s=match ops k.pre s with
 | some (.normal,s1) => (match qcR k.str (opd s1.tm k.m) s1.h with
   | some es=>qop (qcC k.str es) (qcN ops k runB runC s s1)
   | none=>none)
 | _=>none:=rfl
theorem qfR (ho:∀ l s,Le (o1 l s) (o2 l s)) (hb:∀ s,Le (b1 s) (b2 s)) (hc:∀ s,Le (c1' s) (c2' s)) (k:RangeK) (s s1:St) (es:List (AVal × AVal)):Le (qcN o1 k b1 c1' s s1 es) (qcN o2 k b2 c2' s s1 es):=by
 intro r hr
 unfold qcN at hr ⊢
 obtain⟨x,hx,rfl⟩:=Option.map_eq_some_iff.1 hr
 refine Option.map_eq_some_iff.2 ⟨x,?_,rfl⟩
 cases hy:qbs o1 s1.h.length k b1 es ⟨upd s1.tm (some k.it) (.ptr (some (s1.h.length,0))),ql9 (opd s1.tm k.m) s1.h⟩ with
 | none=>rw[hy] at hx;cases hx
 | some y =>
   rw[qee ho hb _ k _ _ y hy]
   rw[hy] at hx
   obtain⟨q,s2⟩:=y
   cases q with
   | normal=>exact hc _ x hx
   | _=>exact hx
theorem qly (ho:∀ l s,Le (o1 l s) (o2 l s)) (hb:∀ s,Le (b1 s) (b2 s)) (hc:∀ s,Le (c1' s) (c2' s)) (k:RangeK) (s:St):Le (qlx o1 k b1 c1' s) (qlx o2 k b2 c2' s):=by
 intro r hr
 rw[qfi] at hr ⊢
 cases hx:o1 k.pre s with
 | none=>rw[hx] at hr;cases hr
 | some x =>
   rw[ho _ _ x hx]
   rw[hx] at hr
   obtain⟨q,s1⟩:=x
   cases q with
   | normal =>
     dsimp only at hr ⊢
     split
     ·rename_i es hes
      rw[hes] at hr
      have h1:=(qcZ (qb7 _ _)).1 hr
      exact (qcZ (qb7 _ _)).2 fun es' he=>qfR ho hb hc k s s1 es' r (h1 es' he)
     ·rename_i hes
      rw[hes] at hr
      cases hr
   | _=>cases hr
end
theorem qmk (hc:∀ f a h,Le (c1 f a h) (c2 f a h)) (l:List Step) (cs:List (Nat × Nat × Nat)) (s:St):Le (qhw pure c1 l cs s) (qhw pure c2 l cs s):=by
 intro r hr
 unfold qhw at hr ⊢
 cases hx:qds pure c1 l s.tm [] s.h with
 | none=>rw[hx] at hr;cases hr
 | some x=>rw[qml hc _ _ _ _ x hx];rw[hx] at hr;exact hr
theorem qcY (hc:∀ f a h,Le (c1 f a h) (c2 f a h)) {n m:Nat} (hnm:n≤m):∀ (c:ACode) (s:St),Le (qaM pure c1 n c s) (qaM pure c2 m c s):=by
 intro c
 induction c with
 | skip=>intro s;exact Le.refl _
 | ops l=>intro s;exact qeV hc l s
 | draw l cs=>intro s;exact qmk hc l cs s
 | kops l=>intro s;exact qiQ hc l s
 | mdraw k l ns=>intro s;exact Le.refl _
 | seq a b iha ihb =>
   intro s r hr
   rw[qaM] at hr ⊢
   cases hx:qaM pure c1 n a s with
   | none=>rw[hx] at hr;cases hr
   | some x =>
     rw[iha s x hx]
     rw[hx] at hr
     obtain⟨e,s'⟩:=x
     cases e with
     | normal=>exact ihb _ r hr
     | _=>exact hr
 | cond c a b iha ihb =>
   intro s r hr
   rw[qaM] at hr ⊢
   split
   ·rename_i t ht
    rw[ht] at hr
    cases t with
    | true=>exact iha s r hr
    | false=>exact ihb s r hr
   ·rename_i ht
    split at hr
    ·rename_i t ht'
     exact absurd ht' (ht t)
    ·cases hr
 | block id c ih =>
   intro s r hr
   rw[qaM] at hr ⊢
   cases hx:qaM pure c1 n c s with
   | none=>rw[hx] at hr;cases hr
   | some x=>rw[ih s x hx];rw[hx] at hr;exact hr
 | loop c ih=>intro s;exact qfb ih hnm s
 | gloop k c ih=>intro s;exact qfb (fun s1=>ih _) hnm s
 | freeze t c ih=>intro s;exact ih _
 | view c ih=>intro s;exact ih _
 | range k b c ihb ihc=>intro s;exact qly (fun l s=>qeV hc l s) ihb ihc k s
 | frame k c ih =>
   intro s r hr
   rw[qaM] at hr ⊢
   obtain⟨x,hx,rfl⟩:=Option.map_eq_some_iff.1 hr
   rw[ih s x hx]
   rfl
 | exit id=>intro s;exact Le.refl _
 | ret=>intro s;exact Le.refl _
 | stuck=>intro s;exact Le.refl _
end
theorem qsM {rs:List ARVar} {x y:Option (AExit × St)} (h:Le x y):Le (qan rs x) (qan rs y):=by
 intro r hr
 cases x with
 | none=>cases hr
 | some x=>rw[h x rfl];exact hr
theorem qmt (L:Lib):∀ n f a h,Le (qca L n f a h) (qca L (n+1) f a h):=by
 intro n
 induction n with
 | zero=>intro f a h r hr;cases hr
 | succ n ih =>
   intro f a h r hr
   rw[qca] at hr ⊢
   split
   ·rename_i s hs
    rw[hs] at hr
    exact hr
   ·rename_i hs
    rw[hs] at hr
    dsimp only at hr
    split
    ·rename_i fn hfn
     rw[hfn] at hr
     exact qsM (qcY ih (Nat.le_succ n) _ _) r hr
    ·rename_i hfn
     rw[hfn] at hr
     cases hr
theorem qcI (L:Lib) {n m:Nat} (h:n≤m) (f:Nat) (a:List AVal) (hp:Heap):Le (qca L n f a hp) (qca L m f a hp) :=
 qnO (f:=fun k=>qca L k f a hp) (fun k=>qmt L k f a hp) h
noncomputable def call (L:Lib):CallT:=fun f a h=>lim fun n=>qca L n f a h
theorem qdM {L:Lib} {f:Nat} {a:List AVal} {h:Heap} {r:ARes × Heap}:call L f a h=some r↔∃ n,qca L n f a h=some r :=
 qrW fun n=>qmt L n f a h
noncomputable def qlc (body:St→Option (AExit × St)) (s:St):Option (AExit × St):=lim fun n=>qdZ body n s
theorem qdx {body:St→Option (AExit × St)} {s:St} {r:AExit × St}:qlc body s=some r↔∃ n,qdZ body n s=some r:=qrW fun n=>qmN body n s
theorem qhO (body:St→Option (AExit × St)) (n:Nat) (s:St):Le (qdZ body n s) (qlc body s):=fun _ hr=>qdx.2 ⟨n,hr⟩
theorem qrY (body:St→Option (AExit × St)) (s:St):qlc body s=match body s with | some (.normal,s')=>qlc body s' | r=>r:=by
 have key:∀ r,qlc body s=some r↔(match body s with | some (.normal,s')=>qlc body s' | r=>r)=some r:=by
  intro r
  constructor
  ·intro h
   obtain⟨n,hn⟩:=qdx.1 h
   cases n with
   | zero=>cases hn
   | succ n =>
     rw[qdZ] at hn
     split at hn
     ·rename_i s' hs'
      rw[hs']
      exact qhO _ _ _ _ hn
     ·rename_i x hx
      split
      ·rename_i s' hs'
       exact absurd hs' (hx s')
      ·exact hn
  ·intro h
   split at h
   ·rename_i s' hs'
    obtain⟨n,hn⟩:=qdx.1 h
    exact qdx.2 ⟨n+1,by rw[qdZ,hs'];exact hn⟩
   ·rename_i x hx
    refine qdx.2 ⟨1,?_⟩
    rw[qdZ]
    split
    ·rename_i s' hs'
     exact absurd hs' (hx s')
    ·exact h
 cases hx:qlc body s with
 | some r=>exact ((key r).1 hx).symm
 | none =>
   cases hy:(match body s with | some (.normal,s')=>qlc body s' | r=>r) with
   | none=>rfl
   | some r=>rw[(key r).2 hy] at hx;cases hx
noncomputable def qa0 (pure:Nat→Bool) (call:CallT):ACode→St→Option (AExit × St)
 | .skip,s=>some (.normal,s)
 | .ops l,s=>qcq pure call l s
 | .draw l cs,s=>qhw pure call l cs s
 | .kops l,s=>qeE pure call l s
 | .mdraw k l ns,s=>qwH k l ns s
 | .seq a b,s =>
   (match qa0 pure call a s with
   | some (.normal,s')=>qa0 pure call b s'
   | r=>r)
 | .cond c a b,s=>(match opd s.tm c with | .bool t=>if t then qa0 pure call a s else qa0 pure call b s | _=>none)
 | .block id c,s =>
   (match qa0 pure call c s with
   | some (.exit id',s')=>if id'=id then some (.normal,s') else some (.exit id',s')
   | r=>r)
 | .loop c,s=>qlc (qa0 pure call c) s
 | .gloop k c,s=>qlc (fun s1=>qa0 pure call c (gc s.h.length k s1)) s
 | .frame k c,s=>(qa0 pure call c s).map (gcE s.h.length k)
 | .freeze t c,s=>qa0 pure call c (qfI t s)
 | .view c,s=>qa0 pure call c (qp1 s)
 | .range k b c,s=>qlx (qcq pure call) k (qa0 pure call b) (qa0 pure call c) s
 | .exit id,s=>some (.exit id,s)
 | .ret,s=>some (.ret,s)
 | .stuck,_=>none
theorem qoj {pure:Nat→Bool} {c1 c2:CallT} (hc:∀ f a h,Le (c1 f a h) (c2 f a h)) (n:Nat):∀ (c:ACode) (s:St),Le (qaM pure c1 n c s) (qa0 pure c2 c s):=by
 intro c
 induction c with
 | skip=>intro s;exact Le.refl _
 | ops l=>intro s;exact qeV hc l s
 | draw l cs=>intro s;exact qmk hc l cs s
 | kops l=>intro s;exact qiQ hc l s
 | mdraw k l ns=>intro s;exact Le.refl _
 | seq a b iha ihb =>
   intro s r hr
   rw[qaM] at hr
   rw[qa0]
   cases hx:qaM pure c1 n a s with
   | none=>rw[hx] at hr;cases hr
   | some x =>
     rw[iha s x hx]
     rw[hx] at hr
     obtain⟨e,s'⟩:=x
     cases e with
     | normal=>exact ihb _ r hr
     | _=>exact hr
 | cond c a b iha ihb =>
   intro s r hr
   rw[qaM] at hr
   rw[qa0]
   split
   ·rename_i t ht
    rw[ht] at hr
    cases t with
    | true=>exact iha s r hr
    | false=>exact ihb s r hr
   ·rename_i ht
    split at hr
    ·rename_i t ht'
     exact absurd ht' (ht t)
    ·cases hr
 | block id c ih =>
   intro s r hr
   rw[qaM] at hr
   rw[qa0]
   cases hx:qaM pure c1 n c s with
   | none=>rw[hx] at hr;cases hr
   | some x=>rw[ih s x hx];rw[hx] at hr;exact hr
 | loop c ih=>intro s;exact (qfb ih (Nat.le_refl n) s).trans (qhO _ _ _)
 | gloop k c ih=>intro s;exact (qfb (fun s1=>ih _) (Nat.le_refl n) s).trans (qhO _ _ _)
 | freeze t c ih=>intro s;exact ih _
 | view c ih=>intro s;exact ih _
 | range k b c ihb ihc=>intro s;exact qly (fun l s=>qeV hc l s) ihb ihc k s
 | frame k c ih =>
   intro s r hr
   rw[qaM] at hr
   rw[qa0]
   obtain⟨x,hx,rfl⟩:=Option.map_eq_some_iff.1 hr
   rw[ih s x hx]
   rfl
 | exit id=>intro s;exact Le.refl _
 | ret=>intro s;exact Le.refl _
 | stuck=>intro s;exact Le.refl _
section
variable {pure:Nat→Bool} {L:Lib}
theorem qiV {f:Nat} {a:List AVal} {h:Heap} {r:ARes × Heap} (hr:qc8 pure (call L) f a h=some r):∃ n,qc8 pure (qca L n) f a h=some r:=by
 unfold qc8 at hr
 split at hr
 ·rename_i hp
  cases hx:call L f (a.map wipe) [] with
  | none=>rw[hx] at hr;cases hr
  | some x =>
    rw[hx] at hr
    obtain⟨n,hn⟩:=qdM.1 hx
    refine⟨n,?_⟩
    unfold qc8
    rw[if_pos hp,hn]
    exact hr
 ·rename_i hp
  unfold qmd at hr
  split at hr
  ·rename_i hq
   cases hx:call L f (a.map (ren fun i=>qaC i (qbP a h) 0)) (qc5 (qbP a h) h) with
   | none=>rw[hx] at hr;cases hr
   | some x =>
     rw[hx] at hr
     obtain⟨n,hn⟩:=qdM.1 hx
     refine⟨n,?_⟩
     unfold qc8 qmd
     rw[if_neg hp,if_pos hq,hn]
     exact hr
  ·cases hr
theorem qnk {o:AOp} {tm:Tmps} {h:Heap} {r:ARes × Heap} (hr:aOp pure (call L) o tm h=some r):∃ n,aOp pure (qca L n) o tm h=some r:=by
 cases o with
 | vcall f args =>
   simp only[aOp] at hr ⊢
   unfold qgI at hr
   split at hr
   ·rename_i hp
    cases hx:call L f ((args.map (opd tm)).map (lookV h)) [] with
    | none=>rw[hx] at hr;cases hr
    | some x =>
      rw[hx] at hr
      obtain⟨n,hn⟩:=qdM.1 hx
      refine⟨n,?_⟩
      unfold qgI
      rw[if_pos hp,hn]
      exact hr
   ·cases hr
 | hcall f args =>
   simp only[aOp] at hr ⊢
   split at hr
   ·rename_i hf
    exact qdM.1 hr
   ·cases hr
 | call f args =>
   simp only[aOp] at hr ⊢
   split at hr
   ·rename_i hf
    exact qiV hr
   ·cases hr
 | pcallV f args =>
   simp only[aOp] at hr ⊢
   split at hr
   ·rename_i hf
    unfold qlw at hr
    split at hr
    ·rename_i hc'
     unfold qaw at hr
     split at hr
     ·rename_i v h' hd
      obtain⟨n,hn⟩:=qiV hd
      refine⟨n,?_⟩
      unfold qlw
      rw[if_pos hc',hn]
      exact hr
     ·cases hr
    ·cases hr
   ·cases hr
 | pcall f args =>
   simp only[aOp] at hr ⊢
   split at hr
   ·rename_i hc'
    unfold qaw at hr
    split at hr
    ·rename_i v h' hd
     obtain⟨n,hn⟩:=qiV hd
     refine⟨n,?_⟩
     rw[if_pos hc',hn]
     exact hr
    ·cases hr
   ·cases hr
 | _=>exact⟨0,hr⟩
theorem qhU:∀ (l:List Step) {s:St} {r:AExit × St},qcq pure (call L) l s=some r→∃ n,qcq pure (qca L n) l s=some r:=by
 intro l
 induction l with
 | nil=>intro s r hr;exact⟨0,hr⟩
 | cons o rest ih =>
   intro s r hr
   rw[qcq] at hr
   split at hr
   ·rename_i hw
    cases hx:aOp pure (call L) o.op s.tm s.h with
    | none=>rw[hx] at hr;cases hr
    | some x =>
      rw[hx] at hr
      obtain⟨n,hn⟩:=qnk hx
      obtain⟨v,h⟩:=x
      cases v with
      | val v =>
        obtain⟨m,hm⟩:=ih hr
        refine⟨max n m,?_⟩
        rw[qcq,hw]
        dsimp only
        rw[qgJ (qcI L (Nat.le_max_left n m)) _ _ _ _ hn]
        exact qeV (qcI L (Nat.le_max_right n m)) _ _ _ hm
      | panic v =>
        refine⟨n,?_⟩
        rw[qcq,hw]
        dsimp only
        rw[hn]
        exact hr
   ·rename_i hw
    obtain⟨m,hm⟩:=ih hr
    exact⟨m,by rw[qcq,hw];exact hm⟩
   ·cases hr
theorem qwI {o:AOp} {tm:Tmps} {h:Heap} {r:ARes × Heap} (hr:qjV pure (call L) o tm h=some r):∃ n,qjV pure (qca L n) o tm h=some r:=by
 cases o with
 | pcall f args =>
   simp only[qjV] at hr ⊢
   unfold qoY at hr
   split at hr
   ·rename_i hp
    cases hx:call L f ((args.map (opd tm)).map wipe) [] with
    | none=>rw[hx] at hr;cases hr
    | some x =>
      rw[hx] at hr
      obtain⟨n,hn⟩:=qdM.1 hx
      refine⟨n,?_⟩
      unfold qoY
      rw[if_pos hp,hn]
      exact hr
   ·cases hr
 | append sz bytes x y =>
   simp only[qjV] at hr ⊢
   split at hr
   ·rename_i hq
    refine⟨0,?_⟩
    rw[if_pos hq]
    exact hr
   ·rename_i hq
    obtain⟨n,hn⟩:=qnk hr
    refine⟨n,?_⟩
    rw[if_neg hq]
    exact hn
 | _=>simp only[qjV] at hr ⊢;exact qnk hr
theorem qtI:∀ (l:List Step) {s:St} {r:AExit × St},qeE pure (call L) l s=some r→∃ n,qeE pure (qca L n) l s=some r:=by
 intro l
 induction l with
 | nil=>intro s r hr;exact⟨0,hr⟩
 | cons o rest ih =>
   intro s r hr
   rw[qeE] at hr
   split at hr
   ·rename_i hw
    cases hx:qjV pure (call L) o.op s.tm s.h with
    | none=>rw[hx] at hr;cases hr
    | some x =>
      rw[hx] at hr
      obtain⟨n,hn⟩:=qwI hx
      obtain⟨v,h⟩:=x
      cases v with
      | val v =>
        obtain⟨m,hm⟩:=ih hr
        refine⟨max n m,?_⟩
        rw[qeE,hw]
        dsimp only
        rw[qol (qcI L (Nat.le_max_left n m)) _ _ _ _ hn]
        exact qiQ (qcI L (Nat.le_max_right n m)) _ _ _ hm
      | panic v =>
        refine⟨n,?_⟩
        rw[qeE,hw]
        dsimp only
        rw[hn]
        exact hr
   ·rename_i hw
    obtain⟨m,hm⟩:=ih hr
    exact⟨m,by rw[qeE,hw];exact hm⟩
   ·cases hr
theorem qtH:∀ (l:List Step) {tm:Tmps} {hs:List Heap} {h:Heap} {r:Tmps × List Heap × Heap},qds pure (call L) l tm hs h=some r→∃ n,qds pure (qca L n) l tm hs h=some r:=by
 intro l
 induction l with
 | nil=>intro tm hs h r hr;exact⟨0,hr⟩
 | cons o rest ih =>
   intro tm hs h r hr
   rw[qds] at hr
   split at hr
   ·rename_i hw
    cases hx:aOp pure (call L) o.op tm h with
    | none=>rw[hx] at hr;cases hr
    | some x =>
      rw[hx] at hr
      obtain⟨n,hn⟩:=qnk hx
      obtain⟨v,h'⟩:=x
      cases v with
      | val v =>
        obtain⟨m,hm⟩:=ih hr
        refine⟨max n m,?_⟩
        rw[qds,hw]
        dsimp only
        rw[qgJ (qcI L (Nat.le_max_left n m)) _ _ _ _ hn]
        exact qml (qcI L (Nat.le_max_right n m)) _ _ _ _ _ hm
      | panic v=>cases hr
   ·rename_i hw
    obtain⟨m,hm⟩:=ih hr
    exact⟨m,by rw[qds,hw];exact hm⟩
   ·cases hr
theorem qrZ (c:ACode) (g:St→St) (ih:∀ {s:St} {r:AExit × St},qa0 pure (call L) c s=some r→∃ n,qaM pure (qca L n) n c s=some r) {r:AExit × St} :
  ∀ k s,qdZ (fun s1=>qa0 pure (call L) c (g s1)) k s=some r→∃ n,qdZ (fun s1=>qaM pure (qca L n) n c (g s1)) n s=some r:=by
 intro k
 induction k with
 | zero=>intro s h;cases h
 | succ k ihk =>
   intro s h
   rw[qdZ] at h
   cases hx:qa0 pure (call L) c (g s) with
   | none=>rw[hx] at h;cases h
   | some x =>
     rw[hx] at h
     obtain⟨n,hn⟩:=ih hx
     obtain⟨e,s'⟩:=x
     cases e with
     | normal =>
       obtain⟨m,hm⟩:=ihk s' h
       refine⟨max n m+1,?_⟩
       rw[qdZ,qcY (qcI L (Nat.le_trans (Nat.le_max_left n m) (Nat.le_succ _))) (Nat.le_trans (Nat.le_max_left n m) (Nat.le_succ _)) _ _ _ hn]
       exact qfb (fun s=>qcY (qcI L (Nat.le_trans (Nat.le_max_right n m) (Nat.le_succ _))) (Nat.le_trans (Nat.le_max_right n m) (Nat.le_succ _)) _ _) (Nat.le_max_right n m) _ _ hm
     | _ =>
       refine⟨n+1,?_⟩
       rw[qdZ,qcY (qcI L (Nat.le_succ n)) (Nat.le_succ n) _ _ _ hn]
       exact h
def qm1 (x:AVal × AVal):List (AVal × AVal)→List (List (AVal × AVal))
 | []=>[[x]]
 | y::ys=>(x::y::ys)::(qm1 x ys).map (y::·)
def qga:List (AVal × AVal)→List (List (AVal × AVal))
 | []=>[[]]
 | x::xs=>(qga xs).flatMap (qm1 x)
theorem qmR (x:AVal × AVal):∀ l r:List (AVal × AVal),l++x::r∈qm1 x (l++r)
 | [],[]=>by simp[qm1]
 | [],y::ys=>by simp[qm1]
 | y :: l,r => by
   simp only[List.cons_append,qm1,List.mem_cons,List.mem_map]
   exact .inr ⟨_,qmR x l r,rfl⟩
theorem qiz:∀ (es es':List (AVal × AVal)),es'.Perm es→es'∈qga es
 | [],es',h=>by rw[h.eq_nil];simp[qga]
 | x :: xs,es',h => by
   obtain⟨l,r,rfl⟩:=List.append_of_mem (h.mem_iff.2 (List.mem_cons_self ..))
   have h1:(l++r).Perm xs:=by
    have:=(List.perm_middle (a:=x) (l₁:=l) (l₂:=r)).symm.trans h
    exact this.cons_inv
   simp only[qga,List.mem_flatMap]
   exact⟨_,qiz xs _ h1,qmR x l r⟩
theorem quA {α:Type} (Q:Nat→α→Prop) (hm:∀ n m a,n≤m→Q n a→Q m a):∀ (l:List α),(∀ a∈l,∃ n,Q n a)→∃ n,∀ a∈l,Q n a
 | [],_=>⟨0,fun a ha=>by cases ha⟩
 | a :: l,h => by
   obtain⟨n,hn⟩:=h a (by simp)
   obtain⟨m,hm'⟩:=quA Q hm l fun b hb=>h b (by simp[hb])
   refine⟨max n m,fun b hb=>?_⟩
   rcases List.mem_cons.1 hb with rfl | hb
   ·exact hm _ _ _ (Nat.le_max_left n m) hn
   ·exact hm _ _ _ (Nat.le_max_right n m) (hm' b hb)
section
variable {b c:ACode}
theorem qeT {n m:Nat} (h:n≤m) (l:List Step) (s:St):Le (qcq pure (qca L n) l s) (qcq pure (qca L m) l s):=qeV (qcI L h) l s
theorem qd4 {n m:Nat} (h:n≤m) (s:St):Le (qaM pure (qca L n) n b s) (qaM pure (qca L m) m b s):=qcY (qcI L h) h b s
theorem qme (hb:∀ {s:St} {r:AExit × St},qa0 pure (call L) b s=some r→∃ n,qaM pure (qca L n) n b s=some r) (i:Nat) (k:RangeK) (e:AVal × AVal) {s:St} {r:AExit × St}
  (hr:qbr (qcq pure (call L)) i k (qa0 pure (call L) b) e s=some r):∃ n,qbr (qcq pure (qca L n)) i k (qaM pure (qca L n) n b) e s=some r:=by
 unfold qbr at hr
 split at hr
 case isFalse=>cases hr
 rename_i g0
 cases hx:qcq pure (call L) k.r1 ⟨upd s.tm (some k.dn) (.tuple [.bool true,e.1,e.2]),s.h⟩ with
 | none=>rw[hx] at hr;cases hr
 | some x =>
   rw[hx] at hr
   obtain⟨n1,hn1⟩:=qhU _ hx
   obtain⟨q,s1⟩:=x
   cases q with
   | normal =>
     dsimp only at hr
     split at hr
     case isFalse=>cases hr
     rename_i g1
     split at hr
     ·rename_i hq
      unfold qlN at hr
      cases hy:qcq pure (call L) k.r2 ⟨upd s1.tm k.de (.tuple [e.1,e.2]),s1.h⟩ with
      | none=>rw[hy] at hr;cases hr
      | some y =>
        rw[hy] at hr
        obtain⟨n2,hn2⟩:=qhU _ hy
        obtain⟨q2,s2⟩:=y
        cases q2 with
        | normal =>
          dsimp only at hr
          cases hz:qa0 pure (call L) b s2 with
          | none=>rw[hz] at hr;cases hr
          | some z =>
            obtain⟨n3,hn3⟩:=hb hz
            rw[hz] at hr
            refine⟨max n1 (max n2 n3),?_⟩
            unfold qbr qlN
            rw[if_pos g0,qeT (Nat.le_max_left _ _) _ _ _ hn1]
            dsimp only
            rw[if_pos g1,hq]
            dsimp only
            rw[qeT (Nat.le_trans (Nat.le_max_left n2 n3) (Nat.le_max_right _ _)) _ _ _ hn2]
            dsimp only
            rw[qd4 (Nat.le_trans (Nat.le_max_right n2 n3) (Nat.le_max_right _ _)) _ _ hn3]
            exact hr
        | _ =>
          refine⟨max n1 n2,?_⟩
          unfold qbr qlN
          rw[if_pos g0,qeT (Nat.le_max_left _ _) _ _ _ hn1]
          dsimp only
          rw[if_pos g1,hq]
          dsimp only
          rw[qeT (Nat.le_max_right _ _) _ _ _ hn2]
          exact hr
     ·cases hr
   | _=>cases hr
theorem qpx (i:Nat) (k:RangeK) {s:St} {r:AExit × St} (hr:qb2 (qcq pure (call L)) i k s=some r):∃ n,qb2 (qcq pure (qca L n)) i k s=some r:=by
 unfold qb2 at hr
 split at hr
 case isFalse=>cases hr
 rename_i g0
 cases hx:qcq pure (call L) k.r1 ⟨upd s.tm (some k.dn) (.tuple [.bool false]),s.h⟩ with
 | none=>rw[hx] at hr;cases hr
 | some x =>
   rw[hx] at hr
   obtain⟨n1,hn1⟩:=qhU _ hx
   exact⟨n1,by unfold qb2;rw[if_pos g0,hn1];exact hr⟩
theorem qjI (hb:∀ {s:St} {r:AExit × St},qa0 pure (call L) b s=some r→∃ n,qaM pure (qca L n) n b s=some r) (i:Nat) (k:RangeK):∀ (es:List (AVal × AVal)) {s:St} {r:AExit × St},
  qbs (qcq pure (call L)) i k (qa0 pure (call L) b) es s=some r→∃ n,qbs (qcq pure (qca L n)) i k (qaM pure (qca L n) n b) es s=some r
 | [],s,r,hr=>qpx i k hr
 | e :: es,s,r,hr => by
   rw[qbs] at hr
   cases hx:qbr (qcq pure (call L)) i k (qa0 pure (call L) b) e (gc (i+1) k.kr s) with
   | none=>rw[hx] at hr;cases hr
   | some x =>
     rw[hx] at hr
     obtain⟨n,hn⟩:=qme hb i k e hx
     obtain⟨q,s1⟩:=x
     cases q with
     | normal =>
       obtain⟨m,hm⟩:=qjI hb i k es hr
       refine⟨max n m,?_⟩
       rw[qbs,qgv (fun l s=>qeT (Nat.le_max_left n m) l s) (fun s=>qd4 (Nat.le_max_left n m) s) i k e _ _ hn]
       exact qee (fun l s=>qeT (Nat.le_max_right n m) l s) (fun s=>qd4 (Nat.le_max_right n m) s) i k es _ _ hm
     | _=>exact⟨n,by rw[qbs,hn];exact hr⟩
theorem qpy (hb:∀ {s:St} {r:AExit × St},qa0 pure (call L) b s=some r→∃ n,qaM pure (qca L n) n b s=some r) (hc:∀ {s:St} {r:AExit × St},qa0 pure (call L) c s=some r→∃ n,qaM pure (qca L n) n c s=some r)
  (k:RangeK) (s s1:St) (es:List (AVal × AVal)) {r:AExit × St} (hr:qcN (qcq pure (call L)) k (qa0 pure (call L) b) (qa0 pure (call L) c) s s1 es=some r) :
  ∃ n,qcN (qcq pure (qca L n)) k (qaM pure (qca L n) n b) (qaM pure (qca L n) n c) s s1 es=some r:=by
 unfold qcN at hr
 obtain⟨x,hx,rfl⟩:=Option.map_eq_some_iff.1 hr
 cases hy:qbs (qcq pure (call L)) s1.h.length k (qa0 pure (call L) b) es ⟨upd s1.tm (some k.it) (.ptr (some (s1.h.length,0))),ql9 (opd s1.tm k.m) s1.h⟩ with
 | none=>rw[hy] at hx;cases hx
 | some y =>
   rw[hy] at hx
   obtain⟨n,hn⟩:=qjI hb _ k es hy
   obtain⟨q,s2⟩:=y
   cases q with
   | normal =>
     obtain⟨m,hm⟩:=hc hx
     refine⟨max n m,?_⟩
     unfold qcN
     rw[qee (fun l s=>qeT (Nat.le_max_left n m) l s) (fun s=>qd4 (Nat.le_max_left n m) s) _ k es _ _ hn]
     dsimp only
     rw[qd4 (Nat.le_max_right n m) _ _ hm]
     rfl
   | _ =>
     refine⟨n,?_⟩
     unfold qcN
     rw[hn]
     dsimp only at hx ⊢
     rw[hx]
     rfl
end
theorem qtF:∀ (c:ACode) {s:St} {r:AExit × St},qa0 pure (call L) c s=some r→∃ n,qaM pure (qca L n) n c s=some r:=by
 intro c
 induction c with
 | skip=>intro s r hr;exact⟨0,hr⟩
 | ops l=>intro s r hr;exact qhU l hr
 | kops l=>intro s r hr;exact qtI l hr
 | mdraw k l ns=>intro s r hr;exact⟨0,hr⟩
 | draw l cs =>
   intro s r hr
   rw[qa0] at hr
   unfold qhw at hr
   cases hx:qds pure (call L) l s.tm [] s.h with
   | none=>rw[hx] at hr;cases hr
   | some x =>
     rw[hx] at hr
     obtain⟨n,hn⟩:=qtH l hx
     exact⟨n,by rw[qaM];unfold qhw;rw[hn];exact hr⟩
 | seq a b iha ihb =>
   intro s r hr
   rw[qa0] at hr
   cases hx:qa0 pure (call L) a s with
   | none=>rw[hx] at hr;cases hr
   | some x =>
     rw[hx] at hr
     obtain⟨n,hn⟩:=iha hx
     obtain⟨e,s'⟩:=x
     cases e with
     | normal =>
       obtain⟨m,hm⟩:=ihb hr
       refine⟨max n m,?_⟩
       rw[qaM,qcY (qcI L (Nat.le_max_left n m)) (Nat.le_max_left n m) _ _ _ hn]
       exact qcY (qcI L (Nat.le_max_right n m)) (Nat.le_max_right n m) _ _ _ hm
     | _=>exact⟨n,by rw[qaM,hn];exact hr⟩
 | cond c a b iha ihb =>
   intro s r hr
   rw[qa0] at hr
   split at hr
   ·rename_i t ht
    cases t with
    | true =>
      obtain⟨n,hn⟩:=iha hr
      exact⟨n,by rw[qaM,ht];exact hn⟩
    | false =>
      obtain⟨n,hn⟩:=ihb hr
      exact⟨n,by rw[qaM,ht];exact hn⟩
   ·cases hr
 | block id c ih =>
   intro s r hr
   rw[qa0] at hr
   cases hx:qa0 pure (call L) c s with
   | none=>rw[hx] at hr;cases hr
   | some x =>
     rw[hx] at hr
     obtain⟨n,hn⟩:=ih hx
     exact⟨n,by rw[qaM,hn];exact hr⟩
 | loop c ih =>
   intro s r hr
   rw[qa0] at hr
   obtain⟨k,hk⟩:=qdx.1 hr
   obtain⟨n,hn⟩:=qrZ c (fun s=>s) (fun hx=>ih hx) k s hk
   exact⟨n,by rw[qaM];exact hn⟩
 | gloop kp c ih =>
   intro s r hr
   rw[qa0] at hr
   obtain⟨k,hk⟩:=qdx.1 hr
   obtain⟨n,hn⟩:=qrZ c (fun s1=>gc s.h.length kp s1) (fun hx=>ih hx) k s hk
   exact⟨n,by rw[qaM];exact hn⟩
 | view c ih =>
   intro s r hr
   obtain⟨n,hn⟩:=ih hr
   exact⟨n,hn⟩
 | freeze t c ih =>
   intro s r hr
   obtain⟨n,hn⟩:=ih hr
   exact⟨n,hn⟩
 | range k b c ihb ihc =>
   intro s r hr
   rw[qa0,qfi] at hr
   cases hx:qcq pure (call L) k.pre s with
   | none=>rw[hx] at hr;cases hr
   | some x =>
     rw[hx] at hr
     obtain⟨n,hn⟩:=qhU _ hx
     obtain⟨q,s1⟩:=x
     cases q with
     | normal =>
       dsimp only at hr
       split at hr
       ·rename_i es hes
        have h1:=(qcZ (qb7 _ _)).1 hr
        obtain⟨m,hm⟩:=quA (fun n es'=>qcC k.str es es'→qcN (qcq pure (qca L n)) k (qaM pure (qca L n) n b) (qaM pure (qca L n) n c) s s1 es'=some r)
         (fun n m a hnm h ho=>qfR (fun l s=>qeT hnm l s) (fun s=>qd4 hnm s) (fun s=>qd4 hnm s) k s s1 a r (h ho)) (es::qga es)
         (fun a _=>by
          by_cases ho:qcC k.str es a
          ·obtain⟨n,hn⟩:=qpy ihb ihc k s s1 a (h1 a ho)
           exact⟨n,fun _=>hn⟩
          ·exact⟨0,fun h=>absurd h ho⟩)
        refine⟨max n m,?_⟩
        rw[qaM,qfi,qeT (Nat.le_max_left n m) _ _ _ hn]
        dsimp only
        rw[hes]
        dsimp only
        refine (qcZ (qb7 _ _)).2 fun es' he=>?_
        refine qfR (fun l s=>qeT (Nat.le_max_right n m) l s) (fun s=>qd4 (Nat.le_max_right n m) s) (fun s=>qd4 (Nat.le_max_right n m) s) k s s1 es' r (hm es' ?_ he)
        unfold qcC at he
        split at he
        ·rw[he];simp
        ·exact List.mem_cons_of_mem _ (qiz es es' he)
       ·cases hr
     | _=>cases hr
 | frame kp c ih =>
   intro s r hr
   rw[qa0] at hr
   obtain⟨x,hx,rfl⟩:=Option.map_eq_some_iff.1 hr
   obtain⟨n,hn⟩:=ih hx
   exact⟨n,by rw[qaM,hn];rfl⟩
 | exit id=>intro s r hr;exact⟨0,hr⟩
 | ret=>intro s r hr;exact⟨0,hr⟩
 | stuck=>intro s r hr;exact⟨0,hr⟩
end
theorem qaL {L:Lib} {f:Nat} {fn:AFn} (hs:L.summ f=none) (hf:L.fns f=some fn) {a:List AVal} {h:Heap} {r:ARes × Heap}
  (hr:qan fn.results (qa0 L.pure (call L) fn.body ⟨qew a,h⟩)=some r):call L f a h=some r:=by
 cases hx:qa0 L.pure (call L) fn.body ⟨qew a,h⟩ with
 | none=>rw[hx] at hr;cases hr
 | some x =>
   rw[hx] at hr
   obtain⟨n,hn⟩:=qtF _ hx
   refine qdM.2 ⟨n+1,?_⟩
   rw[qca,hs]
   dsimp only
   rw[hf]
   dsimp only
   rw[hn]
   exact hr
theorem qh4 {L:Lib} {f:Nat} {s:List AVal→Heap→Option (ARes × Heap)} (hs:L.summ f=some s) {a:List AVal} {h:Heap} {r:ARes × Heap} (hr:s a h=some r):call L f a h=some r :=
 qdM.2 ⟨1,by rw[qca,hs];exact hr⟩
end Go.Abs
