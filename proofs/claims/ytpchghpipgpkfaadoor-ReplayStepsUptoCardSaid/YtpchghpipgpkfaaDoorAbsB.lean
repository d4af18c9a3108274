/-
  The abstract machine without bounds: calls and loops as limits of the bounded ones; each is what its body says.
-/
import Derived.Test.YtpchghpipgpkfaaDoorAbsA
set_option linter.unusedVariables false
namespace Go.Abs
def Le {α:Type} (x y:Option α):Prop:=∀ r,x=some r→y=some r
theorem Le.refl {α:Type} (x:Option α):Le x x:=fun _ h=>h
theorem Le.trans {α:Type} {x y z:Option α} (h:Le x y) (h':Le y z):Le x z:=fun r e=>h' r (h r e)
theorem Le.none {α:Type} (y:Option α):Le (Option.none:Option α) y:=fun _ h=>by cases h
open Classical in
noncomputable def lim {α:Type} (f:Nat→Option α):Option α:=if h:∃ n,(f n).isSome=true then f (Classical.choose h) else none
theorem ql3 {α:Type} {f:Nat→Option α} (hm:∀ n,Le (f n) (f (n+1))):∀ {a b:Nat},a≤b→Le (f a) (f b):=by
 intro a b hab
 induction hab with
 | refl=>exact Le.refl _
 | step _ ih=>exact ih.trans (hm _)
theorem qpU {α:Type} {f:Nat→Option α} (hm:∀ n,Le (f n) (f (n+1))) {r:α}:lim f=some r↔∃ n,f n=some r:=by
 constructor
 ·intro h
  unfold lim at h
  split at h
  ·exact⟨_,h⟩
  ·cases h
 ·rintro ⟨n,hn⟩
  have hx:∃ n,(f n).isSome=true:=⟨n,by rw[hn];rfl⟩
  unfold lim
  rw[dif_pos hx]
  have h1:=Classical.choose_spec hx
  obtain⟨r',hr'⟩:=Option.isSome_iff_exists.1 h1
  rw[hr']
  have a:=ql3 hm (Nat.le_max_left n (Classical.choose hx)) r hn
  have b:=ql3 hm (Nat.le_max_right n (Classical.choose hx)) r' hr'
  rw[a] at b
  injection b with b
  rw[b]
theorem qla (body:St→Option (AExit × St)):∀ n s,Le (qds body n s) (qds body (n+1) s):=by
 intro n
 induction n with
 | zero=>intro s r h;cases h
 | succ n ih =>
   intro s r h
   rw[qds] at h ⊢
   split
   ·rename_i s' hb
    rw[hb] at h
    exact ih s' r h
   ·rename_i r' hr'
    split at h
    ·rename_i s' hs'
     exact absurd hs' (hr' s')
    ·exact h
theorem qen {b1 b2:St→Option (AExit × St)} (hb:∀ s,Le (b1 s) (b2 s)):∀ {n m:Nat},n≤m→∀ s,Le (qds b1 n s) (qds b2 m s):=by
 intro n m hnm s
 refine Le.trans ?_ (ql3 (f:=fun k=>qds b2 k s) (fun k=>qla b2 k s) hnm)
 clear hnm
 induction n generalizing s with
 | zero=>intro r h;cases h
 | succ n ih =>
   intro r h
   rw[qds] at h ⊢
   cases hx:b1 s with
   | none=>rw[hx] at h;cases h
   | some x =>
     rw[hb s x hx]
     rw[hx] at h
     obtain⟨e,s'⟩:=x
     cases e with
     | normal=>exact ih s' r h
     | _=>exact h
section
variable {pure:Nat→Bool} {c1 c2:CallT}
theorem qq0 (hc:∀ f a h,Le (c1 f a h) (c2 f a h)) (f:Nat) (a:List AVal) (h:Heap):Le (qkG c1 f a h) (qkG c2 f a h):=by
 intro r hr
 unfold qkG at hr ⊢
 split
 ·rename_i hp
  rw[if_pos hp] at hr
  cases hx:c1 f (a.map (ren fun i=>qav i (qbz a h) 0)) (qcA (qbz a h) h) with
  | none=>rw[hx] at hr;cases hr
  | some x=>rw[hc _ _ _ x hx];rw[hx] at hr;exact hr
 ·rename_i hp
  rw[if_neg hp] at hr
  cases hr
theorem qgG (hc:∀ f a h,Le (c1 f a h) (c2 f a h)) (f:Nat) (a:List AVal) (h:Heap):Le (qcE pure c1 f a h) (qcE pure c2 f a h):=by
 intro r hr
 unfold qcE at hr ⊢
 split
 ·rename_i hp
  rw[if_pos hp] at hr
  cases hx:c1 f (a.map wipe) [] with
  | none=>rw[hx] at hr;cases hr
  | some x=>rw[hc _ _ _ x hx];rw[hx] at hr;exact hr
 ·rename_i hp
  rw[if_neg hp] at hr
  exact qq0 hc _ _ _ _ hr
theorem qqY (hc:∀ f a h,Le (c1 f a h) (c2 f a h)) (g:Nat) (xs:List AVal) (h:Heap):Le (qj6 pure c1 g xs h) (qj6 pure c2 g xs h):=by
 intro r hr
 unfold qj6 at hr ⊢
 split
 ·rename_i hc'
  rw[if_pos hc'] at hr
  unfold qat at hr ⊢
  split at hr
  ·rename_i v h' hd
   rw[qgG hc _ _ _ _ hd]
   exact hr
  ·cases hr
 ·rename_i hc'
  rw[if_neg hc'] at hr
  cases hr
theorem qrg (hc:∀ f a h,Le (c1 f a h) (c2 f a h)) (f:Nat) (a:List AVal) (h:Heap):Le (qh5 c1 f a h) (qh5 c2 f a h):=by
 intro r hr
 unfold qh5 at hr ⊢
 split
 ·rename_i hp
  rw[if_pos hp] at hr
  cases hx:c1 f (a.map (lookV h)) [] with
  | none=>rw[hx] at hr;cases hr
  | some x=>rw[hc _ _ _ x hx];rw[hx] at hr;exact hr
 ·rename_i hp
  rw[if_neg hp] at hr
  cases hr
theorem qfH (hc:∀ f a h,Le (c1 f a h) (c2 f a h)) (o:AOp) (tm:Tmps) (h:Heap):Le (aOp pure c1 o tm h) (aOp pure c2 o tm h):=by
 intro r hr
 cases o with
 | vcall f args=>exact qrg hc _ _ _ _ hr
 | hcall f args =>
   simp only[aOp] at hr ⊢
   split
   ·rename_i hf
    rw[hf] at hr
    exact hc _ _ _ _ hr
   ·rename_i hf
    split at hr
    ·rename_i hf'
     exact absurd hf' (hf _ _ _)
    ·cases hr
 | call f args =>
   simp only[aOp] at hr ⊢
   split
   ·rename_i hf
    rw[hf] at hr
    exact qgG hc _ _ _ _ hr
   ·rename_i hf
    split at hr
    ·rename_i hf'
     exact absurd hf' (hf _ _ _)
    ·cases hr
 | pcallV f args =>
   simp only[aOp] at hr ⊢
   split
   ·rename_i hf
    rw[hf] at hr
    exact qqY hc _ _ _ _ hr
   ·rename_i hf
    split at hr
    ·rename_i hf'
     exact absurd hf' (hf _ _ _)
    ·cases hr
 | pcall f args =>
   simp only[aOp] at hr ⊢
   split
   ·rename_i hc'
    rw[if_pos hc'] at hr
    unfold qat at hr ⊢
    split at hr
    ·rename_i v h' hd
     rw[qgG hc _ _ _ _ hd]
     exact hr
    ·cases hr
   ·rename_i hc'
    rw[if_neg hc'] at hr
    cases hr
 | _=>exact hr
theorem qec (hc:∀ f a h,Le (c1 f a h) (c2 f a h)):∀ (l:List Step) (s:St),Le (qb2 pure c1 l s) (qb2 pure c2 l s):=by
 intro l
 induction l with
 | nil=>intro s;exact Le.refl _
 | cons o rest ih =>
   intro s r hr
   rw[qb2] at hr ⊢
   split
   ·rename_i hw
    rw[hw] at hr
    dsimp only at hr
    cases hx:aOp pure c1 o.op s.tm s.h with
    | none=>rw[hx] at hr;cases hr
    | some x =>
      rw[qfH hc _ _ _ x hx]
      rw[hx] at hr
      obtain⟨v,h⟩:=x
      cases v with
      | val v=>exact ih _ r hr
      | panic v=>exact hr
   ·rename_i hw
    rw[hw] at hr
    exact ih _ r hr
   ·rename_i hw
    rw[hw] at hr
    cases hr
theorem qqJ (hc:∀ f a h,Le (c1 f a h) (c2 f a h)) (f:Nat) (a:List AVal) (h:Heap):Le (qm6 c1 f a h) (qm6 c2 f a h):=by
 intro r hr
 unfold qm6 at hr ⊢
 split
 ·rename_i hp
  rw[if_pos hp] at hr
  cases hx:c1 f (a.map wipe) [] with
  | none=>rw[hx] at hr;cases hr
  | some x=>rw[hc _ _ _ x hx];rw[hx] at hr;exact hr
 ·rename_i hp
  rw[if_neg hp] at hr
  cases hr
theorem qmx (hc:∀ f a h,Le (c1 f a h) (c2 f a h)) (o:AOp) (tm:Tmps) (h:Heap):Le (qiH pure c1 o tm h) (qiH pure c2 o tm h):=by
 intro r hr
 cases o with
 | pcall f args=>exact qqJ hc _ _ _ _ hr
 | append sz bytes x y =>
   simp only[qiH] at hr ⊢
   split
   ·rename_i hq
    rw[if_pos hq] at hr
    exact hr
   ·rename_i hq
    rw[if_neg hq] at hr
    exact qfH hc _ tm h r hr
 | _=>simp only[qiH] at hr ⊢;exact qfH hc _ tm h r hr
theorem qhF (hc:∀ f a h,Le (c1 f a h) (c2 f a h)):∀ (l:List Step) (s:St),Le (qdY pure c1 l s) (qdY pure c2 l s):=by
 intro l
 induction l with
 | nil=>intro s;exact Le.refl _
 | cons o rest ih =>
   intro s r hr
   rw[qdY] at hr ⊢
   split
   ·rename_i hw
    rw[hw] at hr
    dsimp only at hr
    cases hx:qiH pure c1 o.op s.tm s.h with
    | none=>rw[hx] at hr;cases hr
    | some x =>
      rw[qmx hc _ _ _ x hx]
      rw[hx] at hr
      obtain⟨v,h⟩:=x
      cases v with
      | val v=>exact ih _ r hr
      | panic v=>exact hr
   ·rename_i hw
    rw[hw] at hr
    exact ih _ r hr
   ·rename_i hw
    rw[hw] at hr
    cases hr
theorem qkM (hc:∀ f a h,Le (c1 f a h) (c2 f a h)):∀ (l:List Step) (tm:Tmps) (hs:List Heap) (h:Heap),Le (qcW pure c1 l tm hs h) (qcW pure c2 l tm hs h):=by
 intro l
 induction l with
 | nil=>intro tm hs h;exact Le.refl _
 | cons o rest ih =>
   intro tm hs h r hr
   rw[qcW] at hr ⊢
   split
   ·rename_i hw
    rw[hw] at hr
    dsimp only at hr
    cases hx:aOp pure c1 o.op tm h with
    | none=>rw[hx] at hr;cases hr
    | some x =>
      rw[qfH hc _ _ _ x hx]
      rw[hx] at hr
      obtain⟨v,h'⟩:=x
      cases v with
      | val v=>exact ih _ _ _ r hr
      | panic v=>exact hr
   ·rename_i hw
    rw[hw] at hr
    exact ih _ _ _ r hr
   ·rename_i hw
    rw[hw] at hr
    cases hr
section
variable {o1 o2:List Step→St→Option (AExit × St)} {b1 b2 c1' c2':St→Option (AExit × St)}
theorem qmG {id:Nat} {x y:Option (AExit × St)} (h:Le x y):Le (qdq id x) (qdq id y):=by
 intro r hr
 cases x with
 | none=>cases hr
 | some x=>rw[h x rfl];exact hr
theorem qfv (ho:∀ l s,Le (o1 l s) (o2 l s)) (hb:∀ s,Le (b1 s) (b2 s)) (n:Nat) (k:RangeK) (e:AVal × AVal) (s:St):Le (qbg o1 n k b1 e s) (qbg o2 n k b2 e s):=by
 intro r hr
 unfold qbg at hr ⊢
 split
 case isFalse h0=>rw[if_neg h0] at hr;cases hr
 rename_i h0
 rw[if_pos h0] at hr
 cases hx:o1 k.r1 ⟨upd s.tm (some k.dn) (.tuple [.bool true,e.1,e.2]),s.h⟩ with
 | none=>rw[hx] at hr;cases hr
 | some x =>
   rw[ho _ _ x hx]
   rw[hx] at hr
   obtain⟨q,s1⟩:=x
   cases q with
   | normal =>
     dsimp only at hr ⊢
     split
     case isFalse h1=>rw[if_neg h1] at hr;cases hr
     rename_i h1
     rw[if_pos h1] at hr
     split
     ·rename_i hq
      rw[hq] at hr
      refine qmG (id:=k.id2) ?_ r hr
      intro r2 hr2
      unfold qki at hr2 ⊢
      cases hy:o1 k.r2 ⟨upd s1.tm k.de (.tuple [e.1,e.2]),s1.h⟩ with
      | none=>rw[hy] at hr2;cases hr2
      | some y =>
        rw[ho _ _ y hy]
        rw[hy] at hr2
        obtain⟨q2,s2⟩:=y
        cases q2 with
        | normal=>exact hb _ r2 hr2
        | _=>exact hr2
     ·rename_i hq
      split at hr
      ·rename_i hq'
       exact absurd hq' hq
      ·cases hr
   | _=>cases hr
theorem qme (ho:∀ l s,Le (o1 l s) (o2 l s)) (n:Nat) (k:RangeK) (s:St):Le (qbF o1 n k s) (qbF o2 n k s):=by
 intro r hr
 unfold qbF at hr ⊢
 split
 case isFalse h0=>rw[if_neg h0] at hr;cases hr
 rename_i h0
 rw[if_pos h0] at hr
 cases hx:o1 k.r1 ⟨upd s.tm (some k.dn) (.tuple [.bool false]),s.h⟩ with
 | none=>rw[hx] at hr;cases hr
 | some x =>
   rw[ho _ _ x hx]
   rw[hx] at hr
   exact hr
theorem qdF (ho:∀ l s,Le (o1 l s) (o2 l s)) (hb:∀ s,Le (b1 s) (b2 s)) (n:Nat) (k:RangeK):∀ (es:List (AVal × AVal)) (s:St),Le (qbh o1 n k b1 es s) (qbh o2 n k b2 es s)
 | [],s=>qme ho n k _
 | e :: es,s => by
   intro r hr
   rw[qbh] at hr ⊢
   cases hx:qbg o1 n k b1 e (gc (n+1) k.kr s) with
   | none=>rw[hx] at hr;cases hr
   | some x =>
     rw[qfv ho hb n k e _ x hx]
     rw[hx] at hr
     obtain⟨q,s1⟩:=x
     cases q with
     | normal=>exact qdF ho hb n k es s1 r hr
     | _=>exact hr
theorem qcu {O:List (AVal × AVal)→Prop} (hO:∃ es,O es) {f:List (AVal × AVal)→Option (AExit × St)} {r:AExit × St}:qmB O f=some r↔∀ es,O es→f es=some r:=by
 constructor
 ·intro h
  unfold qmB at h
  split at h
  ·rename_i hx
   injection h with h
   rw[← h]
   exact Classical.choose_spec hx
  ·cases h
 ·intro h
  have hx:∃ r,∀ es,O es→f es=some r:=⟨r,h⟩
  unfold qmB
  rw[dif_pos hx]
  obtain⟨es,he⟩:=hO
  have h1:=Classical.choose_spec hx es he
  rw[h es he] at h1
  exact h1.symm
theorem qbK (str:Bool) (es:List (AVal × AVal)):∃ es',qcc str es es':=⟨es,by unfold qcc;split<;>first | rfl | exact .refl _⟩
def qcm (ops:List Step→St→Option (AExit × St)) (k:RangeK) (runB runC:St→Option (AExit × St)) (s s1:St) (es:List (AVal × AVal)):Option (AExit × St) :=
 (match qbh ops s1.h.length k runB es ⟨upd s1.tm (some k.it) (.ptr (some (s1.h.length,0))),qkC (opd s1.tm k.m) s1.h⟩ with
  | some (.normal,s2)=>runC ⟨s2.tm,qcf (opd s1.tm k.m) s1.h s2.h⟩
  | some (e,s2)=>some (e,⟨s2.tm,qcf (opd s1.tm k.m) s1.h s2.h⟩)
  | none=>none).map (gcE s.h.length k.keep)
theorem qet (ops:List Step→St→Option (AExit × St)) (k:RangeK) (runB runC:St→Option (AExit × St)) (s:St):qj7 ops k runB runC s=match ops k.pre s with
 | some (.normal,s1) => (match qcp k.str (opd s1.tm k.m) s1.h with
   | some es=>qmB (qcc k.str es) (qcm ops k runB runC s s1)
   | none=>none)
 | _=>none:=rfl
theorem qeS (ho:∀ l s,Le (o1 l s) (o2 l s)) (hb:∀ s,Le (b1 s) (b2 s)) (hc:∀ s,Le (c1' s) (c2' s)) (k:RangeK) (s s1:St) (es:List (AVal × AVal)):Le (qcm o1 k b1 c1' s s1 es) (qcm o2 k b2 c2' s s1 es):=by
 intro r hr
 unfold qcm at hr ⊢
 obtain⟨x,hx,rfl⟩:=Option.map_eq_some_iff.1 hr
 refine Option.map_eq_some_iff.2 ⟨x,?_,rfl⟩
 cases hy:qbh o1 s1.h.length k b1 es ⟨upd s1.tm (some k.it) (.ptr (some (s1.h.length,0))),qkC (opd s1.tm k.m) s1.h⟩ with
 | none=>rw[hy] at hx;cases hx
 | some y =>
   rw[qdF ho hb _ k _ _ y hy]
   rw[hy] at hx
   obtain⟨q,s2⟩:=y
   cases q with
   | normal=>exact hc _ x hx
   | _=>exact hx
theorem qj8 (ho:∀ l s,Le (o1 l s) (o2 l s)) (hb:∀ s,Le (b1 s) (b2 s)) (hc:∀ s,Le (c1' s) (c2' s)) (k:RangeK) (s:St):Le (qj7 o1 k b1 c1' s) (qj7 o2 k b2 c2' s):=by
 intro r hr
 rw[qet] at hr ⊢
 cases hx:o1 k.pre s with
 | none=>rw[hx] at hr;cases hr
 | some x =>
   rw[ho _ _ x hx]
   rw[hx] at hr
   obtain⟨q,s1⟩:=x
   cases q with
   | normal =>
     dsimp only at hr ⊢
     split
     ·rename_i es hes
      rw[hes] at hr
      have h1:=(qcu (qbK _ _)).1 hr
      exact (qcu (qbK _ _)).2 fun es' he=>qeS ho hb hc k s s1 es' r (h1 es' he)
     ·rename_i hes
      rw[hes] at hr
      cases hr
   | _=>cases hr
end
theorem qkL (hc:∀ f a h,Le (c1 f a h) (c2 f a h)) (l:List Step) (cs:List (Nat × Nat × Nat)) (s:St):Le (qgx pure c1 l cs s) (qgx pure c2 l cs s):=by
 intro r hr
 unfold qgx at hr ⊢
 cases hx:qcW pure c1 l s.tm [] s.h with
 | none=>rw[hx] at hr;cases hr
 | some x=>rw[qkM hc _ _ _ _ x hx];rw[hx] at hr;exact hr
theorem qct (hc:∀ f a h,Le (c1 f a h) (c2 f a h)) {n m:Nat} (hnm:n≤m):∀ (c:ACode) (s:St),Le (qaJ pure c1 n c s) (qaJ pure c2 m c s):=by
 intro c
 induction c with
 | skip=>intro s;exact Le.refl _
 | ops l=>intro s;exact qec hc l s
 | draw l cs=>intro s;exact qkL hc l cs s
 | kops l=>intro s;exact qhF hc l s
 | mdraw k l ns=>intro s;exact Le.refl _
 | seq a b iha ihb =>
   intro s r hr
   rw[qaJ] at hr ⊢
   cases hx:qaJ pure c1 n a s with
   | none=>rw[hx] at hr;cases hr
   | some x =>
     rw[iha s x hx]
     rw[hx] at hr
     obtain⟨e,s'⟩:=x
     cases e with
     | normal=>exact ihb _ r hr
     | _=>exact hr
 | cond c a b iha ihb =>
   intro s r hr
   rw[qaJ] at hr ⊢
   split
   ·rename_i t ht
    rw[ht] at hr
    cases t with
    | true=>exact iha s r hr
    | false=>exact ihb s r hr
   ·rename_i ht
    split at hr
    ·rename_i t ht'
     exact absurd ht' (ht t)
    ·cases hr
 | block id c ih =>
   intro s r hr
   rw[qaJ] at hr ⊢
   cases hx:qaJ pure c1 n c s with
   | none=>rw[hx] at hr;cases hr
   | some x=>rw[ih s x hx];rw[hx] at hr;exact hr
 | loop c ih=>intro s;exact qen ih hnm s
 | gloop k c ih=>intro s;exact qen (fun s1=>ih _) hnm s
 | freeze t c ih=>intro s;exact ih _
 | view c ih=>intro s;exact ih _
 | range k b c ihb ihc=>intro s;exact qj8 (fun l s=>qec hc l s) ihb ihc k s
 | frame k c ih =>
   intro s r hr
   rw[qaJ] at hr ⊢
   obtain⟨x,hx,rfl⟩:=Option.map_eq_some_iff.1 hr
   rw[ih s x hx]
   rfl
 | exit id=>intro s;exact Le.refl _
 | ret=>intro s;exact Le.refl _
 | stuck=>intro s;exact Le.refl _
end
theorem qqy {rs:List ARVar} {x y:Option (AExit × St)} (h:Le x y):Le (qao rs x) (qao rs y):=by
 intro r hr
 cases x with
 | none=>cases hr
 | some x=>rw[h x rfl];exact hr
theorem qkS (L:Lib):∀ n f a h,Le (qbO L n f a h) (qbO L (n+1) f a h):=by
 intro n
 induction n with
 | zero=>intro f a h r hr;cases hr
 | succ n ih =>
   intro f a h r hr
   rw[qbO] at hr ⊢
   split
   ·rename_i s hs
    rw[hs] at hr
    exact hr
   ·rename_i hs
    rw[hs] at hr
    dsimp only at hr
    split
    ·rename_i fn hfn
     rw[hfn] at hr
     exact qqy (qct ih (Nat.le_succ n) _ _) r hr
    ·rename_i hfn
     rw[hfn] at hr
     cases hr
theorem qcg (L:Lib) {n m:Nat} (h:n≤m) (f:Nat) (a:List AVal) (hp:Heap):Le (qbO L n f a hp) (qbO L m f a hp) :=
 ql3 (f:=fun k=>qbO L k f a hp) (fun k=>qkS L k f a hp) h
noncomputable def call (L:Lib):CallT:=fun f a h=>lim fun n=>qbO L n f a h
theorem qdh {L:Lib} {f:Nat} {a:List AVal} {h:Heap} {r:ARes × Heap}:call L f a h=some r↔∃ n,qbO L n f a h=some r :=
 qpU fun n=>qkS L n f a h
noncomputable def qjT (body:St→Option (AExit × St)) (s:St):Option (AExit × St):=lim fun n=>qds body n s
theorem qc2 {body:St→Option (AExit × St)} {s:St} {r:AExit × St}:qjT body s=some r↔∃ n,qds body n s=some r:=qpU fun n=>qla body n s
theorem qgO (body:St→Option (AExit × St)) (n:Nat) (s:St):Le (qds body n s) (qjT body s):=fun _ hr=>qc2.2 ⟨n,hr⟩
theorem qpW (body:St→Option (AExit × St)) (s:St):qjT body s=match body s with | some (.normal,s')=>qjT body s' | r=>r:=by
 have key:∀ r,qjT body s=some r↔(match body s with | some (.normal,s')=>qjT body s' | r=>r)=some r:=by
  intro r
  constructor
  ·intro h
   obtain⟨n,hn⟩:=qc2.1 h
   cases n with
   | zero=>cases hn
   | succ n =>
     rw[qds] at hn
     split at hn
     ·rename_i s' hs'
      rw[hs']
      exact qgO _ _ _ _ hn
     ·rename_i x hx
      split
      ·rename_i s' hs'
       exact absurd hs' (hx s')
      ·exact hn
  ·intro h
   split at h
   ·rename_i s' hs'
    obtain⟨n,hn⟩:=qc2.1 h
    exact qc2.2 ⟨n+1,by rw[qds,hs'];exact hn⟩
   ·rename_i x hx
    refine qc2.2 ⟨1,?_⟩
    rw[qds]
    split
    ·rename_i s' hs'
     exact absurd hs' (hx s')
    ·exact h
 cases hx:qjT body s with
 | some r=>exact ((key r).1 hx).symm
 | none =>
   cases hy:(match body s with | some (.normal,s')=>qjT body s' | r=>r) with
   | none=>rfl
   | some r=>rw[(key r).2 hy] at hx;cases hx
noncomputable def qaW (pure:Nat→Bool) (call:CallT):ACode→St→Option (AExit × St)
 | .skip,s=>some (.normal,s)
 | .ops l,s=>qb2 pure call l s
 | .draw l cs,s=>qgx pure call l cs s
 | .kops l,s=>qdY pure call l s
 | .mdraw k l ns,s=>qtX k l ns s
 | .seq a b,s =>
   (match qaW pure call a s with
   | some (.normal,s')=>qaW pure call b s'
   | r=>r)
 | .cond c a b,s=>(match opd s.tm c with | .bool t=>if t then qaW pure call a s else qaW pure call b s | _=>none)
 | .block id c,s =>
   (match qaW pure call c s with
   | some (.exit id',s')=>if id'=id then some (.normal,s') else some (.exit id',s')
   | r=>r)
 | .loop c,s=>qjT (qaW pure call c) s
 | .gloop k c,s=>qjT (fun s1=>qaW pure call c (gc s.h.length k s1)) s
 | .frame k c,s=>(qaW pure call c s).map (gcE s.h.length k)
 | .freeze t c,s=>qaW pure call c (qeM t s)
 | .view c,s=>qaW pure call c (qn1 s)
 | .range k b c,s=>qj7 (qb2 pure call) k (qaW pure call b) (qaW pure call c) s
 | .exit id,s=>some (.exit id,s)
 | .ret,s=>some (.ret,s)
 | .stuck,_=>none
theorem qmv {pure:Nat→Bool} {c1 c2:CallT} (hc:∀ f a h,Le (c1 f a h) (c2 f a h)) (n:Nat):∀ (c:ACode) (s:St),Le (qaJ pure c1 n c s) (qaW pure c2 c s):=by
 intro c
 induction c with
 | skip=>intro s;exact Le.refl _
 | ops l=>intro s;exact qec hc l s
 | draw l cs=>intro s;exact qkL hc l cs s
 | kops l=>intro s;exact qhF hc l s
 | mdraw k l ns=>intro s;exact Le.refl _
 | seq a b iha ihb =>
   intro s r hr
   rw[qaJ] at hr
   rw[qaW]
   cases hx:qaJ pure c1 n a s with
   | none=>rw[hx] at hr;cases hr
   | some x =>
     rw[iha s x hx]
     rw[hx] at hr
     obtain⟨e,s'⟩:=x
     cases e with
     | normal=>exact ihb _ r hr
     | _=>exact hr
 | cond c a b iha ihb =>
   intro s r hr
   rw[qaJ] at hr
   rw[qaW]
   split
   ·rename_i t ht
    rw[ht] at hr
    cases t with
    | true=>exact iha s r hr
    | false=>exact ihb s r hr
   ·rename_i ht
    split at hr
    ·rename_i t ht'
     exact absurd ht' (ht t)
    ·cases hr
 | block id c ih =>
   intro s r hr
   rw[qaJ] at hr
   rw[qaW]
   cases hx:qaJ pure c1 n c s with
   | none=>rw[hx] at hr;cases hr
   | some x=>rw[ih s x hx];rw[hx] at hr;exact hr
 | loop c ih=>intro s;exact (qen ih (Nat.le_refl n) s).trans (qgO _ _ _)
 | gloop k c ih=>intro s;exact (qen (fun s1=>ih _) (Nat.le_refl n) s).trans (qgO _ _ _)
 | freeze t c ih=>intro s;exact ih _
 | view c ih=>intro s;exact ih _
 | range k b c ihb ihc=>intro s;exact qj8 (fun l s=>qec hc l s) ihb ihc k s
 | frame k c ih =>
   intro s r hr
   rw[qaJ] at hr
   rw[qaW]
   obtain⟨x,hx,rfl⟩:=Option.map_eq_some_iff.1 hr
   rw[ih s x hx]
   rfl
 | exit id=>intro s;exact Le.refl _
 | ret=>intro s;exact Le.refl _
 | stuck=>intro s;exact Le.refl _
section
variable {pure:Nat→Bool} {L:Lib}
theorem qhK {f:Nat} {a:List AVal} {h:Heap} {r:ARes × Heap} (hr:qcE pure (call L) f a h=some r):∃ n,qcE pure (qbO L n) f a h=some r:=by
 unfold qcE at hr
 split at hr
 ·rename_i hp
  cases hx:call L f (a.map wipe) [] with
  | none=>rw[hx] at hr;cases hr
  | some x =>
    rw[hx] at hr
    obtain⟨n,hn⟩:=qdh.1 hx
    refine⟨n,?_⟩
    unfold qcE
    rw[if_pos hp,hn]
    exact hr
 ·rename_i hp
  unfold qkG at hr
  split at hr
  ·rename_i hq
   cases hx:call L f (a.map (ren fun i=>qav i (qbz a h) 0)) (qcA (qbz a h) h) with
   | none=>rw[hx] at hr;cases hr
   | some x =>
     rw[hx] at hr
     obtain⟨n,hn⟩:=qdh.1 hx
     refine⟨n,?_⟩
     unfold qcE qkG
     rw[if_neg hp,if_pos hq,hn]
     exact hr
  ·cases hr
theorem qlD {o:AOp} {tm:Tmps} {h:Heap} {r:ARes × Heap} (hr:aOp pure (call L) o tm h=some r):∃ n,aOp pure (qbO L n) o tm h=some r:=by
 cases o with
 | vcall f args =>
   simp only[aOp] at hr ⊢
   unfold qh5 at hr
   split at hr
   ·rename_i hp
    cases hx:call L f ((args.map (opd tm)).map (lookV h)) [] with
    | none=>rw[hx] at hr;cases hr
    | some x =>
      rw[hx] at hr
      obtain⟨n,hn⟩:=qdh.1 hx
      refine⟨n,?_⟩
      unfold qh5
      rw[if_pos hp,hn]
      exact hr
   ·cases hr
 | hcall f args =>
   simp only[aOp] at hr ⊢
   split at hr
   ·rename_i hf
    exact qdh.1 hr
   ·cases hr
 | call f args =>
   simp only[aOp] at hr ⊢
   split at hr
   ·rename_i hf
    exact qhK hr
   ·cases hr
 | pcallV f args =>
   simp only[aOp] at hr ⊢
   split at hr
   ·rename_i hf
    unfold qj6 at hr
    split at hr
    ·rename_i hc'
     unfold qat at hr
     split at hr
     ·rename_i v h' hd
      obtain⟨n,hn⟩:=qhK hd
      refine⟨n,?_⟩
      unfold qj6
      rw[if_pos hc',hn]
      exact hr
     ·cases hr
    ·cases hr
   ·cases hr
 | pcall f args =>
   simp only[aOp] at hr ⊢
   split at hr
   ·rename_i hc'
    unfold qat at hr
    split at hr
    ·rename_i v h' hd
     obtain⟨n,hn⟩:=qhK hd
     refine⟨n,?_⟩
     rw[if_pos hc',hn]
     exact hr
    ·cases hr
   ·cases hr
 | _=>exact⟨0,hr⟩
theorem qgU:∀ (l:List Step) {s:St} {r:AExit × St},qb2 pure (call L) l s=some r→∃ n,qb2 pure (qbO L n) l s=some r:=by
 intro l
 induction l with
 | nil=>intro s r hr;exact⟨0,hr⟩
 | cons o rest ih =>
   intro s r hr
   rw[qb2] at hr
   split at hr
   ·rename_i hw
    cases hx:aOp pure (call L) o.op s.tm s.h with
    | none=>rw[hx] at hr;cases hr
    | some x =>
      rw[hx] at hr
      obtain⟨n,hn⟩:=qlD hx
      obtain⟨v,h⟩:=x
      cases v with
      | val v =>
        obtain⟨m,hm⟩:=ih hr
        refine⟨max n m,?_⟩
        rw[qb2,hw]
        dsimp only
        rw[qfH (qcg L (Nat.le_max_left n m)) _ _ _ _ hn]
        exact qec (qcg L (Nat.le_max_right n m)) _ _ _ hm
      | panic v =>
        refine⟨n,?_⟩
        rw[qb2,hw]
        dsimp only
        rw[hn]
        exact hr
   ·rename_i hw
    obtain⟨m,hm⟩:=ih hr
    exact⟨m,by rw[qb2,hw];exact hm⟩
   ·cases hr
theorem qtY {o:AOp} {tm:Tmps} {h:Heap} {r:ARes × Heap} (hr:qiH pure (call L) o tm h=some r):∃ n,qiH pure (qbO L n) o tm h=some r:=by
 cases o with
 | pcall f args =>
   simp only[qiH] at hr ⊢
   unfold qm6 at hr
   split at hr
   ·rename_i hp
    cases hx:call L f ((args.map (opd tm)).map wipe) [] with
    | none=>rw[hx] at hr;cases hr
    | some x =>
      rw[hx] at hr
      obtain⟨n,hn⟩:=qdh.1 hx
      refine⟨n,?_⟩
      unfold qm6
      rw[if_pos hp,hn]
      exact hr
   ·cases hr
 | append sz bytes x y =>
   simp only[qiH] at hr ⊢
   split at hr
   ·rename_i hq
    refine⟨0,?_⟩
    rw[if_pos hq]
    exact hr
   ·rename_i hq
    obtain⟨n,hn⟩:=qlD hr
    refine⟨n,?_⟩
    rw[if_neg hq]
    exact hn
 | _=>simp only[qiH] at hr ⊢;exact qlD hr
theorem qrt:∀ (l:List Step) {s:St} {r:AExit × St},qdY pure (call L) l s=some r→∃ n,qdY pure (qbO L n) l s=some r:=by
 intro l
 induction l with
 | nil=>intro s r hr;exact⟨0,hr⟩
 | cons o rest ih =>
   intro s r hr
   rw[qdY] at hr
   split at hr
   ·rename_i hw
    cases hx:qiH pure (call L) o.op s.tm s.h with
    | none=>rw[hx] at hr;cases hr
    | some x =>
      rw[hx] at hr
      obtain⟨n,hn⟩:=qtY hx
      obtain⟨v,h⟩:=x
      cases v with
      | val v =>
        obtain⟨m,hm⟩:=ih hr
        refine⟨max n m,?_⟩
        rw[qdY,hw]
        dsimp only
        rw[qmx (qcg L (Nat.le_max_left n m)) _ _ _ _ hn]
        exact qhF (qcg L (Nat.le_max_right n m)) _ _ _ hm
      | panic v =>
        refine⟨n,?_⟩
        rw[qdY,hw]
        dsimp only
        rw[hn]
        exact hr
   ·rename_i hw
    obtain⟨m,hm⟩:=ih hr
    exact⟨m,by rw[qdY,hw];exact hm⟩
   ·cases hr
theorem qrs:∀ (l:List Step) {tm:Tmps} {hs:List Heap} {h:Heap} {r:Tmps × List Heap × Heap},qcW pure (call L) l tm hs h=some r→∃ n,qcW pure (qbO L n) l tm hs h=some r:=by
 intro l
 induction l with
 | nil=>intro tm hs h r hr;exact⟨0,hr⟩
 | cons o rest ih =>
   intro tm hs h r hr
   rw[qcW] at hr
   split at hr
   ·rename_i hw
    cases hx:aOp pure (call L) o.op tm h with
    | none=>rw[hx] at hr;cases hr
    | some x =>
      rw[hx] at hr
      obtain⟨n,hn⟩:=qlD hx
      obtain⟨v,h'⟩:=x
      cases v with
      | val v =>
        obtain⟨m,hm⟩:=ih hr
        refine⟨max n m,?_⟩
        rw[qcW,hw]
        dsimp only
        rw[qfH (qcg L (Nat.le_max_left n m)) _ _ _ _ hn]
        exact qkM (qcg L (Nat.le_max_right n m)) _ _ _ _ _ hm
      | panic v=>cases hr
   ·rename_i hw
    obtain⟨m,hm⟩:=ih hr
    exact⟨m,by rw[qcW,hw];exact hm⟩
   ·cases hr
theorem qpX (c:ACode) (g:St→St) (ih:∀ {s:St} {r:AExit × St},qaW pure (call L) c s=some r→∃ n,qaJ pure (qbO L n) n c s=some r) {r:AExit × St} :
  ∀ k s,qds (fun s1=>qaW pure (call L) c (g s1)) k s=some r→∃ n,qds (fun s1=>qaJ pure (qbO L n) n c (g s1)) n s=some r:=by
 intro k
 induction k with
 | zero=>intro s h;cases h
 | succ k ihk =>
   intro s h
   rw[qds] at h
   cases hx:qaW pure (call L) c (g s) with
   | none=>rw[hx] at h;cases h
   | some x =>
     rw[hx] at h
     obtain⟨n,hn⟩:=ih hx
     obtain⟨e,s'⟩:=x
     cases e with
     | normal =>
       obtain⟨m,hm⟩:=ihk s' h
       refine⟨max n m+1,?_⟩
       rw[qds,qct (qcg L (Nat.le_trans (Nat.le_max_left n m) (Nat.le_succ _))) (Nat.le_trans (Nat.le_max_left n m) (Nat.le_succ _)) _ _ _ hn]
       exact qen (fun s=>qct (qcg L (Nat.le_trans (Nat.le_max_right n m) (Nat.le_succ _))) (Nat.le_trans (Nat.le_max_right n m) (Nat.le_succ _)) _ _) (Nat.le_max_right n m) _ _ hm
     | _ =>
       refine⟨n+1,?_⟩
       rw[qds,qct (qcg L (Nat.le_succ n)) (Nat.le_succ n) _ _ _ hn]
       exact h
def qlk (x:AVal × AVal):List (AVal × AVal)→List (List (AVal × AVal))
 | []=>[[x]]
 | y::ys=>(x::y::ys)::(qlk x ys).map (y::·)
def qfb:List (AVal × AVal)→List (List (AVal × AVal))
 | []=>[[]]
 | x::xs=>(qfb xs).flatMap (qlk x)
theorem qlc (x:AVal × AVal):∀ l r:List (AVal × AVal),l++x::r∈qlk x (l++r)
 | [],[]=>by simp[qlk]
 | [],y::ys=>by simp[qlk]
 | y :: l,r => by
   simp only[List.cons_append,qlk,List.mem_cons,List.mem_map]
   exact .inr ⟨_,qlc x l r,rfl⟩
theorem qhw:∀ (es es':List (AVal × AVal)),es'.Perm es→es'∈qfb es
 | [],es',h=>by rw[h.eq_nil];simp[qfb]
 | x :: xs,es',h => by
   obtain⟨l,r,rfl⟩:=List.append_of_mem (h.mem_iff.2 (List.mem_cons_self ..))
   have h1:(l++r).Perm xs:=by
    have:=(List.perm_middle (a:=x) (l₁:=l) (l₂:=r)).symm.trans h
    exact this.cons_inv
   simp only[qfb,List.mem_flatMap]
   exact⟨_,qhw xs _ h1,qlc x l r⟩
theorem qsa {α:Type} (Q:Nat→α→Prop) (hm:∀ n m a,n≤m→Q n a→Q m a):∀ (l:List α),(∀ a∈l,∃ n,Q n a)→∃ n,∀ a∈l,Q n a
 | [],_=>⟨0,fun a ha=>by cases ha⟩
 | a :: l,h => by
   obtain⟨n,hn⟩:=h a (by simp)
   obtain⟨m,hm'⟩:=qsa Q hm l fun b hb=>h b (by simp[hb])
   refine⟨max n m,fun b hb=>?_⟩
   rcases List.mem_cons.1 hb with rfl | hb
   ·exact hm _ _ _ (Nat.le_max_left n m) hn
   ·exact hm _ _ _ (Nat.le_max_right n m) (hm' b hb)
section
variable {b c:ACode}
theorem qd9 {n m:Nat} (h:n≤m) (l:List Step) (s:St):Le (qb2 pure (qbO L n) l s) (qb2 pure (qbO L m) l s):=qec (qcg L h) l s
theorem qdy {n m:Nat} (h:n≤m) (s:St):Le (qaJ pure (qbO L n) n b s) (qaJ pure (qbO L m) m b s):=qct (qcg L h) h b s
theorem qkH (hb:∀ {s:St} {r:AExit × St},qaW pure (call L) b s=some r→∃ n,qaJ pure (qbO L n) n b s=some r) (i:Nat) (k:RangeK) (e:AVal × AVal) {s:St} {r:AExit × St}
  (hr:qbg (qb2 pure (call L)) i k (qaW pure (call L) b) e s=some r):∃ n,qbg (qb2 pure (qbO L n)) i k (qaJ pure (qbO L n) n b) e s=some r:=by
 unfold qbg at hr
 split at hr
 case isFalse=>cases hr
 rename_i g0
 cases hx:qb2 pure (call L) k.r1 ⟨upd s.tm (some k.dn) (.tuple [.bool true,e.1,e.2]),s.h⟩ with
 | none=>rw[hx] at hr;cases hr
 | some x =>
   rw[hx] at hr
   obtain⟨n1,hn1⟩:=qgU _ hx
   obtain⟨q,s1⟩:=x
   cases q with
   | normal =>
     dsimp only at hr
     split at hr
     case isFalse=>cases hr
     rename_i g1
     split at hr
     ·rename_i hq
      unfold qki at hr
      cases hy:qb2 pure (call L) k.r2 ⟨upd s1.tm k.de (.tuple [e.1,e.2]),s1.h⟩ with
      | none=>rw[hy] at hr;cases hr
      | some y =>
        rw[hy] at hr
        obtain⟨n2,hn2⟩:=qgU _ hy
        obtain⟨q2,s2⟩:=y
        cases q2 with
        | normal =>
          dsimp only at hr
          cases hz:qaW pure (call L) b s2 with
          | none=>rw[hz] at hr;cases hr
          | some z =>
            obtain⟨n3,hn3⟩:=hb hz
            rw[hz] at hr
            refine⟨max n1 (max n2 n3),?_⟩
            unfold qbg qki
            rw[if_pos g0,qd9 (Nat.le_max_left _ _) _ _ _ hn1]
            dsimp only
            rw[if_pos g1,hq]
            dsimp only
            rw[qd9 (Nat.le_trans (Nat.le_max_left n2 n3) (Nat.le_max_right _ _)) _ _ _ hn2]
            dsimp only
            rw[qdy (Nat.le_trans (Nat.le_max_right n2 n3) (Nat.le_max_right _ _)) _ _ hn3]
            exact hr
        | _ =>
          refine⟨max n1 n2,?_⟩
          unfold qbg qki
          rw[if_pos g0,qd9 (Nat.le_max_left _ _) _ _ _ hn1]
          dsimp only
          rw[if_pos g1,hq]
          dsimp only
          rw[qd9 (Nat.le_max_right _ _) _ _ _ hn2]
          exact hr
     ·cases hr
   | _=>cases hr
theorem qnz (i:Nat) (k:RangeK) {s:St} {r:AExit × St} (hr:qbF (qb2 pure (call L)) i k s=some r):∃ n,qbF (qb2 pure (qbO L n)) i k s=some r:=by
 unfold qbF at hr
 split at hr
 case isFalse=>cases hr
 rename_i g0
 cases hx:qb2 pure (call L) k.r1 ⟨upd s.tm (some k.dn) (.tuple [.bool false]),s.h⟩ with
 | none=>rw[hx] at hr;cases hr
 | some x =>
   rw[hx] at hr
   obtain⟨n1,hn1⟩:=qgU _ hx
   exact⟨n1,by unfold qbF;rw[if_pos g0,hn1];exact hr⟩
theorem qit (hb:∀ {s:St} {r:AExit × St},qaW pure (call L) b s=some r→∃ n,qaJ pure (qbO L n) n b s=some r) (i:Nat) (k:RangeK):∀ (es:List (AVal × AVal)) {s:St} {r:AExit × St},
  qbh (qb2 pure (call L)) i k (qaW pure (call L) b) es s=some r→∃ n,qbh (qb2 pure (qbO L n)) i k (qaJ pure (qbO L n) n b) es s=some r
 | [],s,r,hr=>qnz i k hr
 | e :: es,s,r,hr => by
   rw[qbh] at hr
   cases hx:qbg (qb2 pure (call L)) i k (qaW pure (call L) b) e (gc (i+1) k.kr s) with
   | none=>rw[hx] at hr;cases hr
   | some x =>
     rw[hx] at hr
     obtain⟨n,hn⟩:=qkH hb i k e hx
     obtain⟨q,s1⟩:=x
     cases q with
     | normal =>
       obtain⟨m,hm⟩:=qit hb i k es hr
       refine⟨max n m,?_⟩
       rw[qbh,qfv (fun l s=>qd9 (Nat.le_max_left n m) l s) (fun s=>qdy (Nat.le_max_left n m) s) i k e _ _ hn]
       exact qdF (fun l s=>qd9 (Nat.le_max_right n m) l s) (fun s=>qdy (Nat.le_max_right n m) s) i k es _ _ hm
     | _=>exact⟨n,by rw[qbh,hn];exact hr⟩
theorem qnA (hb:∀ {s:St} {r:AExit × St},qaW pure (call L) b s=some r→∃ n,qaJ pure (qbO L n) n b s=some r) (hc:∀ {s:St} {r:AExit × St},qaW pure (call L) c s=some r→∃ n,qaJ pure (qbO L n) n c s=some r)
  (k:RangeK) (s s1:St) (es:List (AVal × AVal)) {r:AExit × St} (hr:qcm (qb2 pure (call L)) k (qaW pure (call L) b) (qaW pure (call L) c) s s1 es=some r) :
  ∃ n,qcm (qb2 pure (qbO L n)) k (qaJ pure (qbO L n) n b) (qaJ pure (qbO L n) n c) s s1 es=some r:=by
 unfold qcm at hr
 obtain⟨x,hx,rfl⟩:=Option.map_eq_some_iff.1 hr
 cases hy:qbh (qb2 pure (call L)) s1.h.length k (qaW pure (call L) b) es ⟨upd s1.tm (some k.it) (.ptr (some (s1.h.length,0))),qkC (opd s1.tm k.m) s1.h⟩ with
 | none=>rw[hy] at hx;cases hx
 | some y =>
   rw[hy] at hx
   obtain⟨n,hn⟩:=qit hb _ k es hy
   obtain⟨q,s2⟩:=y
   cases q with
   | normal =>
     obtain⟨m,hm⟩:=hc hx
     refine⟨max n m,?_⟩
     unfold qcm
     rw[qdF (fun l s=>qd9 (Nat.le_max_left n m) l s) (fun s=>qdy (Nat.le_max_left n m) s) _ k es _ _ hn]
     dsimp only
     rw[qdy (Nat.le_max_right n m) _ _ hm]
     rfl
   | _ =>
     refine⟨n,?_⟩
     unfold qcm
     rw[hn]
     dsimp only at hx ⊢
     rw[hx]
     rfl
end
theorem qrq:∀ (c:ACode) {s:St} {r:AExit × St},qaW pure (call L) c s=some r→∃ n,qaJ pure (qbO L n) n c s=some r:=by
 intro c
 induction c with
 | skip=>intro s r hr;exact⟨0,hr⟩
 | ops l=>intro s r hr;exact qgU l hr
 | kops l=>intro s r hr;exact qrt l hr
 | mdraw k l ns=>intro s r hr;exact⟨0,hr⟩
 | draw l cs =>
   intro s r hr
   rw[qaW] at hr
   unfold qgx at hr
   cases hx:qcW pure (call L) l s.tm [] s.h with
   | none=>rw[hx] at hr;cases hr
   | some x =>
     rw[hx] at hr
     obtain⟨n,hn⟩:=qrs l hx
     exact⟨n,by rw[qaJ];unfold qgx;rw[hn];exact hr⟩
 | seq a b iha ihb =>
   intro s r hr
   rw[qaW] at hr
   cases hx:qaW pure (call L) a s with
   | none=>rw[hx] at hr;cases hr
   | some x =>
     rw[hx] at hr
     obtain⟨n,hn⟩:=iha hx
     obtain⟨e,s'⟩:=x
     cases e with
     | normal =>
       obtain⟨m,hm⟩:=ihb hr
       refine⟨max n m,?_⟩
       rw[qaJ,qct (qcg L (Nat.le_max_left n m)) (Nat.le_max_left n m) _ _ _ hn]
       exact qct (qcg L (Nat.le_max_right n m)) (Nat.le_max_right n m) _ _ _ hm
     | _=>exact⟨n,by rw[qaJ,hn];exact hr⟩
 | cond c a b iha ihb =>
   intro s r hr
   rw[qaW] at hr
   split at hr
   ·rename_i t ht
    cases t with
    | true =>
      obtain⟨n,hn⟩:=iha hr
      exact⟨n,by rw[qaJ,ht];exact hn⟩
    | false =>
      obtain⟨n,hn⟩:=ihb hr
      exact⟨n,by rw[qaJ,ht];exact hn⟩
   ·cases hr
 | block id c ih =>
   intro s r hr
   rw[qaW] at hr
   cases hx:qaW pure (call L) c s with
   | none=>rw[hx] at hr;cases hr
   | some x =>
     rw[hx] at hr
     obtain⟨n,hn⟩:=ih hx
     exact⟨n,by rw[qaJ,hn];exact hr⟩
 | loop c ih =>
   intro s r hr
   rw[qaW] at hr
   obtain⟨k,hk⟩:=qc2.1 hr
   obtain⟨n,hn⟩:=qpX c (fun s=>s) (fun hx=>ih hx) k s hk
   exact⟨n,by rw[qaJ];exact hn⟩
 | gloop kp c ih =>
   intro s r hr
   rw[qaW] at hr
   obtain⟨k,hk⟩:=qc2.1 hr
   obtain⟨n,hn⟩:=qpX c (fun s1=>gc s.h.length kp s1) (fun hx=>ih hx) k s hk
   exact⟨n,by rw[qaJ];exact hn⟩
 | view c ih =>
   intro s r hr
   obtain⟨n,hn⟩:=ih hr
   exact⟨n,hn⟩
 | freeze t c ih =>
   intro s r hr
   obtain⟨n,hn⟩:=ih hr
   exact⟨n,hn⟩
 | range k b c ihb ihc =>
   intro s r hr
   rw[qaW,qet] at hr
   cases hx:qb2 pure (call L) k.pre s with
   | none=>rw[hx] at hr;cases hr
   | some x =>
     rw[hx] at hr
     obtain⟨n,hn⟩:=qgU _ hx
     obtain⟨q,s1⟩:=x
     cases q with
     | normal =>
       dsimp only at hr
       split at hr
       ·rename_i es hes
        have h1:=(qcu (qbK _ _)).1 hr
        obtain⟨m,hm⟩:=qsa (fun n es'=>qcc k.str es es'→qcm (qb2 pure (qbO L n)) k (qaJ pure (qbO L n) n b) (qaJ pure (qbO L n) n c) s s1 es'=some r)
         (fun n m a hnm h ho=>qeS (fun l s=>qd9 hnm l s) (fun s=>qdy hnm s) (fun s=>qdy hnm s) k s s1 a r (h ho)) (es::qfb es)
         (fun a _=>by
          by_cases ho:qcc k.str es a
          ·obtain⟨n,hn⟩:=qnA ihb ihc k s s1 a (h1 a ho)
           exact⟨n,fun _=>hn⟩
          ·exact⟨0,fun h=>absurd h ho⟩)
        refine⟨max n m,?_⟩
        rw[qaJ,qet,qd9 (Nat.le_max_left n m) _ _ _ hn]
        dsimp only
        rw[hes]
        dsimp only
        refine (qcu (qbK _ _)).2 fun es' he=>?_
        refine qeS (fun l s=>qd9 (Nat.le_max_right n m) l s) (fun s=>qdy (Nat.le_max_right n m) s) (fun s=>qdy (Nat.le_max_right n m) s) k s s1 es' r (hm es' ?_ he)
        unfold qcc at he
        split at he
        ·rw[he];simp
        ·exact List.mem_cons_of_mem _ (qhw es es' he)
       ·cases hr
     | _=>cases hr
 | frame kp c ih =>
   intro s r hr
   rw[qaW] at hr
   obtain⟨x,hx,rfl⟩:=Option.map_eq_some_iff.1 hr
   obtain⟨n,hn⟩:=ih hx
   exact⟨n,by rw[qaJ,hn];rfl⟩
 | exit id=>intro s r hr;exact⟨0,hr⟩
 | ret=>intro s r hr;exact⟨0,hr⟩
 | stuck=>intro s r hr;exact⟨0,hr⟩
end
theorem qaD {L:Lib} {f:Nat} {fn:AFn} (hs:L.summ f=none) (hf:L.fns f=some fn) {a:List AVal} {h:Heap} {r:ARes × Heap}
  (hr:qao fn.results (qaW L.pure (call L) fn.body ⟨qdQ a,h⟩)=some r):call L f a h=some r:=by
 cases hx:qaW L.pure (call L) fn.body ⟨qdQ a,h⟩ with
 | none=>rw[hx] at hr;cases hr
 | some x =>
   rw[hx] at hr
   obtain⟨n,hn⟩:=qrq _ hx
   refine qdh.2 ⟨n+1,?_⟩
   rw[qbO,hs]
   dsimp only
   rw[hf]
   dsimp only
   rw[hn]
   exact hr
theorem qg2 {L:Lib} {f:Nat} {s:List AVal→Heap→Option (ARes × Heap)} (hs:L.summ f=some s) {a:List AVal} {h:Heap} {r:ARes × Heap} (hr:s a h=some r):call L f a h=some r :=
 qdh.2 ⟨1,by rw[qbO,hs];exact hr⟩
end Go.Abs
