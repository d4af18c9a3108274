/-
  The abstract machine without bounds: calls and loops as limits of the bounded ones; each is what its body says.
-/
import Derived.Test.YtbmognfolkhkpaaDoorAbsA
set_option linter.unusedVariables false
namespace Go.Abs
def Le {α:Type} (x y:Option α):Prop:=∀ r,x=some r→y=some r
theorem Le.refl {α:Type} (x:Option α):Le x x:=fun _ h=>h
theorem Le.trans {α:Type} {x y z:Option α} (h:Le x y) (h':Le y z):Le x z:=fun r e=>h' r (h r e)
theorem Le.none {α:Type} (y:Option α):Le (Option.none:Option α) y:=fun _ h=>by cases h
open Classical in
noncomputable def lim {α:Type} (f:Nat→Option α):Option α:=if h:∃ n,(f n).isSome=true then f (Classical.choose h) else none
theorem qmJ {α:Type} {f:Nat→Option α} (hm:∀ n,Le (f n) (f (n+1))):∀ {a b:Nat},a≤b→Le (f a) (f b):=by
 intro a b hab
 induction hab with
 | refl=>exact Le.refl _
 | step _ ih=>exact ih.trans (hm _)
theorem qp4 {α:Type} {f:Nat→Option α} (hm:∀ n,Le (f n) (f (n+1))) {r:α}:lim f=some r↔∃ n,f n=some r:=by
 constructor
 ·intro h
  unfold lim at h
  split at h
  ·exact⟨_,h⟩
  ·cases h
 ·rintro ⟨n,hn⟩
  have hx:∃ n,(f n).isSome=true:=⟨n,by rw[hn];rfl⟩
  unfold lim
  rw[dif_pos hx]
  have h1:=Classical.choose_spec hx
  obtain⟨r',hr'⟩:=Option.isSome_iff_exists.1 h1
  rw[hr']
  have a:=qmJ hm (Nat.le_max_left n (Classical.choose hx)) r hn
  have b:=qmJ hm (Nat.le_max_right n (Classical.choose hx)) r' hr'
  rw[a] at b
  injection b with b
  rw[b]
theorem qlS (body:St→Option (AExit × St)):∀ n s,Le (qeY body n s) (qeY body (n+1) s):=by
 intro n
 induction n with
 | zero=>intro s r h;cases h
 | succ n ih =>
   intro s r h
   rw[qeY] at h ⊢
   split
   ·rename_i s' hb
    rw[hb] at h
    exact ih s' r h
   ·rename_i r' hr'
    split at h
    ·rename_i s' hs'
     exact absurd hs' (hr' s')
    ·exact h
theorem qiU {b1 b2:St→Option (AExit × St)} (hb:∀ s,Le (b1 s) (b2 s)):∀ {n m:Nat},n≤m→∀ s,Le (qeY b1 n s) (qeY b2 m s):=by
 intro n m hnm s
 refine Le.trans ?_ (qmJ (f:=fun k=>qeY b2 k s) (fun k=>qlS b2 k s) hnm)
 clear hnm
 induction n generalizing s with
 | zero=>intro r h;cases h
 | succ n ih =>
   intro r h
   rw[qeY] at h ⊢
   cases hx:b1 s with
   | none=>rw[hx] at h;cases h
   | some x =>
     rw[hb s x hx]
     rw[hx] at h
     obtain⟨e,s'⟩:=x
     cases e with
     | normal=>exact ih s' r h
     | _=>exact h
section
variable {pure:Nat→Bool} {c1 c2:CallT}
theorem qqR (hc:∀ f a h,Le (c1 f a h) (c2 f a h)) (f:Nat) (a:List AVal) (h:Heap):Le (qlj c1 f a h) (qlj c2 f a h):=by
 intro r hr
 unfold qlj at hr ⊢
 split
 ·rename_i hp
  rw[if_pos hp] at hr
  cases hx:c1 f (a.map (ren fun i=>qa5 i (qcy a h) 0)) (qdF (qcy a h) h) with
  | none=>rw[hx] at hr;cases hr
  | some x=>rw[hc _ _ _ x hx];rw[hx] at hr;exact hr
 ·rename_i hp
  rw[if_neg hp] at hr
  cases hr
theorem qhB (hc:∀ f a h,Le (c1 f a h) (c2 f a h)) (f:Nat) (a:List AVal) (h:Heap):Le (qdJ pure c1 f a h) (qdJ pure c2 f a h):=by
 intro r hr
 unfold qdJ at hr ⊢
 split
 ·rename_i hp
  rw[if_pos hp] at hr
  cases hx:c1 f (a.map wipe) [] with
  | none=>rw[hx] at hr;cases hr
  | some x=>rw[hc _ _ _ x hx];rw[hx] at hr;exact hr
 ·rename_i hp
  rw[if_neg hp] at hr
  exact qqR hc _ _ _ _ hr
theorem qqP (hc:∀ f a h,Le (c1 f a h) (c2 f a h)) (g:Nat) (xs:List AVal) (h:Heap):Le (qkS pure c1 g xs h) (qkS pure c2 g xs h):=by
 intro r hr
 unfold qkS at hr ⊢
 split
 ·rename_i hc'
  rw[if_pos hc'] at hr
  unfold qa3 at hr ⊢
  split at hr
  ·rename_i v h' hd
   rw[qhB hc _ _ _ _ hd]
   exact hr
  ·cases hr
 ·rename_i hc'
  rw[if_neg hc'] at hr
  cases hr
theorem qq4 (hc:∀ f a h,Le (c1 f a h) (c2 f a h)) (f:Nat) (a:List AVal) (h:Heap):Le (qi7 c1 f a h) (qi7 c2 f a h):=by
 intro r hr
 unfold qi7 at hr ⊢
 split
 ·rename_i hp
  rw[if_pos hp] at hr
  cases hx:c1 f (a.map (lookV h)) [] with
  | none=>rw[hx] at hr;cases hr
  | some x=>rw[hc _ _ _ x hx];rw[hx] at hr;exact hr
 ·rename_i hp
  rw[if_neg hp] at hr
  cases hr
theorem qgP (hc:∀ f a h,Le (c1 f a h) (c2 f a h)) (o:AOp) (tm:Tmps) (h:Heap):Le (aOp pure c1 o tm h) (aOp pure c2 o tm h):=by
 intro r hr
 cases o with
 | vcall f args=>exact qq4 hc _ _ _ _ hr
 | hcall f args =>
   simp only[aOp] at hr ⊢
   split
   ·rename_i hf
    rw[hf] at hr
    exact hc _ _ _ _ hr
   ·rename_i hf
    split at hr
    ·rename_i hf'
     exact absurd hf' (hf _ _ _)
    ·cases hr
 | call f args =>
   simp only[aOp] at hr ⊢
   split
   ·rename_i hf
    rw[hf] at hr
    exact qhB hc _ _ _ _ hr
   ·rename_i hf
    split at hr
    ·rename_i hf'
     exact absurd hf' (hf _ _ _)
    ·cases hr
 | pcallV f args =>
   simp only[aOp] at hr ⊢
   split
   ·rename_i hf
    rw[hf] at hr
    exact qqP hc _ _ _ _ hr
   ·rename_i hf
    split at hr
    ·rename_i hf'
     exact absurd hf' (hf _ _ _)
    ·cases hr
 | pcall f args =>
   simp only[aOp] at hr ⊢
   split
   ·rename_i hc'
    rw[if_pos hc'] at hr
    unfold qa3 at hr ⊢
    split at hr
    ·rename_i v h' hd
     rw[qhB hc _ _ _ _ hd]
     exact hr
    ·cases hr
   ·rename_i hc'
    rw[if_neg hc'] at hr
    cases hr
 | _=>exact hr
theorem qhR (hc:∀ f a h,Le (c1 f a h) (c2 f a h)):∀ (l:List Step) (s:St),Le (qdm pure c1 l s) (qdm pure c2 l s):=by
 intro l
 induction l with
 | nil=>intro s;exact Le.refl _
 | cons o rest ih =>
   intro s r hr
   rw[qdm] at hr ⊢
   split
   ·rename_i hw
    rw[hw] at hr
    dsimp only at hr
    cases hx:aOp pure c1 o.op s.tm s.h with
    | none=>rw[hx] at hr;cases hr
    | some x =>
      rw[qgP hc _ _ _ x hx]
      rw[hx] at hr
      obtain⟨v,h⟩:=x
      cases v with
      | val v=>exact ih _ r hr
      | panic v=>exact hr
   ·rename_i hw
    rw[hw] at hr
    exact ih _ r hr
   ·rename_i hw
    rw[hw] at hr
    cases hr
theorem qqD (hc:∀ f a h,Le (c1 f a h) (c2 f a h)) (f:Nat) (a:List AVal) (h:Heap):Le (qnI c1 f a h) (qnI c2 f a h):=by
 intro r hr
 unfold qnI at hr ⊢
 split
 ·rename_i hp
  rw[if_pos hp] at hr
  cases hx:c1 f (a.map wipe) [] with
  | none=>rw[hx] at hr;cases hr
  | some x=>rw[hc _ _ _ x hx];rw[hx] at hr;exact hr
 ·rename_i hp
  rw[if_neg hp] at hr
  cases hr
theorem qm7 (hc:∀ f a h,Le (c1 f a h) (c2 f a h)) (o:AOp) (tm:Tmps) (h:Heap):Le (qlq pure c1 o tm h) (qlq pure c2 o tm h):=by
 intro r hr
 cases o with
 | pcall f args=>exact qqD hc _ _ _ _ hr
 | append sz bytes x y =>
   simp only[qlq] at hr ⊢
   split
   ·rename_i hq
    rw[if_pos hq] at hr
    exact hr
   ·rename_i hq
    rw[if_neg hq] at hr
    exact qgP hc _ tm h r hr
 | _=>simp only[qlq] at hr ⊢;exact qgP hc _ tm h r hr
theorem qls (hc:∀ f a h,Le (c1 f a h) (c2 f a h)):∀ (l:List Step) (s:St),Le (qfk pure c1 l s) (qfk pure c2 l s):=by
 intro l
 induction l with
 | nil=>intro s;exact Le.refl _
 | cons o rest ih =>
   intro s r hr
   rw[qfk] at hr ⊢
   split
   ·rename_i hw
    rw[hw] at hr
    dsimp only at hr
    cases hx:qlq pure c1 o.op s.tm s.h with
    | none=>rw[hx] at hr;cases hr
    | some x =>
      rw[qm7 hc _ _ _ x hx]
      rw[hx] at hr
      obtain⟨v,h⟩:=x
      cases v with
      | val v=>exact ih _ r hr
      | panic v=>exact hr
   ·rename_i hw
    rw[hw] at hr
    exact ih _ r hr
   ·rename_i hw
    rw[hw] at hr
    cases hr
theorem qlr (hc:∀ f a h,Le (c1 f a h) (c2 f a h)):∀ (l:List Step) (tm:Tmps) (hs:List Heap) (h:Heap),Le (qeC pure c1 l tm hs h) (qeC pure c2 l tm hs h):=by
 intro l
 induction l with
 | nil=>intro tm hs h;exact Le.refl _
 | cons o rest ih =>
   intro tm hs h r hr
   rw[qeC] at hr ⊢
   split
   ·rename_i hw
    rw[hw] at hr
    dsimp only at hr
    cases hx:aOp pure c1 o.op tm h with
    | none=>rw[hx] at hr;cases hr
    | some x =>
      rw[qgP hc _ _ _ x hx]
      rw[hx] at hr
      obtain⟨v,h'⟩:=x
      cases v with
      | val v=>exact ih _ _ _ r hr
      | panic v=>exact hr
   ·rename_i hw
    rw[hw] at hr
    exact ih _ _ _ r hr
   ·rename_i hw
    rw[hw] at hr
    cases hr
section
variable {o1 o2:List Step→St→Option (AExit × St)} {b1 b2 c1' c2':St→Option (AExit × St)}
theorem qng {id:Nat} {x y:Option (AExit × St)} (h:Le x y):Le (qff id x) (qff id y):=by
 intro r hr
 cases x with
 | none=>cases hr
 | some x=>rw[h x rfl];exact hr
theorem qgG (ho:∀ l s,Le (o1 l s) (o2 l s)) (hb:∀ s,Le (b1 s) (b2 s)) (n:Nat) (k:RangeK) (e:AVal × AVal) (s:St):Le (qcm o1 n k b1 e s) (qcm o2 n k b2 e s):=by
 intro r hr
 unfold qcm at hr ⊢
 split
 case isFalse h0=>rw[if_neg h0] at hr;cases hr
 rename_i h0
 rw[if_pos h0] at hr
 cases hx:o1 k.r1 ⟨upd s.tm (some k.dn) (.tuple [.bool true,e.1,e.2]),s.h⟩ with
 | none=>rw[hx] at hr;cases hr
 | some x =>
   rw[ho _ _ x hx]
   rw[hx] at hr
   obtain⟨q,s1⟩:=x
   cases q with
   | normal =>
     dsimp only at hr ⊢
     split
     case isFalse h1=>rw[if_neg h1] at hr;cases hr
     rename_i h1
     rw[if_pos h1] at hr
     split
     ·rename_i hq
      rw[hq] at hr
      refine qng (id:=k.id2) ?_ r hr
      intro r2 hr2
      unfold qln at hr2 ⊢
      cases hy:o1 k.r2 ⟨upd s1.tm k.de (.tuple [e.1,e.2]),s1.h⟩ with
      | none=>rw[hy] at hr2;cases hr2
      | some y =>
        rw[ho _ _ y hy]
        rw[hy] at hr2
        obtain⟨q2,s2⟩:=y
        cases q2 with
        | normal=>exact hb _ r2 hr2
        | _=>exact hr2
     ·rename_i hq
      split at hr
      ·rename_i hq'
       exact absurd hq' hq
      ·cases hr
   | _=>cases hr
theorem qmQ (ho:∀ l s,Le (o1 l s) (o2 l s)) (n:Nat) (k:RangeK) (s:St):Le (qcN o1 n k s) (qcN o2 n k s):=by
 intro r hr
 unfold qcN at hr ⊢
 split
 case isFalse h0=>rw[if_neg h0] at hr;cases hr
 rename_i h0
 rw[if_pos h0] at hr
 cases hx:o1 k.r1 ⟨upd s.tm (some k.dn) (.tuple [.bool false]),s.h⟩ with
 | none=>rw[hx] at hr;cases hr
 | some x =>
   rw[ho _ _ x hx]
   rw[hx] at hr
   exact hr
theorem qeL (ho:∀ l s,Le (o1 l s) (o2 l s)) (hb:∀ s,Le (b1 s) (b2 s)) (n:Nat) (k:RangeK):∀ (es:List (AVal × AVal)) (s:St),Le (qcp o1 n k b1 es s) (qcp o2 n k b2 es s)
 | [],s=>qmQ ho n k _
 | e :: es,s => by
   intro r hr
   rw[qcp] at hr ⊢
   cases hx:qcm o1 n k b1 e (gc (n+1) k.kr s) with
   | none=>rw[hx] at hr;cases hr
   | some x =>
     rw[qgG ho hb n k e _ x hx]
     rw[hx] at hr
     obtain⟨q,s1⟩:=x
     cases q with
     | normal=>exact qeL ho hb n k es s1 r hr
     | _=>exact hr
theorem qd6 {O:List (AVal × AVal)→Prop} (hO:∃ es,O es) {f:List (AVal × AVal)→Option (AExit × St)} {r:AExit × St}:qnb O f=some r↔∀ es,O es→f es=some r:=by
 constructor
 ·intro h
  unfold qnb at h
  split at h
  ·rename_i hx
   injection h with h
   rw[← h]
   exact Classical.choose_spec hx
  ·cases h
 ·intro h
  have hx:∃ r,∀ es,O es→f es=some r:=⟨r,h⟩
  unfold qnb
  rw[dif_pos hx]
  obtain⟨es,he⟩:=hO
  have h1:=Classical.choose_spec hx es he
  rw[h es he] at h1
  exact h1.symm
theorem qcU (str:Bool) (es:List (AVal × AVal)):∃ es',qdt str es es':=⟨es,by unfold qdt;split<;>first | rfl | exact .refl _⟩
def qdy (ops:List Step→St→Option (AExit × St)) (k:RangeK) (runB runC:St→Option (AExit × St)) (s s1:St) (es:List (AVal × AVal)):Option (AExit × St) :=
 (match qcp ops s1.h.length k runB es ⟨upd s1.tm (some k.it) (.ptr (some (s1.h.length,0))),qoG (opd s1.tm k.m) s1.h⟩ with
  | some (.normal,s2)=>runC ⟨s2.tm,qew (opd s1.tm k.m) s1.h s2.h⟩
  | some (e,s2)=>some (e,⟨s2.tm,qew (opd s1.tm k.m) s1.h s2.h⟩)
  | none=>none).map (gcE s.h.length k.keep)
theorem qgF (ops:List Step→St→Option (AExit × St)) (k:RangeK) (runB runC:St→Option (AExit × St)) (s:St):ql5 ops k runB runC s=match ops k.pre s with
 | some (.normal,s1) => (match qep k.str (opd s1.tm k.m) s1.h with
   | some es=>qnb (qdt k.str es) (qdy ops k runB runC s s1)
   | none=>none)
 | _=>none:=rfl
theorem qfZ (ho:∀ l s,Le (o1 l s) (o2 l s)) (hb:∀ s,Le (b1 s) (b2 s)) (hc:∀ s,Le (c1' s) (c2' s)) (k:RangeK) (s s1:St) (es:List (AVal × AVal)):Le (qdy o1 k b1 c1' s s1 es) (qdy o2 k b2 c2' s s1 es):=by
 intro r hr
 unfold qdy at hr ⊢
 obtain⟨x,hx,rfl⟩:=Option.map_eq_some_iff.1 hr
 refine Option.map_eq_some_iff.2 ⟨x,?_,rfl⟩
 cases hy:qcp o1 s1.h.length k b1 es ⟨upd s1.tm (some k.it) (.ptr (some (s1.h.length,0))),qoG (opd s1.tm k.m) s1.h⟩ with
 | none=>rw[hy] at hx;cases hx
 | some y =>
   rw[qeL ho hb _ k _ _ y hy]
   rw[hy] at hx
   obtain⟨q,s2⟩:=y
   cases q with
   | normal=>exact hc _ x hx
   | _=>exact hx
theorem qpi (ho:∀ l s,Le (o1 l s) (o2 l s)) (hb:∀ s,Le (b1 s) (b2 s)) (hc:∀ s,Le (c1' s) (c2' s)) (k:RangeK) (s:St):Le (ql5 o1 k b1 c1' s) (ql5 o2 k b2 c2' s):=by
 intro r hr
 rw[qgF] at hr ⊢
 cases hx:o1 k.pre s with
 | none=>rw[hx] at hr;cases hr
 | some x =>
   rw[ho _ _ x hx]
   rw[hx] at hr
   obtain⟨q,s1⟩:=x
   cases q with
   | normal =>
     dsimp only at hr ⊢
     split
     ·rename_i es hes
      rw[hes] at hr
      have h1:=(qd6 (qcU _ _)).1 hr
      exact (qd6 (qcU _ _)).2 fun es' he=>qfZ ho hb hc k s s1 es' r (h1 es' he)
     ·rename_i hes
      rw[hes] at hr
      cases hr
   | _=>cases hr
end
theorem qqo (hc:∀ f a h,Le (c1 f a h) (c2 f a h)) (l:List Step) (cs:List (Nat × Nat × Nat)) (s:St):Le (qiE pure c1 l cs s) (qiE pure c2 l cs s):=by
 intro r hr
 unfold qiE at hr ⊢
 cases hx:qeC pure c1 l s.tm [] s.h with
 | none=>rw[hx] at hr;cases hr
 | some x=>rw[qlr hc _ _ _ _ x hx];rw[hx] at hr;exact hr
theorem qdz (hc:∀ f a h,Le (c1 f a h) (c2 f a h)) {n m:Nat} (hnm:n≤m):∀ (c:ACode) (s:St),Le (qbD pure c1 n c s) (qbD pure c2 m c s):=by
 intro c
 induction c with
 | skip=>intro s;exact Le.refl _
 | ops l=>intro s;exact qhR hc l s
 | draw l cs=>intro s;exact qqo hc l cs s
 | kops l=>intro s;exact qls hc l s
 | mdraw k l ns=>intro s;exact Le.refl _
 | seq a b iha ihb =>
   intro s r hr
   rw[qbD] at hr ⊢
   cases hx:qbD pure c1 n a s with
   | none=>rw[hx] at hr;cases hr
   | some x =>
     rw[iha s x hx]
     rw[hx] at hr
     obtain⟨e,s'⟩:=x
     cases e with
     | normal=>exact ihb _ r hr
     | _=>exact hr
 | cond c a b iha ihb =>
   intro s r hr
   rw[qbD] at hr ⊢
   split
   ·rename_i t ht
    rw[ht] at hr
    cases t with
    | true=>exact iha s r hr
    | false=>exact ihb s r hr
   ·rename_i ht
    split at hr
    ·rename_i t ht'
     exact absurd ht' (ht t)
    ·cases hr
 | block id c ih =>
   intro s r hr
   rw[qbD] at hr ⊢
   cases hx:qbD pure c1 n c s with
   | none=>rw[hx] at hr;cases hr
   | some x=>rw[ih s x hx];rw[hx] at hr;exact hr
 | loop c ih=>intro s;exact qiU ih hnm s
 | gloop k c ih=>intro s;exact qiU (fun s1=>ih _) hnm s
 | freeze t c ih=>intro s;exact ih _
 | view c ih=>intro s;exact ih _
 | range k b c ihb ihc=>intro s;exact qpi (fun l s=>qhR hc l s) ihb ihc k s
 | frame k c ih =>
   intro s r hr
   rw[qbD] at hr ⊢
   obtain⟨x,hx,rfl⟩:=Option.map_eq_some_iff.1 hr
   rw[ih s x hx]
   rfl
 | exit id=>intro s;exact Le.refl _
 | ret=>intro s;exact Le.refl _
 | stuck=>intro s;exact Le.refl _
end
theorem qqx {rs:List ARVar} {x y:Option (AExit × St)} (h:Le x y):Le (qaS rs x) (qaS rs y):=by
 intro r hr
 cases x with
 | none=>cases hr
 | some x=>rw[h x rfl];exact hr
theorem qly (L:Lib):∀ n f a h,Le (qcJ L n f a h) (qcJ L (n+1) f a h):=by
 intro n
 induction n with
 | zero=>intro f a h r hr;cases hr
 | succ n ih =>
   intro f a h r hr
   rw[qcJ] at hr ⊢
   split
   ·rename_i s hs
    rw[hs] at hr
    exact hr
   ·rename_i hs
    rw[hs] at hr
    dsimp only at hr
    split
    ·rename_i fn hfn
     rw[hfn] at hr
     exact qqx (qdz ih (Nat.le_succ n) _ _) r hr
    ·rename_i hfn
     rw[hfn] at hr
     cases hr
theorem qdn (L:Lib) {n m:Nat} (h:n≤m) (f:Nat) (a:List AVal) (hp:Heap):Le (qcJ L n f a hp) (qcJ L m f a hp) :=
 qmJ (f:=fun k=>qcJ L k f a hp) (fun k=>qly L k f a hp) h
noncomputable def call (L:Lib):CallT:=fun f a h=>lim fun n=>qcJ L n f a h
theorem qel {L:Lib} {f:Nat} {a:List AVal} {h:Heap} {r:ARes × Heap}:call L f a h=some r↔∃ n,qcJ L n f a h=some r :=
 qp4 fun n=>qly L n f a h
noncomputable def qkI (body:St→Option (AExit × St)) (s:St):Option (AExit × St):=lim fun n=>qeY body n s
theorem qea {body:St→Option (AExit × St)} {s:St} {r:AExit × St}:qkI body s=some r↔∃ n,qeY body n s=some r:=qp4 fun n=>qlS body n s
theorem qo9 (body:St→Option (AExit × St)) (n:Nat) (s:St):Le (qeY body n s) (qkI body s):=fun _ hr=>qea.2 ⟨n,hr⟩
theorem qp7 (body:St→Option (AExit × St)) (s:St):qkI body s=match body s with | some (.normal,s')=>qkI body s' | r=>r:=by
 have key:∀ r,qkI body s=some r↔(match body s with | some (.normal,s')=>qkI body s' | r=>r)=some r:=by
  intro r
  constructor
  ·intro h
   obtain⟨n,hn⟩:=qea.1 h
   cases n with
   | zero=>cases hn
   | succ n =>
     rw[qeY] at hn
     split at hn
     ·rename_i s' hs'
      rw[hs']
      exact qo9 _ _ _ _ hn
     ·rename_i x hx
      split
      ·rename_i s' hs'
       exact absurd hs' (hx s')
      ·exact hn
  ·intro h
   split at h
   ·rename_i s' hs'
    obtain⟨n,hn⟩:=qea.1 h
    exact qea.2 ⟨n+1,by rw[qeY,hs'];exact hn⟩
   ·rename_i x hx
    refine qea.2 ⟨1,?_⟩
    rw[qeY]
    split
    ·rename_i s' hs'
     exact absurd hs' (hx s')
    ·exact h
 cases hx:qkI body s with
 | some r=>exact ((key r).1 hx).symm
 | none =>
   cases hy:(match body s with | some (.normal,s')=>qkI body s' | r=>r) with
   | none=>rfl
   | some r=>rw[(key r).2 hy] at hx;cases hx
noncomputable def qbQ (pure:Nat→Bool) (call:CallT):ACode→St→Option (AExit × St)
 | .skip,s=>some (.normal,s)
 | .ops l,s=>qdm pure call l s
 | .draw l cs,s=>qiE pure call l cs s
 | .kops l,s=>qfk pure call l s
 | .mdraw k l ns,s=>quJ k l ns s
 | .seq a b,s =>
   (match qbQ pure call a s with
   | some (.normal,s')=>qbQ pure call b s'
   | r=>r)
 | .cond c a b,s=>(match opd s.tm c with | .bool t=>if t then qbQ pure call a s else qbQ pure call b s | _=>none)
 | .block id c,s =>
   (match qbQ pure call c s with
   | some (.exit id',s')=>if id'=id then some (.normal,s') else some (.exit id',s')
   | r=>r)
 | .loop c,s=>qkI (qbQ pure call c) s
 | .gloop k c,s=>qkI (fun s1=>qbQ pure call c (gc s.h.length k s1)) s
 | .frame k c,s=>(qbQ pure call c s).map (gcE s.h.length k)
 | .freeze t c,s=>qbQ pure call c (qhG t s)
 | .view c,s=>qbQ pure call c (qq5 s)
 | .range k b c,s=>ql5 (qdm pure call) k (qbQ pure call b) (qbQ pure call c) s
 | .exit id,s=>some (.exit id,s)
 | .ret,s=>some (.ret,s)
 | .stuck,_=>none
section
variable {pure:Nat→Bool} {L:Lib}
theorem qiK {f:Nat} {a:List AVal} {h:Heap} {r:ARes × Heap} (hr:qdJ pure (call L) f a h=some r):∃ n,qdJ pure (qcJ L n) f a h=some r:=by
 unfold qdJ at hr
 split at hr
 ·rename_i hp
  cases hx:call L f (a.map wipe) [] with
  | none=>rw[hx] at hr;cases hr
  | some x =>
    rw[hx] at hr
    obtain⟨n,hn⟩:=qel.1 hx
    refine⟨n,?_⟩
    unfold qdJ
    rw[if_pos hp,hn]
    exact hr
 ·rename_i hp
  unfold qlj at hr
  split at hr
  ·rename_i hq
   cases hx:call L f (a.map (ren fun i=>qa5 i (qcy a h) 0)) (qdF (qcy a h) h) with
   | none=>rw[hx] at hr;cases hr
   | some x =>
     rw[hx] at hr
     obtain⟨n,hn⟩:=qel.1 hx
     refine⟨n,?_⟩
     unfold qdJ qlj
     rw[if_neg hp,if_pos hq,hn]
     exact hr
  ·cases hr
theorem qmi {o:AOp} {tm:Tmps} {h:Heap} {r:ARes × Heap} (hr:aOp pure (call L) o tm h=some r):∃ n,aOp pure (qcJ L n) o tm h=some r:=by
 cases o with
 | vcall f args =>
   simp only[aOp] at hr ⊢
   unfold qi7 at hr
   split at hr
   ·rename_i hp
    cases hx:call L f ((args.map (opd tm)).map (lookV h)) [] with
    | none=>rw[hx] at hr;cases hr
    | some x =>
      rw[hx] at hr
      obtain⟨n,hn⟩:=qel.1 hx
      refine⟨n,?_⟩
      unfold qi7
      rw[if_pos hp,hn]
      exact hr
   ·cases hr
 | hcall f args =>
   simp only[aOp] at hr ⊢
   split at hr
   ·rename_i hf
    exact qel.1 hr
   ·cases hr
 | call f args =>
   simp only[aOp] at hr ⊢
   split at hr
   ·rename_i hf
    exact qiK hr
   ·cases hr
 | pcallV f args =>
   simp only[aOp] at hr ⊢
   split at hr
   ·rename_i hf
    unfold qkS at hr
    split at hr
    ·rename_i hc'
     unfold qa3 at hr
     split at hr
     ·rename_i v h' hd
      obtain⟨n,hn⟩:=qiK hd
      refine⟨n,?_⟩
      unfold qkS
      rw[if_pos hc',hn]
      exact hr
     ·cases hr
    ·cases hr
   ·cases hr
 | pcall f args =>
   simp only[aOp] at hr ⊢
   split at hr
   ·rename_i hc'
    unfold qa3 at hr
    split at hr
    ·rename_i v h' hd
     obtain⟨n,hn⟩:=qiK hd
     refine⟨n,?_⟩
     rw[if_pos hc',hn]
     exact hr
    ·cases hr
   ·cases hr
 | _=>exact⟨0,hr⟩
theorem qhQ:∀ (l:List Step) {s:St} {r:AExit × St},qdm pure (call L) l s=some r→∃ n,qdm pure (qcJ L n) l s=some r:=by
 intro l
 induction l with
 | nil=>intro s r hr;exact⟨0,hr⟩
 | cons o rest ih =>
   intro s r hr
   rw[qdm] at hr
   split at hr
   ·rename_i hw
    cases hx:aOp pure (call L) o.op s.tm s.h with
    | none=>rw[hx] at hr;cases hr
    | some x =>
      rw[hx] at hr
      obtain⟨n,hn⟩:=qmi hx
      obtain⟨v,h⟩:=x
      cases v with
      | val v =>
        obtain⟨m,hm⟩:=ih hr
        refine⟨max n m,?_⟩
        rw[qdm,hw]
        dsimp only
        rw[qgP (qdn L (Nat.le_max_left n m)) _ _ _ _ hn]
        exact qhR (qdn L (Nat.le_max_right n m)) _ _ _ hm
      | panic v =>
        refine⟨n,?_⟩
        rw[qdm,hw]
        dsimp only
        rw[hn]
        exact hr
   ·rename_i hw
    obtain⟨m,hm⟩:=ih hr
    exact⟨m,by rw[qdm,hw];exact hm⟩
   ·cases hr
theorem qs7 {o:AOp} {tm:Tmps} {h:Heap} {r:ARes × Heap} (hr:qlq pure (call L) o tm h=some r):∃ n,qlq pure (qcJ L n) o tm h=some r:=by
 cases o with
 | pcall f args =>
   simp only[qlq] at hr ⊢
   unfold qnI at hr
   split at hr
   ·rename_i hp
    cases hx:call L f ((args.map (opd tm)).map wipe) [] with
    | none=>rw[hx] at hr;cases hr
    | some x =>
      rw[hx] at hr
      obtain⟨n,hn⟩:=qel.1 hx
      refine⟨n,?_⟩
      unfold qnI
      rw[if_pos hp,hn]
      exact hr
   ·cases hr
 | append sz bytes x y =>
   simp only[qlq] at hr ⊢
   split at hr
   ·rename_i hq
    refine⟨0,?_⟩
    rw[if_pos hq]
    exact hr
   ·rename_i hq
    obtain⟨n,hn⟩:=qmi hr
    refine⟨n,?_⟩
    rw[if_neg hq]
    exact hn
 | _=>simp only[qlq] at hr ⊢;exact qmi hr
theorem qrb:∀ (l:List Step) {s:St} {r:AExit × St},qfk pure (call L) l s=some r→∃ n,qfk pure (qcJ L n) l s=some r:=by
 intro l
 induction l with
 | nil=>intro s r hr;exact⟨0,hr⟩
 | cons o rest ih =>
   intro s r hr
   rw[qfk] at hr
   split at hr
   ·rename_i hw
    cases hx:qlq pure (call L) o.op s.tm s.h with
    | none=>rw[hx] at hr;cases hr
    | some x =>
      rw[hx] at hr
      obtain⟨n,hn⟩:=qs7 hx
      obtain⟨v,h⟩:=x
      cases v with
      | val v =>
        obtain⟨m,hm⟩:=ih hr
        refine⟨max n m,?_⟩
        rw[qfk,hw]
        dsimp only
        rw[qm7 (qdn L (Nat.le_max_left n m)) _ _ _ _ hn]
        exact qls (qdn L (Nat.le_max_right n m)) _ _ _ hm
      | panic v =>
        refine⟨n,?_⟩
        rw[qfk,hw]
        dsimp only
        rw[hn]
        exact hr
   ·rename_i hw
    obtain⟨m,hm⟩:=ih hr
    exact⟨m,by rw[qfk,hw];exact hm⟩
   ·cases hr
theorem qra:∀ (l:List Step) {tm:Tmps} {hs:List Heap} {h:Heap} {r:Tmps × List Heap × Heap},qeC pure (call L) l tm hs h=some r→∃ n,qeC pure (qcJ L n) l tm hs h=some r:=by
 intro l
 induction l with
 | nil=>intro tm hs h r hr;exact⟨0,hr⟩
 | cons o rest ih =>
   intro tm hs h r hr
   rw[qeC] at hr
   split at hr
   ·rename_i hw
    cases hx:aOp pure (call L) o.op tm h with
    | none=>rw[hx] at hr;cases hr
    | some x =>
      rw[hx] at hr
      obtain⟨n,hn⟩:=qmi hx
      obtain⟨v,h'⟩:=x
      cases v with
      | val v =>
        obtain⟨m,hm⟩:=ih hr
        refine⟨max n m,?_⟩
        rw[qeC,hw]
        dsimp only
        rw[qgP (qdn L (Nat.le_max_left n m)) _ _ _ _ hn]
        exact qlr (qdn L (Nat.le_max_right n m)) _ _ _ _ _ hm
      | panic v=>cases hr
   ·rename_i hw
    obtain⟨m,hm⟩:=ih hr
    exact⟨m,by rw[qeC,hw];exact hm⟩
   ·cases hr
theorem qp8 (c:ACode) (g:St→St) (ih:∀ {s:St} {r:AExit × St},qbQ pure (call L) c s=some r→∃ n,qbD pure (qcJ L n) n c s=some r) {r:AExit × St} :
  ∀ k s,qeY (fun s1=>qbQ pure (call L) c (g s1)) k s=some r→∃ n,qeY (fun s1=>qbD pure (qcJ L n) n c (g s1)) n s=some r:=by
 intro k
 induction k with
 | zero=>intro s h;cases h
 | succ k ihk =>
   intro s h
   rw[qeY] at h
   cases hx:qbQ pure (call L) c (g s) with
   | none=>rw[hx] at h;cases h
   | some x =>
     rw[hx] at h
     obtain⟨n,hn⟩:=ih hx
     obtain⟨e,s'⟩:=x
     cases e with
     | normal =>
       obtain⟨m,hm⟩:=ihk s' h
       refine⟨max n m+1,?_⟩
       rw[qeY,qdz (qdn L (Nat.le_trans (Nat.le_max_left n m) (Nat.le_succ _))) (Nat.le_trans (Nat.le_max_left n m) (Nat.le_succ _)) _ _ _ hn]
       exact qiU (fun s=>qdz (qdn L (Nat.le_trans (Nat.le_max_right n m) (Nat.le_succ _))) (Nat.le_trans (Nat.le_max_right n m) (Nat.le_succ _)) _ _) (Nat.le_max_right n m) _ _ hm
     | _ =>
       refine⟨n+1,?_⟩
       rw[qeY,qdz (qdn L (Nat.le_succ n)) (Nat.le_succ n) _ _ _ hn]
       exact h
def ql3 (x:AVal × AVal):List (AVal × AVal)→List (List (AVal × AVal))
 | []=>[[x]]
 | y::ys=>(x::y::ys)::(ql3 x ys).map (y::·)
def qgi:List (AVal × AVal)→List (List (AVal × AVal))
 | []=>[[]]
 | x::xs=>(qgi xs).flatMap (ql3 x)
theorem qlU (x:AVal × AVal):∀ l r:List (AVal × AVal),l++x::r∈ql3 x (l++r)
 | [],[]=>by simp[ql3]
 | [],y::ys=>by simp[ql3]
 | y :: l,r => by
   simp only[List.cons_append,ql3,List.mem_cons,List.mem_map]
   exact .inr ⟨_,qlU x l r,rfl⟩
theorem qiw:∀ (es es':List (AVal × AVal)),es'.Perm es→es'∈qgi es
 | [],es',h=>by rw[h.eq_nil];simp[qgi]
 | x :: xs,es',h => by
   obtain⟨l,r,rfl⟩:=List.append_of_mem (h.mem_iff.2 (List.mem_cons_self ..))
   have h1:(l++r).Perm xs:=by
    have:=(List.perm_middle (a:=x) (l₁:=l) (l₂:=r)).symm.trans h
    exact this.cons_inv
   simp only[qgi,List.mem_flatMap]
   exact⟨_,qiw xs _ h1,qlU x l r⟩
theorem qrH {α:Type} (Q:Nat→α→Prop) (hm:∀ n m a,n≤m→Q n a→Q m a):∀ (l:List α),(∀ a∈l,∃ n,Q n a)→∃ n,∀ a∈l,Q n a
 | [],_=>⟨0,fun a ha=>by cases ha⟩
 | a :: l,h => by
   obtain⟨n,hn⟩:=h a (by simp)
   obtain⟨m,hm'⟩:=qrH Q hm l fun b hb=>h b (by simp[hb])
   refine⟨max n m,fun b hb=>?_⟩
   rcases List.mem_cons.1 hb with rfl | hb
   ·exact hm _ _ _ (Nat.le_max_left n m) hn
   ·exact hm _ _ _ (Nat.le_max_right n m) (hm' b hb)
section
variable {b c:ACode}
theorem qfi {n m:Nat} (h:n≤m) (l:List Step) (s:St):Le (qdm pure (qcJ L n) l s) (qdm pure (qcJ L m) l s):=qhR (qdn L h) l s
theorem qeE {n m:Nat} (h:n≤m) (s:St):Le (qbD pure (qcJ L n) n b s) (qbD pure (qcJ L m) m b s):=qdz (qdn L h) h b s
theorem qlk (hb:∀ {s:St} {r:AExit × St},qbQ pure (call L) b s=some r→∃ n,qbD pure (qcJ L n) n b s=some r) (i:Nat) (k:RangeK) (e:AVal × AVal) {s:St} {r:AExit × St}
  (hr:qcm (qdm pure (call L)) i k (qbQ pure (call L) b) e s=some r):∃ n,qcm (qdm pure (qcJ L n)) i k (qbD pure (qcJ L n) n b) e s=some r:=by
 unfold qcm at hr
 split at hr
 case isFalse=>cases hr
 rename_i g0
 cases hx:qdm pure (call L) k.r1 ⟨upd s.tm (some k.dn) (.tuple [.bool true,e.1,e.2]),s.h⟩ with
 | none=>rw[hx] at hr;cases hr
 | some x =>
   rw[hx] at hr
   obtain⟨n1,hn1⟩:=qhQ _ hx
   obtain⟨q,s1⟩:=x
   cases q with
   | normal =>
     dsimp only at hr
     split at hr
     case isFalse=>cases hr
     rename_i g1
     split at hr
     ·rename_i hq
      unfold qln at hr
      cases hy:qdm pure (call L) k.r2 ⟨upd s1.tm k.de (.tuple [e.1,e.2]),s1.h⟩ with
      | none=>rw[hy] at hr;cases hr
      | some y =>
        rw[hy] at hr
        obtain⟨n2,hn2⟩:=qhQ _ hy
        obtain⟨q2,s2⟩:=y
        cases q2 with
        | normal =>
          dsimp only at hr
          cases hz:qbQ pure (call L) b s2 with
          | none=>rw[hz] at hr;cases hr
          | some z =>
            obtain⟨n3,hn3⟩:=hb hz
            rw[hz] at hr
            refine⟨max n1 (max n2 n3),?_⟩
            unfold qcm qln
            rw[if_pos g0,qfi (Nat.le_max_left _ _) _ _ _ hn1]
            dsimp only
            rw[if_pos g1,hq]
            dsimp only
            rw[qfi (Nat.le_trans (Nat.le_max_left n2 n3) (Nat.le_max_right _ _)) _ _ _ hn2]
            dsimp only
            rw[qeE (Nat.le_trans (Nat.le_max_right n2 n3) (Nat.le_max_right _ _)) _ _ hn3]
            exact hr
        | _ =>
          refine⟨max n1 n2,?_⟩
          unfold qcm qln
          rw[if_pos g0,qfi (Nat.le_max_left _ _) _ _ _ hn1]
          dsimp only
          rw[if_pos g1,hq]
          dsimp only
          rw[qfi (Nat.le_max_right _ _) _ _ _ hn2]
          exact hr
     ·cases hr
   | _=>cases hr
theorem qob (i:Nat) (k:RangeK) {s:St} {r:AExit × St} (hr:qcN (qdm pure (call L)) i k s=some r):∃ n,qcN (qdm pure (qcJ L n)) i k s=some r:=by
 unfold qcN at hr
 split at hr
 case isFalse=>cases hr
 rename_i g0
 cases hx:qdm pure (call L) k.r1 ⟨upd s.tm (some k.dn) (.tuple [.bool false]),s.h⟩ with
 | none=>rw[hx] at hr;cases hr
 | some x =>
   rw[hx] at hr
   obtain⟨n1,hn1⟩:=qhQ _ hx
   exact⟨n1,by unfold qcN;rw[if_pos g0,hn1];exact hr⟩
theorem qju (hb:∀ {s:St} {r:AExit × St},qbQ pure (call L) b s=some r→∃ n,qbD pure (qcJ L n) n b s=some r) (i:Nat) (k:RangeK):∀ (es:List (AVal × AVal)) {s:St} {r:AExit × St},
  qcp (qdm pure (call L)) i k (qbQ pure (call L) b) es s=some r→∃ n,qcp (qdm pure (qcJ L n)) i k (qbD pure (qcJ L n) n b) es s=some r
 | [],s,r,hr=>qob i k hr
 | e :: es,s,r,hr => by
   rw[qcp] at hr
   cases hx:qcm (qdm pure (call L)) i k (qbQ pure (call L) b) e (gc (i+1) k.kr s) with
   | none=>rw[hx] at hr;cases hr
   | some x =>
     rw[hx] at hr
     obtain⟨n,hn⟩:=qlk hb i k e hx
     obtain⟨q,s1⟩:=x
     cases q with
     | normal =>
       obtain⟨m,hm⟩:=qju hb i k es hr
       refine⟨max n m,?_⟩
       rw[qcp,qgG (fun l s=>qfi (Nat.le_max_left n m) l s) (fun s=>qeE (Nat.le_max_left n m) s) i k e _ _ hn]
       exact qeL (fun l s=>qfi (Nat.le_max_right n m) l s) (fun s=>qeE (Nat.le_max_right n m) s) i k es _ _ hm
     | _=>exact⟨n,by rw[qcp,hn];exact hr⟩
theorem qoc (hb:∀ {s:St} {r:AExit × St},qbQ pure (call L) b s=some r→∃ n,qbD pure (qcJ L n) n b s=some r) (hc:∀ {s:St} {r:AExit × St},qbQ pure (call L) c s=some r→∃ n,qbD pure (qcJ L n) n c s=some r)
  (k:RangeK) (s s1:St) (es:List (AVal × AVal)) {r:AExit × St} (hr:qdy (qdm pure (call L)) k (qbQ pure (call L) b) (qbQ pure (call L) c) s s1 es=some r) :
  ∃ n,qdy (qdm pure (qcJ L n)) k (qbD pure (qcJ L n) n b) (qbD pure (qcJ L n) n c) s s1 es=some r:=by
 unfold qdy at hr
 obtain⟨x,hx,rfl⟩:=Option.map_eq_some_iff.1 hr
 cases hy:qcp (qdm pure (call L)) s1.h.length k (qbQ pure (call L) b) es ⟨upd s1.tm (some k.it) (.ptr (some (s1.h.length,0))),qoG (opd s1.tm k.m) s1.h⟩ with
 | none=>rw[hy] at hx;cases hx
 | some y =>
   rw[hy] at hx
   obtain⟨n,hn⟩:=qju hb _ k es hy
   obtain⟨q,s2⟩:=y
   cases q with
   | normal =>
     obtain⟨m,hm⟩:=hc hx
     refine⟨max n m,?_⟩
     unfold qdy
     rw[qeL (fun l s=>qfi (Nat.le_max_left n m) l s) (fun s=>qeE (Nat.le_max_left n m) s) _ k es _ _ hn]
     dsimp only
     rw[qeE (Nat.le_max_right n m) _ _ hm]
     rfl
   | _ =>
     refine⟨n,?_⟩
     unfold qdy
     rw[hn]
     dsimp only at hx ⊢
     rw[hx]
     rfl
end
theorem qq9:∀ (c:ACode) {s:St} {r:AExit × St},qbQ pure (call L) c s=some r→∃ n,qbD pure (qcJ L n) n c s=some r:=by
 intro c
 induction c with
 | skip=>intro s r hr;exact⟨0,hr⟩
 | ops l=>intro s r hr;exact qhQ l hr
 | kops l=>intro s r hr;exact qrb l hr
 | mdraw k l ns=>intro s r hr;exact⟨0,hr⟩
 | draw l cs =>
   intro s r hr
   rw[qbQ] at hr
   unfold qiE at hr
   cases hx:qeC pure (call L) l s.tm [] s.h with
   | none=>rw[hx] at hr;cases hr
   | some x =>
     rw[hx] at hr
     obtain⟨n,hn⟩:=qra l hx
     exact⟨n,by rw[qbD];unfold qiE;rw[hn];exact hr⟩
 | seq a b iha ihb =>
   intro s r hr
   rw[qbQ] at hr
   cases hx:qbQ pure (call L) a s with
   | none=>rw[hx] at hr;cases hr
   | some x =>
     rw[hx] at hr
     obtain⟨n,hn⟩:=iha hx
     obtain⟨e,s'⟩:=x
     cases e with
     | normal =>
       obtain⟨m,hm⟩:=ihb hr
       refine⟨max n m,?_⟩
       rw[qbD,qdz (qdn L (Nat.le_max_left n m)) (Nat.le_max_left n m) _ _ _ hn]
       exact qdz (qdn L (Nat.le_max_right n m)) (Nat.le_max_right n m) _ _ _ hm
     | _=>exact⟨n,by rw[qbD,hn];exact hr⟩
 | cond c a b iha ihb =>
   intro s r hr
   rw[qbQ] at hr
   split at hr
   ·rename_i t ht
    cases t with
    | true =>
      obtain⟨n,hn⟩:=iha hr
      exact⟨n,by rw[qbD,ht];exact hn⟩
    | false =>
      obtain⟨n,hn⟩:=ihb hr
      exact⟨n,by rw[qbD,ht];exact hn⟩
   ·cases hr
 | block id c ih =>
   intro s r hr
   rw[qbQ] at hr
   cases hx:qbQ pure (call L) c s with
   | none=>rw[hx] at hr;cases hr
   | some x =>
     rw[hx] at hr
     obtain⟨n,hn⟩:=ih hx
     exact⟨n,by rw[qbD,hn];exact hr⟩
 | loop c ih =>
   intro s r hr
   rw[qbQ] at hr
   obtain⟨k,hk⟩:=qea.1 hr
   obtain⟨n,hn⟩:=qp8 c (fun s=>s) (fun hx=>ih hx) k s hk
   exact⟨n,by rw[qbD];exact hn⟩
 | gloop kp c ih =>
   intro s r hr
   rw[qbQ] at hr
   obtain⟨k,hk⟩:=qea.1 hr
   obtain⟨n,hn⟩:=qp8 c (fun s1=>gc s.h.length kp s1) (fun hx=>ih hx) k s hk
   exact⟨n,by rw[qbD];exact hn⟩
 | view c ih =>
   intro s r hr
   obtain⟨n,hn⟩:=ih hr
   exact⟨n,hn⟩
 | freeze t c ih =>
   intro s r hr
   obtain⟨n,hn⟩:=ih hr
   exact⟨n,hn⟩
 | range k b c ihb ihc =>
   intro s r hr
   rw[qbQ,qgF] at hr
   cases hx:qdm pure (call L) k.pre s with
   | none=>rw[hx] at hr;cases hr
   | some x =>
     rw[hx] at hr
     obtain⟨n,hn⟩:=qhQ _ hx
     obtain⟨q,s1⟩:=x
     cases q with
     | normal =>
       dsimp only at hr
       split at hr
       ·rename_i es hes
        have h1:=(qd6 (qcU _ _)).1 hr
        obtain⟨m,hm⟩:=qrH (fun n es'=>qdt k.str es es'→qdy (qdm pure (qcJ L n)) k (qbD pure (qcJ L n) n b) (qbD pure (qcJ L n) n c) s s1 es'=some r)
         (fun n m a hnm h ho=>qfZ (fun l s=>qfi hnm l s) (fun s=>qeE hnm s) (fun s=>qeE hnm s) k s s1 a r (h ho)) (es::qgi es)
         (fun a _=>by
          by_cases ho:qdt k.str es a
          ·obtain⟨n,hn⟩:=qoc ihb ihc k s s1 a (h1 a ho)
           exact⟨n,fun _=>hn⟩
          ·exact⟨0,fun h=>absurd h ho⟩)
        refine⟨max n m,?_⟩
        rw[qbD,qgF,qfi (Nat.le_max_left n m) _ _ _ hn]
        dsimp only
        rw[hes]
        dsimp only
        refine (qd6 (qcU _ _)).2 fun es' he=>?_
        refine qfZ (fun l s=>qfi (Nat.le_max_right n m) l s) (fun s=>qeE (Nat.le_max_right n m) s) (fun s=>qeE (Nat.le_max_right n m) s) k s s1 es' r (hm es' ?_ he)
        unfold qdt at he
        split at he
        ·rw[he];simp
        ·exact List.mem_cons_of_mem _ (qiw es es' he)
       ·cases hr
     | _=>cases hr
 | frame kp c ih =>
   intro s r hr
   rw[qbQ] at hr
   obtain⟨x,hx,rfl⟩:=Option.map_eq_some_iff.1 hr
   obtain⟨n,hn⟩:=ih hx
   exact⟨n,by rw[qbD,hn];rfl⟩
 | exit id=>intro s r hr;exact⟨0,hr⟩
 | ret=>intro s r hr;exact⟨0,hr⟩
 | stuck=>intro s r hr;exact⟨0,hr⟩
end
theorem qbH {L:Lib} {f:Nat} {fn:AFn} (hs:L.summ f=none) (hf:L.fns f=some fn) {a:List AVal} {h:Heap} {r:ARes × Heap}
  (hr:qaS fn.results (qbQ L.pure (call L) fn.body ⟨qeV a,h⟩)=some r):call L f a h=some r:=by
 cases hx:qbQ L.pure (call L) fn.body ⟨qeV a,h⟩ with
 | none=>rw[hx] at hr;cases hr
 | some x =>
   rw[hx] at hr
   obtain⟨n,hn⟩:=qq9 _ hx
   refine qel.2 ⟨n+1,?_⟩
   rw[qcJ,hs]
   dsimp only
   rw[hf]
   dsimp only
   rw[hn]
   exact hr
theorem qkf {L:Lib} {f:Nat} {s:List AVal→Heap→Option (ARes × Heap)} (hs:L.summ f=some s) {a:List AVal} {h:Heap} {r:ARes × Heap} (hr:s a h=some r):call L f a h=some r :=
 qel.2 ⟨1,by rw[qcJ,hs];exact hr⟩
end Go.Abs
