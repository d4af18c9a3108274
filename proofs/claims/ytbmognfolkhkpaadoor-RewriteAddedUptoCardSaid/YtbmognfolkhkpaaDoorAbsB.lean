/-
  The abstract machine without bounds: calls and loops as limits of the bounded ones; each is what its body says.
-/
import Derived.Test.YtbmognfolkhkpaaDoorAbsA
set_option linter.unusedVariables false
namespace Go.Abs
def Le {α:Type} (x y:Option α):Prop:=∀ r,x=some r→y=some r
theorem Le.refl {α:Type} (x:Option α):Le x x:=fun _ h=>h
theorem Le.trans {α:Type} {x y z:Option α} (h:Le x y) (h':Le y z):Le x z:=fun r e=>h' r (h r e)
theorem Le.none {α:Type} (y:Option α):Le (Option.none:Option α) y:=fun _ h=>by cases h
open Classical in
noncomputable def lim {α:Type} (f:Nat→Option α):Option α:=if h:∃ n,(f n).isSome=true then f (Classical.choose h) else none
theorem qm1 {α:Type} {f:Nat→Option α} (hm:∀ n,Le (f n) (f (n+1))):∀ {a b:Nat},a≤b→Le (f a) (f b):=by
 intro a b hab
 induction hab with
 | refl=>exact Le.refl _
 | step _ ih=>exact ih.trans (hm _)
theorem qqt {α:Type} {f:Nat→Option α} (hm:∀ n,Le (f n) (f (n+1))) {r:α}:lim f=some r↔∃ n,f n=some r:=by
 constructor
 ·intro h
  unfold lim at h
  split at h
  ·exact⟨_,h⟩
  ·cases h
 ·rintro ⟨n,hn⟩
  have hx:∃ n,(f n).isSome=true:=⟨n,by rw[hn];rfl⟩
  unfold lim
  rw[dif_pos hx]
  have h1:=Classical.choose_spec hx
  obtain⟨r',hr'⟩:=Option.isSome_iff_exists.1 h1
  rw[hr']
  have a:=qm1 hm (Nat.le_max_left n (Classical.choose hx)) r hn
  have b:=qm1 hm (Nat.le_max_right n (Classical.choose hx)) r' hr'
  rw[a] at b
  injection b with b
  rw[b]
theorem qmb (body:St→Option (AExit × St)):∀ n s,Le (qeI body n s) (qeI body (n+1) s):=by
 intro n
 induction n with
 | zero=>intro s r h;cases h
 | succ n ih =>
   intro s r h
   rw[qeI] at h ⊢
   split
   ·rename_i s' hb
    rw[hb] at h
    exact ih s' r h
   ·rename_i r' hr'
    split at h
    ·rename_i s' hs'
     exact absurd hs' (hr' s')
    ·exact h
theorem qfB {b1 b2:St→Option (AExit × St)} (hb:∀ s,Le (b1 s) (b2 s)):∀ {n m:Nat},n≤m→∀ s,Le (qeI b1 n s) (qeI b2 m s):=by
 intro n m hnm s
 refine Le.trans ?_ (qm1 (f:=fun k=>qeI b2 k s) (fun k=>qmb b2 k s) hnm)
 clear hnm
 induction n generalizing s with
 | zero=>intro r h;cases h
 | succ n ih =>
   intro r h
   rw[qeI] at h ⊢
   cases hx:b1 s with
   | none=>rw[hx] at h;cases h
   | some x =>
     rw[hb s x hx]
     rw[hx] at h
     obtain⟨e,s'⟩:=x
     cases e with
     | normal=>exact ih s' r h
     | _=>exact h
section
variable {pure:Nat→Bool} {c1 c2:CallT}
theorem qrm (hc:∀ f a h,Le (c1 f a h) (c2 f a h)) (f:Nat) (a:List AVal) (h:Heap):Le (qlF c1 f a h) (qlF c2 f a h):=by
 intro r hr
 unfold qlF at hr ⊢
 split
 ·rename_i hp
  rw[if_pos hp] at hr
  cases hx:c1 f (a.map (ren fun i=>qa5 i (qcA a h) 0)) (qdU (qcA a h) h) with
  | none=>rw[hx] at hr;cases hr
  | some x=>rw[hc _ _ _ x hx];rw[hx] at hr;exact hr
 ·rename_i hp
  rw[if_neg hp] at hr
  cases hr
theorem qhT (hc:∀ f a h,Le (c1 f a h) (c2 f a h)) (f:Nat) (a:List AVal) (h:Heap):Le (qdX pure c1 f a h) (qdX pure c2 f a h):=by
 intro r hr
 unfold qdX at hr ⊢
 split
 ·rename_i hp
  rw[if_pos hp] at hr
  cases hx:c1 f (a.map wipe) [] with
  | none=>rw[hx] at hr;cases hr
  | some x=>rw[hc _ _ _ x hx];rw[hx] at hr;exact hr
 ·rename_i hp
  rw[if_neg hp] at hr
  exact qrm hc _ _ _ _ hr
theorem qrk (hc:∀ f a h,Le (c1 f a h) (c2 f a h)) (g:Nat) (xs:List AVal) (h:Heap):Le (qk8 pure c1 g xs h) (qk8 pure c2 g xs h):=by
 intro r hr
 unfold qk8 at hr ⊢
 split
 ·rename_i hc'
  rw[if_pos hc'] at hr
  unfold qa7 at hr ⊢
  split at hr
  ·rename_i v h' hd
   rw[qhT hc _ _ _ _ hd]
   exact hr
  ·cases hr
 ·rename_i hc'
  rw[if_neg hc'] at hr
  cases hr
theorem qrz (hc:∀ f a h,Le (c1 f a h) (c2 f a h)) (f:Nat) (a:List AVal) (h:Heap):Le (qjQ c1 f a h) (qjQ c2 f a h):=by
 intro r hr
 unfold qjQ at hr ⊢
 split
 ·rename_i hp
  rw[if_pos hp] at hr
  cases hx:c1 f (a.map (lookV h)) [] with
  | none=>rw[hx] at hr;cases hr
  | some x=>rw[hc _ _ _ x hx];rw[hx] at hr;exact hr
 ·rename_i hp
  rw[if_neg hp] at hr
  cases hr
theorem qgY (hc:∀ f a h,Le (c1 f a h) (c2 f a h)) (o:AOp) (tm:Tmps) (h:Heap):Le (aOp pure c1 o tm h) (aOp pure c2 o tm h):=by
 intro r hr
 cases o with
 | vcall f args=>exact qrz hc _ _ _ _ hr
 | hcall f args =>
   simp only[aOp] at hr ⊢
   split
   ·rename_i hf
    rw[hf] at hr
    exact hc _ _ _ _ hr
   ·rename_i hf
    split at hr
    ·rename_i hf'
     exact absurd hf' (hf _ _ _)
    ·cases hr
 | call f args =>
   simp only[aOp] at hr ⊢
   split
   ·rename_i hf
    rw[hf] at hr
    exact qhT hc _ _ _ _ hr
   ·rename_i hf
    split at hr
    ·rename_i hf'
     exact absurd hf' (hf _ _ _)
    ·cases hr
 | pcallV f args =>
   simp only[aOp] at hr ⊢
   split
   ·rename_i hf
    rw[hf] at hr
    exact qrk hc _ _ _ _ hr
   ·rename_i hf
    split at hr
    ·rename_i hf'
     exact absurd hf' (hf _ _ _)
    ·cases hr
 | pcall f args =>
   simp only[aOp] at hr ⊢
   split
   ·rename_i hc'
    rw[if_pos hc'] at hr
    unfold qa7 at hr ⊢
    split at hr
    ·rename_i v h' hd
     rw[qhT hc _ _ _ _ hd]
     exact hr
    ·cases hr
   ·rename_i hc'
    rw[if_neg hc'] at hr
    cases hr
 | _=>exact hr
theorem qfq (hc:∀ f a h,Le (c1 f a h) (c2 f a h)):∀ (l:List Step) (s:St),Le (qdg pure c1 l s) (qdg pure c2 l s):=by
 intro l
 induction l with
 | nil=>intro s;exact Le.refl _
 | cons o rest ih =>
   intro s r hr
   rw[qdg] at hr ⊢
   split
   ·rename_i hw
    rw[hw] at hr
    dsimp only at hr
    cases hx:aOp pure c1 o.op s.tm s.h with
    | none=>rw[hx] at hr;cases hr
    | some x =>
      rw[qgY hc _ _ _ x hx]
      rw[hx] at hr
      obtain⟨v,h⟩:=x
      cases v with
      | val v=>exact ih _ r hr
      | panic v=>exact hr
   ·rename_i hw
    rw[hw] at hr
    exact ih _ r hr
   ·rename_i hw
    rw[hw] at hr
    cases hr
theorem qra (hc:∀ f a h,Le (c1 f a h) (c2 f a h)) (f:Nat) (a:List AVal) (h:Heap):Le (qn0 c1 f a h) (qn0 c2 f a h):=by
 intro r hr
 unfold qn0 at hr ⊢
 split
 ·rename_i hp
  rw[if_pos hp] at hr
  cases hx:c1 f (a.map wipe) [] with
  | none=>rw[hx] at hr;cases hr
  | some x=>rw[hc _ _ _ x hx];rw[hx] at hr;exact hr
 ·rename_i hp
  rw[if_neg hp] at hr
  cases hr
theorem qns (hc:∀ f a h,Le (c1 f a h) (c2 f a h)) (o:AOp) (tm:Tmps) (h:Heap):Le (qki pure c1 o tm h) (qki pure c2 o tm h):=by
 intro r hr
 cases o with
 | pcall f args=>exact qra hc _ _ _ _ hr
 | append sz bytes x y =>
   simp only[qki] at hr ⊢
   split
   ·rename_i hq
    rw[if_pos hq] at hr
    exact hr
   ·rename_i hq
    rw[if_neg hq] at hr
    exact qgY hc _ tm h r hr
 | _=>simp only[qki] at hr ⊢;exact qgY hc _ tm h r hr
theorem qiY (hc:∀ f a h,Le (c1 f a h) (c2 f a h)):∀ (l:List Step) (s:St),Le (qfd pure c1 l s) (qfd pure c2 l s):=by
 intro l
 induction l with
 | nil=>intro s;exact Le.refl _
 | cons o rest ih =>
   intro s r hr
   rw[qfd] at hr ⊢
   split
   ·rename_i hw
    rw[hw] at hr
    dsimp only at hr
    cases hx:qki pure c1 o.op s.tm s.h with
    | none=>rw[hx] at hr;cases hr
    | some x =>
      rw[qns hc _ _ _ x hx]
      rw[hx] at hr
      obtain⟨v,h⟩:=x
      cases v with
      | val v=>exact ih _ r hr
      | panic v=>exact hr
   ·rename_i hw
    rw[hw] at hr
    exact ih _ r hr
   ·rename_i hw
    rw[hw] at hr
    cases hr
theorem qlM (hc:∀ f a h,Le (c1 f a h) (c2 f a h)):∀ (l:List Step) (tm:Tmps) (hs:List Heap) (h:Heap),Le (qeh pure c1 l tm hs h) (qeh pure c2 l tm hs h):=by
 intro l
 induction l with
 | nil=>intro tm hs h;exact Le.refl _
 | cons o rest ih =>
   intro tm hs h r hr
   rw[qeh] at hr ⊢
   split
   ·rename_i hw
    rw[hw] at hr
    dsimp only at hr
    cases hx:aOp pure c1 o.op tm h with
    | none=>rw[hx] at hr;cases hr
    | some x =>
      rw[qgY hc _ _ _ x hx]
      rw[hx] at hr
      obtain⟨v,h'⟩:=x
      cases v with
      | val v=>exact ih _ _ _ r hr
      | panic v=>exact hr
   ·rename_i hw
    rw[hw] at hr
    exact ih _ _ _ r hr
   ·rename_i hw
    rw[hw] at hr
    cases hr
section
variable {o1 o2:List Step→St→Option (AExit × St)} {b1 b2 c1' c2':St→Option (AExit × St)}
theorem qnA {id:Nat} {x y:Option (AExit × St)} (h:Le x y):Le (qeG id x) (qeG id y):=by
 intro r hr
 cases x with
 | none=>cases hr
 | some x=>rw[h x rfl];exact hr
theorem qgO (ho:∀ l s,Le (o1 l s) (o2 l s)) (hb:∀ s,Le (b1 s) (b2 s)) (n:Nat) (k:RangeK) (e:AVal × AVal) (s:St):Le (qci o1 n k b1 e s) (qci o2 n k b2 e s):=by
 intro r hr
 unfold qci at hr ⊢
 split
 case isFalse h0=>rw[if_neg h0] at hr;cases hr
 rename_i h0
 rw[if_pos h0] at hr
 cases hx:o1 k.r1 ⟨upd s.tm (some k.dn) (.tuple [.bool true,e.1,e.2]),s.h⟩ with
 | none=>rw[hx] at hr;cases hr
 | some x =>
   rw[ho _ _ x hx]
   rw[hx] at hr
   obtain⟨q,s1⟩:=x
   cases q with
   | normal =>
     dsimp only at hr ⊢
     split
     case isFalse h1=>rw[if_neg h1] at hr;cases hr
     rename_i h1
     rw[if_pos h1] at hr
     split
     ·rename_i hq
      rw[hq] at hr
      refine qnA (id:=k.id2) ?_ r hr
      intro r2 hr2
      unfold qlj at hr2 ⊢
      cases hy:o1 k.r2 ⟨upd s1.tm k.de (.tuple [e.1,e.2]),s1.h⟩ with
      | none=>rw[hy] at hr2;cases hr2
      | some y =>
        rw[ho _ _ y hy]
        rw[hy] at hr2
        obtain⟨q2,s2⟩:=y
        cases q2 with
        | normal=>exact hb _ r2 hr2
        | _=>exact hr2
     ·rename_i hq
      split at hr
      ·rename_i hq'
       exact absurd hq' hq
      ·cases hr
   | _=>cases hr
theorem qm7 (ho:∀ l s,Le (o1 l s) (o2 l s)) (n:Nat) (k:RangeK) (s:St):Le (qcO o1 n k s) (qcO o2 n k s):=by
 intro r hr
 unfold qcO at hr ⊢
 split
 case isFalse h0=>rw[if_neg h0] at hr;cases hr
 rename_i h0
 rw[if_pos h0] at hr
 cases hx:o1 k.r1 ⟨upd s.tm (some k.dn) (.tuple [.bool false]),s.h⟩ with
 | none=>rw[hx] at hr;cases hr
 | some x =>
   rw[ho _ _ x hx]
   rw[hx] at hr
   exact hr
theorem qeU (ho:∀ l s,Le (o1 l s) (o2 l s)) (hb:∀ s,Le (b1 s) (b2 s)) (n:Nat) (k:RangeK):∀ (es:List (AVal × AVal)) (s:St),Le (qcj o1 n k b1 es s) (qcj o2 n k b2 es s)
 | [],s=>qm7 ho n k _
 | e :: es,s => by
   intro r hr
   rw[qcj] at hr ⊢
   cases hx:qci o1 n k b1 e (gc (n+1) k.kr s) with
   | none=>rw[hx] at hr;cases hr
   | some x =>
     rw[qgO ho hb n k e _ x hx]
     rw[hx] at hr
     obtain⟨q,s1⟩:=x
     cases q with
     | normal=>exact qeU ho hb n k es s1 r hr
     | _=>exact hr
theorem qdP {O:List (AVal × AVal)→Prop} (hO:∃ es,O es) {f:List (AVal × AVal)→Option (AExit × St)} {r:AExit × St}:qnw O f=some r↔∀ es,O es→f es=some r:=by
 constructor
 ·intro h
  unfold qnw at h
  split at h
  ·rename_i hx
   injection h with h
   rw[← h]
   exact Classical.choose_spec hx
  ·cases h
 ·intro h
  have hx:∃ r,∀ es,O es→f es=some r:=⟨r,h⟩
  unfold qnw
  rw[dif_pos hx]
  obtain⟨es,he⟩:=hO
  have h1:=Classical.choose_spec hx es he
  rw[h es he] at h1
  exact h1.symm
theorem qcS (str:Bool) (es:List (AVal × AVal)):∃ es',qds str es es':=⟨es,by unfold qds;split<;>first | rfl | exact .refl _⟩
def qdC (ops:List Step→St→Option (AExit × St)) (k:RangeK) (runB runC:St→Option (AExit × St)) (s s1:St) (es:List (AVal × AVal)):Option (AExit × St) :=
 (match qcj ops s1.h.length k runB es ⟨upd s1.tm (some k.it) (.ptr (some (s1.h.length,0))),qlC (opd s1.tm k.m) s1.h⟩ with
  | some (.normal,s2)=>runC ⟨s2.tm,qdv (opd s1.tm k.m) s1.h s2.h⟩
  | some (e,s2)=>some (e,⟨s2.tm,qdv (opd s1.tm k.m) s1.h s2.h⟩)
  | none=>none).map (gcE s.h.length k.keep)
theorem qfJ (ops:List Step→St→Option (AExit × St)) (k:RangeK) (runB runC:St→Option (AExit × St)) (s:St):qk9 ops k runB runC s=match ops k.pre s with
 | some (.normal,s1) => (match qdG k.str (opd s1.tm k.m) s1.h with
   | some es=>qnw (qds k.str es) (qdC ops k runB runC s s1)
   | none=>none)
 | _=>none:=rfl
theorem qgc (ho:∀ l s,Le (o1 l s) (o2 l s)) (hb:∀ s,Le (b1 s) (b2 s)) (hc:∀ s,Le (c1' s) (c2' s)) (k:RangeK) (s s1:St) (es:List (AVal × AVal)):Le (qdC o1 k b1 c1' s s1 es) (qdC o2 k b2 c2' s s1 es):=by
 intro r hr
 unfold qdC at hr ⊢
 obtain⟨x,hx,rfl⟩:=Option.map_eq_some_iff.1 hr
 refine Option.map_eq_some_iff.2 ⟨x,?_,rfl⟩
 cases hy:qcj o1 s1.h.length k b1 es ⟨upd s1.tm (some k.it) (.ptr (some (s1.h.length,0))),qlC (opd s1.tm k.m) s1.h⟩ with
 | none=>rw[hy] at hx;cases hx
 | some y =>
   rw[qeU ho hb _ k _ _ y hy]
   rw[hy] at hx
   obtain⟨q,s2⟩:=y
   cases q with
   | normal=>exact hc _ x hx
   | _=>exact hx
theorem qla (ho:∀ l s,Le (o1 l s) (o2 l s)) (hb:∀ s,Le (b1 s) (b2 s)) (hc:∀ s,Le (c1' s) (c2' s)) (k:RangeK) (s:St):Le (qk9 o1 k b1 c1' s) (qk9 o2 k b2 c2' s):=by
 intro r hr
 rw[qfJ] at hr ⊢
 cases hx:o1 k.pre s with
 | none=>rw[hx] at hr;cases hr
 | some x =>
   rw[ho _ _ x hx]
   rw[hx] at hr
   obtain⟨q,s1⟩:=x
   cases q with
   | normal =>
     dsimp only at hr ⊢
     split
     ·rename_i es hes
      rw[hes] at hr
      have h1:=(qdP (qcS _ _)).1 hr
      exact (qdP (qcS _ _)).2 fun es' he=>qgc ho hb hc k s s1 es' r (h1 es' he)
     ·rename_i hes
      rw[hes] at hr
      cases hr
   | _=>cases hr
end
theorem qlL (hc:∀ f a h,Le (c1 f a h) (c2 f a h)) (l:List Step) (cs:List (Nat × Nat × Nat)) (s:St):Le (qhK pure c1 l cs s) (qhK pure c2 l cs s):=by
 intro r hr
 unfold qhK at hr ⊢
 cases hx:qeh pure c1 l s.tm [] s.h with
 | none=>rw[hx] at hr;cases hr
 | some x=>rw[qlM hc _ _ _ _ x hx];rw[hx] at hr;exact hr
theorem qdO (hc:∀ f a h,Le (c1 f a h) (c2 f a h)) {n m:Nat} (hnm:n≤m):∀ (c:ACode) (s:St),Le (qbr pure c1 n c s) (qbr pure c2 m c s):=by
 intro c
 induction c with
 | skip=>intro s;exact Le.refl _
 | ops l=>intro s;exact qfq hc l s
 | draw l cs=>intro s;exact qlL hc l cs s
 | kops l=>intro s;exact qiY hc l s
 | mdraw k l ns=>intro s;exact Le.refl _
 | seq a b iha ihb =>
   intro s r hr
   rw[qbr] at hr ⊢
   cases hx:qbr pure c1 n a s with
   | none=>rw[hx] at hr;cases hr
   | some x =>
     rw[iha s x hx]
     rw[hx] at hr
     obtain⟨e,s'⟩:=x
     cases e with
     | normal=>exact ihb _ r hr
     | _=>exact hr
 | cond c a b iha ihb =>
   intro s r hr
   rw[qbr] at hr ⊢
   split
   ·rename_i t ht
    rw[ht] at hr
    cases t with
    | true=>exact iha s r hr
    | false=>exact ihb s r hr
   ·rename_i ht
    split at hr
    ·rename_i t ht'
     exact absurd ht' (ht t)
    ·cases hr
 | block id c ih =>
   intro s r hr
   rw[qbr] at hr ⊢
   cases hx:qbr pure c1 n c s with
   | none=>rw[hx] at hr;cases hr
   | some x=>rw[ih s x hx];rw[hx] at hr;exact hr
 | loop c ih=>intro s;exact qfB ih hnm s
 | gloop k c ih=>intro s;exact qfB (fun s1=>ih _) hnm s
 | freeze t c ih=>intro s;exact ih _
 | view c ih=>intro s;exact ih _
 | range k b c ihb ihc=>intro s;exact qla (fun l s=>qfq hc l s) ihb ihc k s
 | frame k c ih =>
   intro s r hr
   rw[qbr] at hr ⊢
   obtain⟨x,hx,rfl⟩:=Option.map_eq_some_iff.1 hr
   rw[ih s x hx]
   rfl
 | exit id=>intro s;exact Le.refl _
 | ret=>intro s;exact Le.refl _
 | stuck=>intro s;exact Le.refl _
end
theorem qq3 {rs:List ARVar} {x y:Option (AExit × St)} (h:Le x y):Le (qaT rs x) (qaT rs y):=by
 intro r hr
 cases x with
 | none=>cases hr
 | some x=>rw[h x rfl];exact hr
theorem qlS (L:Lib):∀ n f a h,Le (qcW L n f a h) (qcW L (n+1) f a h):=by
 intro n
 induction n with
 | zero=>intro f a h r hr;cases hr
 | succ n ih =>
   intro f a h r hr
   rw[qcW] at hr ⊢
   split
   ·rename_i s hs
    rw[hs] at hr
    exact hr
   ·rename_i hs
    rw[hs] at hr
    dsimp only at hr
    split
    ·rename_i fn hfn
     rw[hfn] at hr
     exact qq3 (qdO ih (Nat.le_succ n) _ _) r hr
    ·rename_i hfn
     rw[hfn] at hr
     cases hr
theorem qdy (L:Lib) {n m:Nat} (h:n≤m) (f:Nat) (a:List AVal) (hp:Heap):Le (qcW L n f a hp) (qcW L m f a hp) :=
 qm1 (f:=fun k=>qcW L k f a hp) (fun k=>qlS L k f a hp) h
noncomputable def call (L:Lib):CallT:=fun f a h=>lim fun n=>qcW L n f a h
theorem qex {L:Lib} {f:Nat} {a:List AVal} {h:Heap} {r:ARes × Heap}:call L f a h=some r↔∃ n,qcW L n f a h=some r :=
 qqt fun n=>qlS L n f a h
noncomputable def qkY (body:St→Option (AExit × St)) (s:St):Option (AExit × St):=lim fun n=>qeI body n s
theorem qek {body:St→Option (AExit × St)} {s:St} {r:AExit × St}:qkY body s=some r↔∃ n,qeI body n s=some r:=qqt fun n=>qmb body n s
theorem qh2 (body:St→Option (AExit × St)) (n:Nat) (s:St):Le (qeI body n s) (qkY body s):=fun _ hr=>qek.2 ⟨n,hr⟩
theorem qqv (body:St→Option (AExit × St)) (s:St):qkY body s=match body s with | some (.normal,s')=>qkY body s' | r=>r:=by
 have key:∀ r,qkY body s=some r↔(match body s with | some (.normal,s')=>qkY body s' | r=>r)=some r:=by
  intro r
  constructor
  ·intro h
   obtain⟨n,hn⟩:=qek.1 h
   cases n with
   | zero=>cases hn
   | succ n =>
     rw[qeI] at hn
     split at hn
     ·rename_i s' hs'
      rw[hs']
      exact qh2 _ _ _ _ hn
     ·rename_i x hx
      split
      ·rename_i s' hs'
       exact absurd hs' (hx s')
      ·exact hn
  ·intro h
   split at h
   ·rename_i s' hs'
    obtain⟨n,hn⟩:=qek.1 h
    exact qek.2 ⟨n+1,by rw[qeI,hs'];exact hn⟩
   ·rename_i x hx
    refine qek.2 ⟨1,?_⟩
    rw[qeI]
    split
    ·rename_i s' hs'
     exact absurd hs' (hx s')
    ·exact h
 cases hx:qkY body s with
 | some r=>exact ((key r).1 hx).symm
 | none =>
   cases hy:(match body s with | some (.normal,s')=>qkY body s' | r=>r) with
   | none=>rfl
   | some r=>rw[(key r).2 hy] at hx;cases hx
noncomputable def qbL (pure:Nat→Bool) (call:CallT):ACode→St→Option (AExit × St)
 | .skip,s=>some (.normal,s)
 | .ops l,s=>qdg pure call l s
 | .draw l cs,s=>qhK pure call l cs s
 | .kops l,s=>qfd pure call l s
 | .mdraw k l ns,s=>qtK k l ns s
 | .seq a b,s =>
   (match qbL pure call a s with
   | some (.normal,s')=>qbL pure call b s'
   | r=>r)
 | .cond c a b,s=>(match opd s.tm c with | .bool t=>if t then qbL pure call a s else qbL pure call b s | _=>none)
 | .block id c,s =>
   (match qbL pure call c s with
   | some (.exit id',s')=>if id'=id then some (.normal,s') else some (.exit id',s')
   | r=>r)
 | .loop c,s=>qkY (qbL pure call c) s
 | .gloop k c,s=>qkY (fun s1=>qbL pure call c (gc s.h.length k s1)) s
 | .frame k c,s=>(qbL pure call c s).map (gcE s.h.length k)
 | .freeze t c,s=>qbL pure call c (qf4 t s)
 | .view c,s=>qbL pure call c (qoV s)
 | .range k b c,s=>qk9 (qdg pure call) k (qbL pure call b) (qbL pure call c) s
 | .exit id,s=>some (.exit id,s)
 | .ret,s=>some (.ret,s)
 | .stuck,_=>none
theorem qnq {pure:Nat→Bool} {c1 c2:CallT} (hc:∀ f a h,Le (c1 f a h) (c2 f a h)) (n:Nat):∀ (c:ACode) (s:St),Le (qbr pure c1 n c s) (qbL pure c2 c s):=by
 intro c
 induction c with
 | skip=>intro s;exact Le.refl _
 | ops l=>intro s;exact qfq hc l s
 | draw l cs=>intro s;exact qlL hc l cs s
 | kops l=>intro s;exact qiY hc l s
 | mdraw k l ns=>intro s;exact Le.refl _
 | seq a b iha ihb =>
   intro s r hr
   rw[qbr] at hr
   rw[qbL]
   cases hx:qbr pure c1 n a s with
   | none=>rw[hx] at hr;cases hr
   | some x =>
     rw[iha s x hx]
     rw[hx] at hr
     obtain⟨e,s'⟩:=x
     cases e with
     | normal=>exact ihb _ r hr
     | _=>exact hr
 | cond c a b iha ihb =>
   intro s r hr
   rw[qbr] at hr
   rw[qbL]
   split
   ·rename_i t ht
    rw[ht] at hr
    cases t with
    | true=>exact iha s r hr
    | false=>exact ihb s r hr
   ·rename_i ht
    split at hr
    ·rename_i t ht'
     exact absurd ht' (ht t)
    ·cases hr
 | block id c ih =>
   intro s r hr
   rw[qbr] at hr
   rw[qbL]
   cases hx:qbr pure c1 n c s with
   | none=>rw[hx] at hr;cases hr
   | some x=>rw[ih s x hx];rw[hx] at hr;exact hr
 | loop c ih=>intro s;exact (qfB ih (Nat.le_refl n) s).trans (qh2 _ _ _)
 | gloop k c ih=>intro s;exact (qfB (fun s1=>ih _) (Nat.le_refl n) s).trans (qh2 _ _ _)
 | freeze t c ih=>intro s;exact ih _
 | view c ih=>intro s;exact ih _
 | range k b c ihb ihc=>intro s;exact qla (fun l s=>qfq hc l s) ihb ihc k s
 | frame k c ih =>
   intro s r hr
   rw[qbr] at hr
   rw[qbL]
   obtain⟨x,hx,rfl⟩:=Option.map_eq_some_iff.1 hr
   rw[ih s x hx]
   rfl
 | exit id=>intro s;exact Le.refl _
 | ret=>intro s;exact Le.refl _
 | stuck=>intro s;exact Le.refl _
section
variable {pure:Nat→Bool} {L:Lib}
theorem qi3 {f:Nat} {a:List AVal} {h:Heap} {r:ARes × Heap} (hr:qdX pure (call L) f a h=some r):∃ n,qdX pure (qcW L n) f a h=some r:=by
 unfold qdX at hr
 split at hr
 ·rename_i hp
  cases hx:call L f (a.map wipe) [] with
  | none=>rw[hx] at hr;cases hr
  | some x =>
    rw[hx] at hr
    obtain⟨n,hn⟩:=qex.1 hx
    refine⟨n,?_⟩
    unfold qdX
    rw[if_pos hp,hn]
    exact hr
 ·rename_i hp
  unfold qlF at hr
  split at hr
  ·rename_i hq
   cases hx:call L f (a.map (ren fun i=>qa5 i (qcA a h) 0)) (qdU (qcA a h) h) with
   | none=>rw[hx] at hr;cases hr
   | some x =>
     rw[hx] at hr
     obtain⟨n,hn⟩:=qex.1 hx
     refine⟨n,?_⟩
     unfold qdX qlF
     rw[if_neg hp,if_pos hq,hn]
     exact hr
  ·cases hr
theorem qmz {o:AOp} {tm:Tmps} {h:Heap} {r:ARes × Heap} (hr:aOp pure (call L) o tm h=some r):∃ n,aOp pure (qcW L n) o tm h=some r:=by
 cases o with
 | vcall f args =>
   simp only[aOp] at hr ⊢
   unfold qjQ at hr
   split at hr
   ·rename_i hp
    cases hx:call L f ((args.map (opd tm)).map (lookV h)) [] with
    | none=>rw[hx] at hr;cases hr
    | some x =>
      rw[hx] at hr
      obtain⟨n,hn⟩:=qex.1 hx
      refine⟨n,?_⟩
      unfold qjQ
      rw[if_pos hp,hn]
      exact hr
   ·cases hr
 | hcall f args =>
   simp only[aOp] at hr ⊢
   split at hr
   ·rename_i hf
    exact qex.1 hr
   ·cases hr
 | call f args =>
   simp only[aOp] at hr ⊢
   split at hr
   ·rename_i hf
    exact qi3 hr
   ·cases hr
 | pcallV f args =>
   simp only[aOp] at hr ⊢
   split at hr
   ·rename_i hf
    unfold qk8 at hr
    split at hr
    ·rename_i hc'
     unfold qa7 at hr
     split at hr
     ·rename_i v h' hd
      obtain⟨n,hn⟩:=qi3 hd
      refine⟨n,?_⟩
      unfold qk8
      rw[if_pos hc',hn]
      exact hr
     ·cases hr
    ·cases hr
   ·cases hr
 | pcall f args =>
   simp only[aOp] at hr ⊢
   split at hr
   ·rename_i hc'
    unfold qa7 at hr
    split at hr
    ·rename_i v h' hd
     obtain⟨n,hn⟩:=qi3 hd
     refine⟨n,?_⟩
     rw[if_pos hc',hn]
     exact hr
    ·cases hr
   ·cases hr
 | _=>exact⟨0,hr⟩
theorem qh8:∀ (l:List Step) {s:St} {r:AExit × St},qdg pure (call L) l s=some r→∃ n,qdg pure (qcW L n) l s=some r:=by
 intro l
 induction l with
 | nil=>intro s r hr;exact⟨0,hr⟩
 | cons o rest ih =>
   intro s r hr
   rw[qdg] at hr
   split at hr
   ·rename_i hw
    cases hx:aOp pure (call L) o.op s.tm s.h with
    | none=>rw[hx] at hr;cases hr
    | some x =>
      rw[hx] at hr
      obtain⟨n,hn⟩:=qmz hx
      obtain⟨v,h⟩:=x
      cases v with
      | val v =>
        obtain⟨m,hm⟩:=ih hr
        refine⟨max n m,?_⟩
        rw[qdg,hw]
        dsimp only
        rw[qgY (qdy L (Nat.le_max_left n m)) _ _ _ _ hn]
        exact qfq (qdy L (Nat.le_max_right n m)) _ _ _ hm
      | panic v =>
        refine⟨n,?_⟩
        rw[qdg,hw]
        dsimp only
        rw[hn]
        exact hr
   ·rename_i hw
    obtain⟨m,hm⟩:=ih hr
    exact⟨m,by rw[qdg,hw];exact hm⟩
   ·cases hr
theorem qtL {o:AOp} {tm:Tmps} {h:Heap} {r:ARes × Heap} (hr:qki pure (call L) o tm h=some r):∃ n,qki pure (qcW L n) o tm h=some r:=by
 cases o with
 | pcall f args =>
   simp only[qki] at hr ⊢
   unfold qn0 at hr
   split at hr
   ·rename_i hp
    cases hx:call L f ((args.map (opd tm)).map wipe) [] with
    | none=>rw[hx] at hr;cases hr
    | some x =>
      rw[hx] at hr
      obtain⟨n,hn⟩:=qex.1 hx
      refine⟨n,?_⟩
      unfold qn0
      rw[if_pos hp,hn]
      exact hr
   ·cases hr
 | append sz bytes x y =>
   simp only[qki] at hr ⊢
   split at hr
   ·rename_i hq
    refine⟨0,?_⟩
    rw[if_pos hq]
    exact hr
   ·rename_i hq
    obtain⟨n,hn⟩:=qmz hr
    refine⟨n,?_⟩
    rw[if_neg hq]
    exact hn
 | _=>simp only[qki] at hr ⊢;exact qmz hr
theorem qrK:∀ (l:List Step) {s:St} {r:AExit × St},qfd pure (call L) l s=some r→∃ n,qfd pure (qcW L n) l s=some r:=by
 intro l
 induction l with
 | nil=>intro s r hr;exact⟨0,hr⟩
 | cons o rest ih =>
   intro s r hr
   rw[qfd] at hr
   split at hr
   ·rename_i hw
    cases hx:qki pure (call L) o.op s.tm s.h with
    | none=>rw[hx] at hr;cases hr
    | some x =>
      rw[hx] at hr
      obtain⟨n,hn⟩:=qtL hx
      obtain⟨v,h⟩:=x
      cases v with
      | val v =>
        obtain⟨m,hm⟩:=ih hr
        refine⟨max n m,?_⟩
        rw[qfd,hw]
        dsimp only
        rw[qns (qdy L (Nat.le_max_left n m)) _ _ _ _ hn]
        exact qiY (qdy L (Nat.le_max_right n m)) _ _ _ hm
      | panic v =>
        refine⟨n,?_⟩
        rw[qfd,hw]
        dsimp only
        rw[hn]
        exact hr
   ·rename_i hw
    obtain⟨m,hm⟩:=ih hr
    exact⟨m,by rw[qfd,hw];exact hm⟩
   ·cases hr
theorem qrJ:∀ (l:List Step) {tm:Tmps} {hs:List Heap} {h:Heap} {r:Tmps × List Heap × Heap},qeh pure (call L) l tm hs h=some r→∃ n,qeh pure (qcW L n) l tm hs h=some r:=by
 intro l
 induction l with
 | nil=>intro tm hs h r hr;exact⟨0,hr⟩
 | cons o rest ih =>
   intro tm hs h r hr
   rw[qeh] at hr
   split at hr
   ·rename_i hw
    cases hx:aOp pure (call L) o.op tm h with
    | none=>rw[hx] at hr;cases hr
    | some x =>
      rw[hx] at hr
      obtain⟨n,hn⟩:=qmz hx
      obtain⟨v,h'⟩:=x
      cases v with
      | val v =>
        obtain⟨m,hm⟩:=ih hr
        refine⟨max n m,?_⟩
        rw[qeh,hw]
        dsimp only
        rw[qgY (qdy L (Nat.le_max_left n m)) _ _ _ _ hn]
        exact qlM (qdy L (Nat.le_max_right n m)) _ _ _ _ _ hm
      | panic v=>cases hr
   ·rename_i hw
    obtain⟨m,hm⟩:=ih hr
    exact⟨m,by rw[qeh,hw];exact hm⟩
   ·cases hr
theorem qqw (c:ACode) (g:St→St) (ih:∀ {s:St} {r:AExit × St},qbL pure (call L) c s=some r→∃ n,qbr pure (qcW L n) n c s=some r) {r:AExit × St} :
  ∀ k s,qeI (fun s1=>qbL pure (call L) c (g s1)) k s=some r→∃ n,qeI (fun s1=>qbr pure (qcW L n) n c (g s1)) n s=some r:=by
 intro k
 induction k with
 | zero=>intro s h;cases h
 | succ k ihk =>
   intro s h
   rw[qeI] at h
   cases hx:qbL pure (call L) c (g s) with
   | none=>rw[hx] at h;cases h
   | some x =>
     rw[hx] at h
     obtain⟨n,hn⟩:=ih hx
     obtain⟨e,s'⟩:=x
     cases e with
     | normal =>
       obtain⟨m,hm⟩:=ihk s' h
       refine⟨max n m+1,?_⟩
       rw[qeI,qdO (qdy L (Nat.le_trans (Nat.le_max_left n m) (Nat.le_succ _))) (Nat.le_trans (Nat.le_max_left n m) (Nat.le_succ _)) _ _ _ hn]
       exact qfB (fun s=>qdO (qdy L (Nat.le_trans (Nat.le_max_right n m) (Nat.le_succ _))) (Nat.le_trans (Nat.le_max_right n m) (Nat.le_succ _)) _ _) (Nat.le_max_right n m) _ _ hm
     | _ =>
       refine⟨n+1,?_⟩
       rw[qeI,qdO (qdy L (Nat.le_succ n)) (Nat.le_succ n) _ _ _ hn]
       exact h
def qmk (x:AVal × AVal):List (AVal × AVal)→List (List (AVal × AVal))
 | []=>[[x]]
 | y::ys=>(x::y::ys)::(qmk x ys).map (y::·)
def qgr:List (AVal × AVal)→List (List (AVal × AVal))
 | []=>[[]]
 | x::xs=>(qgr xs).flatMap (qmk x)
theorem qmd (x:AVal × AVal):∀ l r:List (AVal × AVal),l++x::r∈qmk x (l++r)
 | [],[]=>by simp[qmk]
 | [],y::ys=>by simp[qmk]
 | y :: l,r => by
   simp only[List.cons_append,qmk,List.mem_cons,List.mem_map]
   exact .inr ⟨_,qmd x l r,rfl⟩
theorem qiM:∀ (es es':List (AVal × AVal)),es'.Perm es→es'∈qgr es
 | [],es',h=>by rw[h.eq_nil];simp[qgr]
 | x :: xs,es',h => by
   obtain⟨l,r,rfl⟩:=List.append_of_mem (h.mem_iff.2 (List.mem_cons_self ..))
   have h1:(l++r).Perm xs:=by
    have:=(List.perm_middle (a:=x) (l₁:=l) (l₂:=r)).symm.trans h
    exact this.cons_inv
   simp only[qgr,List.mem_flatMap]
   exact⟨_,qiM xs _ h1,qmd x l r⟩
theorem qsl {α:Type} (Q:Nat→α→Prop) (hm:∀ n m a,n≤m→Q n a→Q m a):∀ (l:List α),(∀ a∈l,∃ n,Q n a)→∃ n,∀ a∈l,Q n a
 | [],_=>⟨0,fun a ha=>by cases ha⟩
 | a :: l,h => by
   obtain⟨n,hn⟩:=h a (by simp)
   obtain⟨m,hm'⟩:=qsl Q hm l fun b hb=>h b (by simp[hb])
   refine⟨max n m,fun b hb=>?_⟩
   rcases List.mem_cons.1 hb with rfl | hb
   ·exact hm _ _ _ (Nat.le_max_left n m) hn
   ·exact hm _ _ _ (Nat.le_max_right n m) (hm' b hb)
section
variable {b c:ACode}
theorem qfp {n m:Nat} (h:n≤m) (l:List Step) (s:St):Le (qdg pure (qcW L n) l s) (qdg pure (qcW L m) l s):=qfq (qdy L h) l s
theorem qeM {n m:Nat} (h:n≤m) (s:St):Le (qbr pure (qcW L n) n b s) (qbr pure (qcW L m) m b s):=qdO (qdy L h) h b s
theorem qlG (hb:∀ {s:St} {r:AExit × St},qbL pure (call L) b s=some r→∃ n,qbr pure (qcW L n) n b s=some r) (i:Nat) (k:RangeK) (e:AVal × AVal) {s:St} {r:AExit × St}
  (hr:qci (qdg pure (call L)) i k (qbL pure (call L) b) e s=some r):∃ n,qci (qdg pure (qcW L n)) i k (qbr pure (qcW L n) n b) e s=some r:=by
 unfold qci at hr
 split at hr
 case isFalse=>cases hr
 rename_i g0
 cases hx:qdg pure (call L) k.r1 ⟨upd s.tm (some k.dn) (.tuple [.bool true,e.1,e.2]),s.h⟩ with
 | none=>rw[hx] at hr;cases hr
 | some x =>
   rw[hx] at hr
   obtain⟨n1,hn1⟩:=qh8 _ hx
   obtain⟨q,s1⟩:=x
   cases q with
   | normal =>
     dsimp only at hr
     split at hr
     case isFalse=>cases hr
     rename_i g1
     split at hr
     ·rename_i hq
      unfold qlj at hr
      cases hy:qdg pure (call L) k.r2 ⟨upd s1.tm k.de (.tuple [e.1,e.2]),s1.h⟩ with
      | none=>rw[hy] at hr;cases hr
      | some y =>
        rw[hy] at hr
        obtain⟨n2,hn2⟩:=qh8 _ hy
        obtain⟨q2,s2⟩:=y
        cases q2 with
        | normal =>
          dsimp only at hr
          cases hz:qbL pure (call L) b s2 with
          | none=>rw[hz] at hr;cases hr
          | some z =>
            obtain⟨n3,hn3⟩:=hb hz
            rw[hz] at hr
            refine⟨max n1 (max n2 n3),?_⟩
            unfold qci qlj
            rw[if_pos g0,qfp (Nat.le_max_left _ _) _ _ _ hn1]
            dsimp only
            rw[if_pos g1,hq]
            dsimp only
            rw[qfp (Nat.le_trans (Nat.le_max_left n2 n3) (Nat.le_max_right _ _)) _ _ _ hn2]
            dsimp only
            rw[qeM (Nat.le_trans (Nat.le_max_right n2 n3) (Nat.le_max_right _ _)) _ _ hn3]
            exact hr
        | _ =>
          refine⟨max n1 n2,?_⟩
          unfold qci qlj
          rw[if_pos g0,qfp (Nat.le_max_left _ _) _ _ _ hn1]
          dsimp only
          rw[if_pos g1,hq]
          dsimp only
          rw[qfp (Nat.le_max_right _ _) _ _ _ hn2]
          exact hr
     ·cases hr
   | _=>cases hr
theorem qov (i:Nat) (k:RangeK) {s:St} {r:AExit × St} (hr:qcO (qdg pure (call L)) i k s=some r):∃ n,qcO (qdg pure (qcW L n)) i k s=some r:=by
 unfold qcO at hr
 split at hr
 case isFalse=>cases hr
 rename_i g0
 cases hx:qdg pure (call L) k.r1 ⟨upd s.tm (some k.dn) (.tuple [.bool false]),s.h⟩ with
 | none=>rw[hx] at hr;cases hr
 | some x =>
   rw[hx] at hr
   obtain⟨n1,hn1⟩:=qh8 _ hx
   exact⟨n1,by unfold qcO;rw[if_pos g0,hn1];exact hr⟩
theorem qjH (hb:∀ {s:St} {r:AExit × St},qbL pure (call L) b s=some r→∃ n,qbr pure (qcW L n) n b s=some r) (i:Nat) (k:RangeK):∀ (es:List (AVal × AVal)) {s:St} {r:AExit × St},
  qcj (qdg pure (call L)) i k (qbL pure (call L) b) es s=some r→∃ n,qcj (qdg pure (qcW L n)) i k (qbr pure (qcW L n) n b) es s=some r
 | [],s,r,hr=>qov i k hr
 | e :: es,s,r,hr => by
   rw[qcj] at hr
   cases hx:qci (qdg pure (call L)) i k (qbL pure (call L) b) e (gc (i+1) k.kr s) with
   | none=>rw[hx] at hr;cases hr
   | some x =>
     rw[hx] at hr
     obtain⟨n,hn⟩:=qlG hb i k e hx
     obtain⟨q,s1⟩:=x
     cases q with
     | normal =>
       obtain⟨m,hm⟩:=qjH hb i k es hr
       refine⟨max n m,?_⟩
       rw[qcj,qgO (fun l s=>qfp (Nat.le_max_left n m) l s) (fun s=>qeM (Nat.le_max_left n m) s) i k e _ _ hn]
       exact qeU (fun l s=>qfp (Nat.le_max_right n m) l s) (fun s=>qeM (Nat.le_max_right n m) s) i k es _ _ hm
     | _=>exact⟨n,by rw[qcj,hn];exact hr⟩
theorem qow (hb:∀ {s:St} {r:AExit × St},qbL pure (call L) b s=some r→∃ n,qbr pure (qcW L n) n b s=some r) (hc:∀ {s:St} {r:AExit × St},qbL pure (call L) c s=some r→∃ n,qbr pure (qcW L n) n c s=some r)
  (k:RangeK) (s s1:St) (es:List (AVal × AVal)) {r:AExit × St} (hr:qdC (qdg pure (call L)) k (qbL pure (call L) b) (qbL pure (call L) c) s s1 es=some r) :
  ∃ n,qdC (qdg pure (qcW L n)) k (qbr pure (qcW L n) n b) (qbr pure (qcW L n) n c) s s1 es=some r:=by
 unfold qdC at hr
 obtain⟨x,hx,rfl⟩:=Option.map_eq_some_iff.1 hr
 cases hy:qcj (qdg pure (call L)) s1.h.length k (qbL pure (call L) b) es ⟨upd s1.tm (some k.it) (.ptr (some (s1.h.length,0))),qlC (opd s1.tm k.m) s1.h⟩ with
 | none=>rw[hy] at hx;cases hx
 | some y =>
   rw[hy] at hx
   obtain⟨n,hn⟩:=qjH hb _ k es hy
   obtain⟨q,s2⟩:=y
   cases q with
   | normal =>
     obtain⟨m,hm⟩:=hc hx
     refine⟨max n m,?_⟩
     unfold qdC
     rw[qeU (fun l s=>qfp (Nat.le_max_left n m) l s) (fun s=>qeM (Nat.le_max_left n m) s) _ k es _ _ hn]
     dsimp only
     rw[qeM (Nat.le_max_right n m) _ _ hm]
     rfl
   | _ =>
     refine⟨n,?_⟩
     unfold qdC
     rw[hn]
     dsimp only at hx ⊢
     rw[hx]
     rfl
end
theorem qrI:∀ (c:ACode) {s:St} {r:AExit × St},qbL pure (call L) c s=some r→∃ n,qbr pure (qcW L n) n c s=some r:=by
 intro c
 induction c with
 | skip=>intro s r hr;exact⟨0,hr⟩
 | ops l=>intro s r hr;exact qh8 l hr
 | kops l=>intro s r hr;exact qrK l hr
 | mdraw k l ns=>intro s r hr;exact⟨0,hr⟩
 | draw l cs =>
   intro s r hr
   rw[qbL] at hr
   unfold qhK at hr
   cases hx:qeh pure (call L) l s.tm [] s.h with
   | none=>rw[hx] at hr;cases hr
   | some x =>
     rw[hx] at hr
     obtain⟨n,hn⟩:=qrJ l hx
     exact⟨n,by rw[qbr];unfold qhK;rw[hn];exact hr⟩
 | seq a b iha ihb =>
   intro s r hr
   rw[qbL] at hr
   cases hx:qbL pure (call L) a s with
   | none=>rw[hx] at hr;cases hr
   | some x =>
     rw[hx] at hr
     obtain⟨n,hn⟩:=iha hx
     obtain⟨e,s'⟩:=x
     cases e with
     | normal =>
       obtain⟨m,hm⟩:=ihb hr
       refine⟨max n m,?_⟩
       rw[qbr,qdO (qdy L (Nat.le_max_left n m)) (Nat.le_max_left n m) _ _ _ hn]
       exact qdO (qdy L (Nat.le_max_right n m)) (Nat.le_max_right n m) _ _ _ hm
     | _=>exact⟨n,by rw[qbr,hn];exact hr⟩
 | cond c a b iha ihb =>
   intro s r hr
   rw[qbL] at hr
   split at hr
   ·rename_i t ht
    cases t with
    | true =>
      obtain⟨n,hn⟩:=iha hr
      exact⟨n,by rw[qbr,ht];exact hn⟩
    | false =>
      obtain⟨n,hn⟩:=ihb hr
      exact⟨n,by rw[qbr,ht];exact hn⟩
   ·cases hr
 | block id c ih =>
   intro s r hr
   rw[qbL] at hr
   cases hx:qbL pure (call L) c s with
   | none=>rw[hx] at hr;cases hr
   | some x =>
     rw[hx] at hr
     obtain⟨n,hn⟩:=ih hx
     exact⟨n,by rw[qbr,hn];exact hr⟩
 | loop c ih =>
   intro s r hr
   rw[qbL] at hr
   obtain⟨k,hk⟩:=qek.1 hr
   obtain⟨n,hn⟩:=qqw c (fun s=>s) (fun hx=>ih hx) k s hk
   exact⟨n,by rw[qbr];exact hn⟩
 | gloop kp c ih =>
   intro s r hr
   rw[qbL] at hr
   obtain⟨k,hk⟩:=qek.1 hr
   obtain⟨n,hn⟩:=qqw c (fun s1=>gc s.h.length kp s1) (fun hx=>ih hx) k s hk
   exact⟨n,by rw[qbr];exact hn⟩
 | view c ih =>
   intro s r hr
   obtain⟨n,hn⟩:=ih hr
   exact⟨n,hn⟩
 | freeze t c ih =>
   intro s r hr
   obtain⟨n,hn⟩:=ih hr
   exact⟨n,hn⟩
 | range k b c ihb ihc =>
   intro s r hr
   rw[qbL,qfJ] at hr
   cases hx:qdg pure (call L) k.pre s with
   | none=>rw[hx] at hr;cases hr
   | some x =>
     rw[hx] at hr
     obtain⟨n,hn⟩:=qh8 _ hx
     obtain⟨q,s1⟩:=x
     cases q with
     | normal =>
       dsimp only at hr
       split at hr
       ·rename_i es hes
        have h1:=(qdP (qcS _ _)).1 hr
        obtain⟨m,hm⟩:=qsl (fun n es'=>qds k.str es es'→qdC (qdg pure (qcW L n)) k (qbr pure (qcW L n) n b) (qbr pure (qcW L n) n c) s s1 es'=some r)
         (fun n m a hnm h ho=>qgc (fun l s=>qfp hnm l s) (fun s=>qeM hnm s) (fun s=>qeM hnm s) k s s1 a r (h ho)) (es::qgr es)
         (fun a _=>by
          by_cases ho:qds k.str es a
          ·obtain⟨n,hn⟩:=qow ihb ihc k s s1 a (h1 a ho)
           exact⟨n,fun _=>hn⟩
          ·exact⟨0,fun h=>absurd h ho⟩)
        refine⟨max n m,?_⟩
        rw[qbr,qfJ,qfp (Nat.le_max_left n m) _ _ _ hn]
        dsimp only
        rw[hes]
        dsimp only
        refine (qdP (qcS _ _)).2 fun es' he=>?_
        refine qgc (fun l s=>qfp (Nat.le_max_right n m) l s) (fun s=>qeM (Nat.le_max_right n m) s) (fun s=>qeM (Nat.le_max_right n m) s) k s s1 es' r (hm es' ?_ he)
        unfold qds at he
        split at he
        ·rw[he];simp
        ·exact List.mem_cons_of_mem _ (qiM es es' he)
       ·cases hr
     | _=>cases hr
 | frame kp c ih =>
   intro s r hr
   rw[qbL] at hr
   obtain⟨x,hx,rfl⟩:=Option.map_eq_some_iff.1 hr
   obtain⟨n,hn⟩:=ih hx
   exact⟨n,by rw[qbr,hn];rfl⟩
 | exit id=>intro s r hr;exact⟨0,hr⟩
 | ret=>intro s r hr;exact⟨0,hr⟩
 | stuck=>intro s r hr;exact⟨0,hr⟩
end
theorem qbE {L:Lib} {f:Nat} {fn:AFn} (hs:L.summ f=none) (hf:L.fns f=some fn) {a:List AVal} {h:Heap} {r:ARes × Heap}
  (hr:qaT fn.results (qbL L.pure (call L) fn.body ⟨qe4 a,h⟩)=some r):call L f a h=some r:=by
 cases hx:qbL L.pure (call L) fn.body ⟨qe4 a,h⟩ with
 | none=>rw[hx] at hr;cases hr
 | some x =>
   rw[hx] at hr
   obtain⟨n,hn⟩:=qrI _ hx
   refine qex.2 ⟨n+1,?_⟩
   rw[qcW,hs]
   dsimp only
   rw[hf]
   dsimp only
   rw[hn]
   exact hr
theorem qig {L:Lib} {f:Nat} {s:List AVal→Heap→Option (ARes × Heap)} (hs:L.summ f=some s) {a:List AVal} {h:Heap} {r:ARes × Heap} (hr:s a h=some r):call L f a h=some r :=
 qex.2 ⟨1,by rw[qcW,hs];exact hr⟩
end Go.Abs
