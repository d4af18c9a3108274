/-
  The abstract machine without bounds: calls and loops as limits of the bounded ones; each is what its body says.
-/
import Derived.Test.YtbmognfolkhkpaaDoorAbsA
set_option linter.unusedVariables false
namespace Go.Abs
def Le {α:Type} (x y:Option α):Prop:=∀ r,x=some r→y=some r
theorem Le.refl {α:Type} (x:Option α):Le x x:=fun _ h=>h
theorem Le.trans {α:Type} {x y z:Option α} (h:Le x y) (h':Le y z):Le x z:=fun r e=>h' r (h r e)
theorem Le.none {α:Type} (y:Option α):Le (Option.none:Option α) y:=fun _ h=>by cases h
open Classical in
noncomputable def lim {α:Type} (f:Nat→Option α):Option α:=if h:∃ n,(f n).isSome=true then f (Classical.choose h) else none
theorem qmC {α:Type} {f:Nat→Option α} (hm:∀ n,Le (f n) (f (n+1))):∀ {a b:Nat},a≤b→Le (f a) (f b):=by
 intro a b hab
 induction hab with
 | refl=>exact Le.refl _
 | step _ ih=>exact ih.trans (hm _)
theorem qpW {α:Type} {f:Nat→Option α} (hm:∀ n,Le (f n) (f (n+1))) {r:α}:lim f=some r↔∃ n,f n=some r:=by
 constructor
 ·intro h
  unfold lim at h
  split at h
  ·exact⟨_,h⟩
  ·cases h
 ·rintro ⟨n,hn⟩
  have hx:∃ n,(f n).isSome=true:=⟨n,by rw[hn];rfl⟩
  unfold lim
  rw[dif_pos hx]
  have h1:=Classical.choose_spec hx
  obtain⟨r',hr'⟩:=Option.isSome_iff_exists.1 h1
  rw[hr']
  have a:=qmC hm (Nat.le_max_left n (Classical.choose hx)) r hn
  have b:=qmC hm (Nat.le_max_right n (Classical.choose hx)) r' hr'
  rw[a] at b
  injection b with b
  rw[b]
theorem qlM (body:St→Option (AExit × St)):∀ n s,Le (qeI body n s) (qeI body (n+1) s):=by
 intro n
 induction n with
 | zero=>intro s r h;cases h
 | succ n ih =>
   intro s r h
   rw[qeI] at h ⊢
   split
   ·rename_i s' hb
    rw[hb] at h
    exact ih s' r h
   ·rename_i r' hr'
    split at h
    ·rename_i s' hs'
     exact absurd hs' (hr' s')
    ·exact h
theorem qfL {b1 b2:St→Option (AExit × St)} (hb:∀ s,Le (b1 s) (b2 s)):∀ {n m:Nat},n≤m→∀ s,Le (qeI b1 n s) (qeI b2 m s):=by
 intro n m hnm s
 refine Le.trans ?_ (qmC (f:=fun k=>qeI b2 k s) (fun k=>qlM b2 k s) hnm)
 clear hnm
 induction n generalizing s with
 | zero=>intro r h;cases h
 | succ n ih =>
   intro r h
   rw[qeI] at h ⊢
   cases hx:b1 s with
   | none=>rw[hx] at h;cases h
   | some x =>
     rw[hb s x hx]
     rw[hx] at h
     obtain⟨e,s'⟩:=x
     cases e with
     | normal=>exact ih s' r h
     | _=>exact h
section
variable {pure:Nat→Bool} {c1 c2:CallT}
theorem qqM (hc:∀ f a h,Le (c1 f a h) (c2 f a h)) (f:Nat) (a:List AVal) (h:Heap):Le (qln c1 f a h) (qln c2 f a h):=by
 intro r hr
 unfold qln at hr ⊢
 split
 ·rename_i hp
  rw[if_pos hp] at hr
  cases hx:c1 f (a.map (ren fun i=>qaU i (qct a h) 0)) (qdV (qct a h) h) with
  | none=>rw[hx] at hr;cases hr
  | some x=>rw[hc _ _ _ x hx];rw[hx] at hr;exact hr
 ·rename_i hp
  rw[if_neg hp] at hr
  cases hr
theorem qhV (hc:∀ f a h,Le (c1 f a h) (c2 f a h)) (f:Nat) (a:List AVal) (h:Heap):Le (qdZ pure c1 f a h) (qdZ pure c2 f a h):=by
 intro r hr
 unfold qdZ at hr ⊢
 split
 ·rename_i hp
  rw[if_pos hp] at hr
  cases hx:c1 f (a.map wipe) [] with
  | none=>rw[hx] at hr;cases hr
  | some x=>rw[hc _ _ _ x hx];rw[hx] at hr;exact hr
 ·rename_i hp
  rw[if_neg hp] at hr
  exact qqM hc _ _ _ _ hr
theorem qqK (hc:∀ f a h,Le (c1 f a h) (c2 f a h)) (g:Nat) (xs:List AVal) (h:Heap):Le (qkQ pure c1 g xs h) (qkQ pure c2 g xs h):=by
 intro r hr
 unfold qkQ at hr ⊢
 split
 ·rename_i hc'
  rw[if_pos hc'] at hr
  unfold qa4 at hr ⊢
  split at hr
  ·rename_i v h' hd
   rw[qhV hc _ _ _ _ hd]
   exact hr
  ·cases hr
 ·rename_i hc'
  rw[if_neg hc'] at hr
  cases hr
theorem qq1 (hc:∀ f a h,Le (c1 f a h) (c2 f a h)) (f:Nat) (a:List AVal) (h:Heap):Le (qol c1 f a h) (qol c2 f a h):=by
 intro r hr
 unfold qol at hr ⊢
 split
 ·rename_i hp
  rw[if_pos hp] at hr
  cases hx:c1 f (a.map (lookV h)) [] with
  | none=>rw[hx] at hr;cases hr
  | some x=>rw[hc _ _ _ x hx];rw[hx] at hr;exact hr
 ·rename_i hp
  rw[if_neg hp] at hr
  cases hr
theorem qg7 (hc:∀ f a h,Le (c1 f a h) (c2 f a h)) (o:AOp) (tm:Tmps) (h:Heap):Le (aOp pure c1 o tm h) (aOp pure c2 o tm h):=by
 intro r hr
 cases o with
 | vcall f args=>exact qq1 hc _ _ _ _ hr
 | hcall f args =>
   simp only[aOp] at hr ⊢
   split
   ·rename_i hf
    rw[hf] at hr
    exact hc _ _ _ _ hr
   ·rename_i hf
    split at hr
    ·rename_i hf'
     exact absurd hf' (hf _ _ _)
    ·cases hr
 | call f args =>
   simp only[aOp] at hr ⊢
   split
   ·rename_i hf
    rw[hf] at hr
    exact qhV hc _ _ _ _ hr
   ·rename_i hf
    split at hr
    ·rename_i hf'
     exact absurd hf' (hf _ _ _)
    ·cases hr
 | pcallV f args =>
   simp only[aOp] at hr ⊢
   split
   ·rename_i hf
    rw[hf] at hr
    exact qqK hc _ _ _ _ hr
   ·rename_i hf
    split at hr
    ·rename_i hf'
     exact absurd hf' (hf _ _ _)
    ·cases hr
 | pcall f args =>
   simp only[aOp] at hr ⊢
   split
   ·rename_i hc'
    rw[if_pos hc'] at hr
    unfold qa4 at hr ⊢
    split at hr
    ·rename_i v h' hd
     rw[qhV hc _ _ _ _ hd]
     exact hr
    ·cases hr
   ·rename_i hc'
    rw[if_neg hc'] at hr
    cases hr
 | _=>exact hr
theorem qfA (hc:∀ f a h,Le (c1 f a h) (c2 f a h)):∀ (l:List Step) (s:St),Le (qdc pure c1 l s) (qdc pure c2 l s):=by
 intro l
 induction l with
 | nil=>intro s;exact Le.refl _
 | cons o rest ih =>
   intro s r hr
   rw[qdc] at hr ⊢
   split
   ·rename_i hw
    rw[hw] at hr
    dsimp only at hr
    cases hx:aOp pure c1 o.op s.tm s.h with
    | none=>rw[hx] at hr;cases hr
    | some x =>
      rw[qg7 hc _ _ _ x hx]
      rw[hx] at hr
      obtain⟨v,h⟩:=x
      cases v with
      | val v=>exact ih _ r hr
      | panic v=>exact hr
   ·rename_i hw
    rw[hw] at hr
    exact ih _ r hr
   ·rename_i hw
    rw[hw] at hr
    cases hr
theorem qqC (hc:∀ f a h,Le (c1 f a h) (c2 f a h)) (f:Nat) (a:List AVal) (h:Heap):Le (qny c1 f a h) (qny c2 f a h):=by
 intro r hr
 unfold qny at hr ⊢
 split
 ·rename_i hp
  rw[if_pos hp] at hr
  cases hx:c1 f (a.map wipe) [] with
  | none=>rw[hx] at hr;cases hr
  | some x=>rw[hc _ _ _ x hx];rw[hx] at hr;exact hr
 ·rename_i hp
  rw[if_neg hp] at hr
  cases hr
theorem qm0 (hc:∀ f a h,Le (c1 f a h) (c2 f a h)) (o:AOp) (tm:Tmps) (h:Heap):Le (qj7 pure c1 o tm h) (qj7 pure c2 o tm h):=by
 intro r hr
 cases o with
 | pcall f args=>exact qqC hc _ _ _ _ hr
 | append sz bytes x y =>
   simp only[qj7] at hr ⊢
   split
   ·rename_i hq
    rw[if_pos hq] at hr
    exact hr
   ·rename_i hq
    rw[if_neg hq] at hr
    exact qg7 hc _ tm h r hr
 | _=>simp only[qj7] at hr ⊢;exact qg7 hc _ tm h r hr
theorem qiS (hc:∀ f a h,Le (c1 f a h) (c2 f a h)):∀ (l:List Step) (s:St),Le (qfl pure c1 l s) (qfl pure c2 l s):=by
 intro l
 induction l with
 | nil=>intro s;exact Le.refl _
 | cons o rest ih =>
   intro s r hr
   rw[qfl] at hr ⊢
   split
   ·rename_i hw
    rw[hw] at hr
    dsimp only at hr
    cases hx:qj7 pure c1 o.op s.tm s.h with
    | none=>rw[hx] at hr;cases hr
    | some x =>
      rw[qm0 hc _ _ _ x hx]
      rw[hx] at hr
      obtain⟨v,h⟩:=x
      cases v with
      | val v=>exact ih _ r hr
      | panic v=>exact hr
   ·rename_i hw
    rw[hw] at hr
    exact ih _ r hr
   ·rename_i hw
    rw[hw] at hr
    cases hr
theorem qlt (hc:∀ f a h,Le (c1 f a h) (c2 f a h)):∀ (l:List Step) (tm:Tmps) (hs:List Heap) (h:Heap),Le (qeh pure c1 l tm hs h) (qeh pure c2 l tm hs h):=by
 intro l
 induction l with
 | nil=>intro tm hs h;exact Le.refl _
 | cons o rest ih =>
   intro tm hs h r hr
   rw[qeh] at hr ⊢
   split
   ·rename_i hw
    rw[hw] at hr
    dsimp only at hr
    cases hx:aOp pure c1 o.op tm h with
    | none=>rw[hx] at hr;cases hr
    | some x =>
      rw[qg7 hc _ _ _ x hx]
      rw[hx] at hr
      obtain⟨v,h'⟩:=x
      cases v with
      | val v=>exact ih _ _ _ r hr
      | panic v=>exact hr
   ·rename_i hw
    rw[hw] at hr
    exact ih _ _ _ r hr
   ·rename_i hw
    rw[hw] at hr
    cases hr
section
variable {o1 o2:List Step→St→Option (AExit × St)} {b1 b2 c1' c2':St→Option (AExit × St)}
theorem qm6 {id:Nat} {x y:Option (AExit × St)} (h:Le x y):Le (qeG id x) (qeG id y):=by
 intro r hr
 cases x with
 | none=>cases hr
 | some x=>rw[h x rfl];exact hr
theorem qgW (ho:∀ l s,Le (o1 l s) (o2 l s)) (hb:∀ s,Le (b1 s) (b2 s)) (n:Nat) (k:RangeK) (e:AVal × AVal) (s:St):Le (qb9 o1 n k b1 e s) (qb9 o2 n k b2 e s):=by
 intro r hr
 unfold qb9 at hr ⊢
 split
 case isFalse h0=>rw[if_neg h0] at hr;cases hr
 rename_i h0
 rw[if_pos h0] at hr
 cases hx:o1 k.r1 ⟨upd s.tm (some k.dn) (.tuple [.bool true,e.1,e.2]),s.h⟩ with
 | none=>rw[hx] at hr;cases hr
 | some x =>
   rw[ho _ _ x hx]
   rw[hx] at hr
   obtain⟨q,s1⟩:=x
   cases q with
   | normal =>
     dsimp only at hr ⊢
     split
     case isFalse h1=>rw[if_neg h1] at hr;cases hr
     rename_i h1
     rw[if_pos h1] at hr
     split
     ·rename_i hq
      rw[hq] at hr
      refine qm6 (id:=k.id2) ?_ r hr
      intro r2 hr2
      unfold qk5 at hr2 ⊢
      cases hy:o1 k.r2 ⟨upd s1.tm k.de (.tuple [e.1,e.2]),s1.h⟩ with
      | none=>rw[hy] at hr2;cases hr2
      | some y =>
        rw[ho _ _ y hy]
        rw[hy] at hr2
        obtain⟨q2,s2⟩:=y
        cases q2 with
        | normal=>exact hb _ r2 hr2
        | _=>exact hr2
     ·rename_i hq
      split at hr
      ·rename_i hq'
       exact absurd hq' hq
      ·cases hr
   | _=>cases hr
theorem qmH (ho:∀ l s,Le (o1 l s) (o2 l s)) (n:Nat) (k:RangeK) (s:St):Le (qcF o1 n k s) (qcF o2 n k s):=by
 intro r hr
 unfold qcF at hr ⊢
 split
 case isFalse h0=>rw[if_neg h0] at hr;cases hr
 rename_i h0
 rw[if_pos h0] at hr
 cases hx:o1 k.r1 ⟨upd s.tm (some k.dn) (.tuple [.bool false]),s.h⟩ with
 | none=>rw[hx] at hr;cases hr
 | some x =>
   rw[ho _ _ x hx]
   rw[hx] at hr
   exact hr
theorem qeU (ho:∀ l s,Le (o1 l s) (o2 l s)) (hb:∀ s,Le (b1 s) (b2 s)) (n:Nat) (k:RangeK):∀ (es:List (AVal × AVal)) (s:St),Le (qcb o1 n k b1 es s) (qcb o2 n k b2 es s)
 | [],s=>qmH ho n k _
 | e :: es,s => by
   intro r hr
   rw[qcb] at hr ⊢
   cases hx:qb9 o1 n k b1 e (gc (n+1) k.kr s) with
   | none=>rw[hx] at hr;cases hr
   | some x =>
     rw[qgW ho hb n k e _ x hx]
     rw[hx] at hr
     obtain⟨q,s1⟩:=x
     cases q with
     | normal=>exact qeU ho hb n k es s1 r hr
     | _=>exact hr
theorem qdP {O:List (AVal × AVal)→Prop} (hO:∃ es,O es) {f:List (AVal × AVal)→Option (AExit × St)} {r:AExit × St}:qm4 O f=some r↔∀ es,O es→f es=some r:=by
 constructor
 ·intro h
  unfold qm4 at h
  split at h
  ·rename_i hx
   injection h with h
   rw[← h]
   exact Classical.choose_spec hx
  ·cases h
 ·intro h
  have hx:∃ r,∀ es,O es→f es=some r:=⟨r,h⟩
  unfold qm4
  rw[dif_pos hx]
  obtain⟨es,he⟩:=hO
  have h1:=Classical.choose_spec hx es he
  rw[h es he] at h1
  exact h1.symm
theorem qcK (str:Bool) (es:List (AVal × AVal)):∃ es',qdr str es es':=⟨es,by unfold qdr;split<;>first | rfl | exact .refl _⟩
def qdA (ops:List Step→St→Option (AExit × St)) (k:RangeK) (runB runC:St→Option (AExit × St)) (s s1:St) (es:List (AVal × AVal)):Option (AExit × St) :=
 (match qcb ops s1.h.length k runB es ⟨upd s1.tm (some k.it) (.ptr (some (s1.h.length,0))),qlk (opd s1.tm k.m) s1.h⟩ with
  | some (.normal,s2)=>runC ⟨s2.tm,qdv (opd s1.tm k.m) s1.h s2.h⟩
  | some (e,s2)=>some (e,⟨s2.tm,qdv (opd s1.tm k.m) s1.h s2.h⟩)
  | none=>none).map (gcE s.h.length k.keep)
theorem qfT (ops:List Step→St→Option (AExit × St)) (k:RangeK) (runB runC:St→Option (AExit × St)) (s:St):qkR ops k runB runC s=match ops k.pre s with
 | some (.normal,s1) => (match qdJ k.str (opd s1.tm k.m) s1.h with
   | some es=>qm4 (qdr k.str es) (qdA ops k runB runC s s1)
   | none=>none)
 | _=>none:=rfl
theorem qgr (ho:∀ l s,Le (o1 l s) (o2 l s)) (hb:∀ s,Le (b1 s) (b2 s)) (hc:∀ s,Le (c1' s) (c2' s)) (k:RangeK) (s s1:St) (es:List (AVal × AVal)):Le (qdA o1 k b1 c1' s s1 es) (qdA o2 k b2 c2' s s1 es):=by
 intro r hr
 unfold qdA at hr ⊢
 obtain⟨x,hx,rfl⟩:=Option.map_eq_some_iff.1 hr
 refine Option.map_eq_some_iff.2 ⟨x,?_,rfl⟩
 cases hy:qcb o1 s1.h.length k b1 es ⟨upd s1.tm (some k.it) (.ptr (some (s1.h.length,0))),qlk (opd s1.tm k.m) s1.h⟩ with
 | none=>rw[hy] at hx;cases hx
 | some y =>
   rw[qeU ho hb _ k _ _ y hy]
   rw[hy] at hx
   obtain⟨q,s2⟩:=y
   cases q with
   | normal=>exact hc _ x hx
   | _=>exact hx
theorem qkS (ho:∀ l s,Le (o1 l s) (o2 l s)) (hb:∀ s,Le (b1 s) (b2 s)) (hc:∀ s,Le (c1' s) (c2' s)) (k:RangeK) (s:St):Le (qkR o1 k b1 c1' s) (qkR o2 k b2 c2' s):=by
 intro r hr
 rw[qfT] at hr ⊢
 cases hx:o1 k.pre s with
 | none=>rw[hx] at hr;cases hr
 | some x =>
   rw[ho _ _ x hx]
   rw[hx] at hr
   obtain⟨q,s1⟩:=x
   cases q with
   | normal =>
     dsimp only at hr ⊢
     split
     ·rename_i es hes
      rw[hes] at hr
      have h1:=(qdP (qcK _ _)).1 hr
      exact (qdP (qcK _ _)).2 fun es' he=>qgr ho hb hc k s s1 es' r (h1 es' he)
     ·rename_i hes
      rw[hes] at hr
      cases hr
   | _=>cases hr
end
theorem qls (hc:∀ f a h,Le (c1 f a h) (c2 f a h)) (l:List Step) (cs:List (Nat × Nat × Nat)) (s:St):Le (qhK pure c1 l cs s) (qhK pure c2 l cs s):=by
 intro r hr
 unfold qhK at hr ⊢
 cases hx:qeh pure c1 l s.tm [] s.h with
 | none=>rw[hx] at hr;cases hr
 | some x=>rw[qlt hc _ _ _ _ x hx];rw[hx] at hr;exact hr
theorem qdO (hc:∀ f a h,Le (c1 f a h) (c2 f a h)) {n m:Nat} (hnm:n≤m):∀ (c:ACode) (s:St),Le (qbk pure c1 n c s) (qbk pure c2 m c s):=by
 intro c
 induction c with
 | skip=>intro s;exact Le.refl _
 | ops l=>intro s;exact qfA hc l s
 | draw l cs=>intro s;exact qls hc l cs s
 | kops l=>intro s;exact qiS hc l s
 | mdraw k l ns=>intro s;exact Le.refl _
 | seq a b iha ihb =>
   intro s r hr
   rw[qbk] at hr ⊢
   cases hx:qbk pure c1 n a s with
   | none=>rw[hx] at hr;cases hr
   | some x =>
     rw[iha s x hx]
     rw[hx] at hr
     obtain⟨e,s'⟩:=x
     cases e with
     | normal=>exact ihb _ r hr
     | _=>exact hr
 | cond c a b iha ihb =>
   intro s r hr
   rw[qbk] at hr ⊢
   split
   ·rename_i t ht
    rw[ht] at hr
    cases t with
    | true=>exact iha s r hr
    | false=>exact ihb s r hr
   ·rename_i ht
    split at hr
    ·rename_i t ht'
     exact absurd ht' (ht t)
    ·cases hr
 | block id c ih =>
   intro s r hr
   rw[qbk] at hr ⊢
   cases hx:qbk pure c1 n c s with
   | none=>rw[hx] at hr;cases hr
   | some x=>rw[ih s x hx];rw[hx] at hr;exact hr
 | loop c ih=>intro s;exact qfL ih hnm s
 | gloop k c ih=>intro s;exact qfL (fun s1=>ih _) hnm s
 | freeze t c ih=>intro s;exact ih _
 | view c ih=>intro s;exact ih _
 | range k b c ihb ihc=>intro s;exact qkS (fun l s=>qfA hc l s) ihb ihc k s
 | frame k c ih =>
   intro s r hr
   rw[qbk] at hr ⊢
   obtain⟨x,hx,rfl⟩:=Option.map_eq_some_iff.1 hr
   rw[ih s x hx]
   rfl
 | exit id=>intro s;exact Le.refl _
 | ret=>intro s;exact Le.refl _
 | stuck=>intro s;exact Le.refl _
end
theorem qqx {rs:List ARVar} {x y:Option (AExit × St)} (h:Le x y):Le (qaR rs x) (qaR rs y):=by
 intro r hr
 cases x with
 | none=>cases hr
 | some x=>rw[h x rfl];exact hr
theorem qlw (L:Lib):∀ n f a h,Le (qcR L n f a h) (qcR L (n+1) f a h):=by
 intro n
 induction n with
 | zero=>intro f a h r hr;cases hr
 | succ n ih =>
   intro f a h r hr
   rw[qcR] at hr ⊢
   split
   ·rename_i s hs
    rw[hs] at hr
    exact hr
   ·rename_i hs
    rw[hs] at hr
    dsimp only at hr
    split
    ·rename_i fn hfn
     rw[hfn] at hr
     exact qqx (qdO ih (Nat.le_succ n) _ _) r hr
    ·rename_i hfn
     rw[hfn] at hr
     cases hr
theorem qdx (L:Lib) {n m:Nat} (h:n≤m) (f:Nat) (a:List AVal) (hp:Heap):Le (qcR L n f a hp) (qcR L m f a hp) :=
 qmC (f:=fun k=>qcR L k f a hp) (fun k=>qlw L k f a hp) h
noncomputable def call (L:Lib):CallT:=fun f a h=>lim fun n=>qcR L n f a h
theorem qex {L:Lib} {f:Nat} {a:List AVal} {h:Heap} {r:ARes × Heap}:call L f a h=some r↔∃ n,qcR L n f a h=some r :=
 qpW fun n=>qlw L n f a h
noncomputable def qkI (body:St→Option (AExit × St)) (s:St):Option (AExit × St):=lim fun n=>qeI body n s
theorem qel {body:St→Option (AExit × St)} {s:St} {r:AExit × St}:qkI body s=some r↔∃ n,qeI body n s=some r:=qpW fun n=>qlM body n s
theorem qh2 (body:St→Option (AExit × St)) (n:Nat) (s:St):Le (qeI body n s) (qkI body s):=fun _ hr=>qel.2 ⟨n,hr⟩
theorem qpX (body:St→Option (AExit × St)) (s:St):qkI body s=match body s with | some (.normal,s')=>qkI body s' | r=>r:=by
 have key:∀ r,qkI body s=some r↔(match body s with | some (.normal,s')=>qkI body s' | r=>r)=some r:=by
  intro r
  constructor
  ·intro h
   obtain⟨n,hn⟩:=qel.1 h
   cases n with
   | zero=>cases hn
   | succ n =>
     rw[qeI] at hn
     split at hn
     ·rename_i s' hs'
      rw[hs']
      exact qh2 _ _ _ _ hn
     ·rename_i x hx
      split
      ·rename_i s' hs'
       exact absurd hs' (hx s')
      ·exact hn
  ·intro h
   split at h
   ·rename_i s' hs'
    obtain⟨n,hn⟩:=qel.1 h
    exact qel.2 ⟨n+1,by rw[qeI,hs'];exact hn⟩
   ·rename_i x hx
    refine qel.2 ⟨1,?_⟩
    rw[qeI]
    split
    ·rename_i s' hs'
     exact absurd hs' (hx s')
    ·exact h
 cases hx:qkI body s with
 | some r=>exact ((key r).1 hx).symm
 | none =>
   cases hy:(match body s with | some (.normal,s')=>qkI body s' | r=>r) with
   | none=>rfl
   | some r=>rw[(key r).2 hy] at hx;cases hx
noncomputable def qbJ (pure:Nat→Bool) (call:CallT):ACode→St→Option (AExit × St)
 | .skip,s=>some (.normal,s)
 | .ops l,s=>qdc pure call l s
 | .draw l cs,s=>qhK pure call l cs s
 | .kops l,s=>qfl pure call l s
 | .mdraw k l ns,s=>qtd k l ns s
 | .seq a b,s =>
   (match qbJ pure call a s with
   | some (.normal,s')=>qbJ pure call b s'
   | r=>r)
 | .cond c a b,s=>(match opd s.tm c with | .bool t=>if t then qbJ pure call a s else qbJ pure call b s | _=>none)
 | .block id c,s =>
   (match qbJ pure call c s with
   | some (.exit id',s')=>if id'=id then some (.normal,s') else some (.exit id',s')
   | r=>r)
 | .loop c,s=>qkI (qbJ pure call c) s
 | .gloop k c,s=>qkI (fun s1=>qbJ pure call c (gc s.h.length k s1)) s
 | .frame k c,s=>(qbJ pure call c s).map (gcE s.h.length k)
 | .freeze t c,s=>qbJ pure call c (qgk t s)
 | .view c,s=>qbJ pure call c (qop s)
 | .range k b c,s=>qkR (qdc pure call) k (qbJ pure call b) (qbJ pure call c) s
 | .exit id,s=>some (.exit id,s)
 | .ret,s=>some (.ret,s)
 | .stuck,_=>none
theorem qmY {pure:Nat→Bool} {c1 c2:CallT} (hc:∀ f a h,Le (c1 f a h) (c2 f a h)) (n:Nat):∀ (c:ACode) (s:St),Le (qbk pure c1 n c s) (qbJ pure c2 c s):=by
 intro c
 induction c with
 | skip=>intro s;exact Le.refl _
 | ops l=>intro s;exact qfA hc l s
 | draw l cs=>intro s;exact qls hc l cs s
 | kops l=>intro s;exact qiS hc l s
 | mdraw k l ns=>intro s;exact Le.refl _
 | seq a b iha ihb =>
   intro s r hr
   rw[qbk] at hr
   rw[qbJ]
   cases hx:qbk pure c1 n a s with
   | none=>rw[hx] at hr;cases hr
   | some x =>
     rw[iha s x hx]
     rw[hx] at hr
     obtain⟨e,s'⟩:=x
     cases e with
     | normal=>exact ihb _ r hr
     | _=>exact hr
 | cond c a b iha ihb =>
   intro s r hr
   rw[qbk] at hr
   rw[qbJ]
   split
   ·rename_i t ht
    rw[ht] at hr
    cases t with
    | true=>exact iha s r hr
    | false=>exact ihb s r hr
   ·rename_i ht
    split at hr
    ·rename_i t ht'
     exact absurd ht' (ht t)
    ·cases hr
 | block id c ih =>
   intro s r hr
   rw[qbk] at hr
   rw[qbJ]
   cases hx:qbk pure c1 n c s with
   | none=>rw[hx] at hr;cases hr
   | some x=>rw[ih s x hx];rw[hx] at hr;exact hr
 | loop c ih=>intro s;exact (qfL ih (Nat.le_refl n) s).trans (qh2 _ _ _)
 | gloop k c ih=>intro s;exact (qfL (fun s1=>ih _) (Nat.le_refl n) s).trans (qh2 _ _ _)
 | freeze t c ih=>intro s;exact ih _
 | view c ih=>intro s;exact ih _
 | range k b c ihb ihc=>intro s;exact qkS (fun l s=>qfA hc l s) ihb ihc k s
 | frame k c ih =>
   intro s r hr
   rw[qbk] at hr
   rw[qbJ]
   obtain⟨x,hx,rfl⟩:=Option.map_eq_some_iff.1 hr
   rw[ih s x hx]
   rfl
 | exit id=>intro s;exact Le.refl _
 | ret=>intro s;exact Le.refl _
 | stuck=>intro s;exact Le.refl _
section
variable {pure:Nat→Bool} {L:Lib}
theorem qiY {f:Nat} {a:List AVal} {h:Heap} {r:ARes × Heap} (hr:qdZ pure (call L) f a h=some r):∃ n,qdZ pure (qcR L n) f a h=some r:=by
 unfold qdZ at hr
 split at hr
 ·rename_i hp
  cases hx:call L f (a.map wipe) [] with
  | none=>rw[hx] at hr;cases hr
  | some x =>
    rw[hx] at hr
    obtain⟨n,hn⟩:=qex.1 hx
    refine⟨n,?_⟩
    unfold qdZ
    rw[if_pos hp,hn]
    exact hr
 ·rename_i hp
  unfold qln at hr
  split at hr
  ·rename_i hq
   cases hx:call L f (a.map (ren fun i=>qaU i (qct a h) 0)) (qdV (qct a h) h) with
   | none=>rw[hx] at hr;cases hr
   | some x =>
     rw[hx] at hr
     obtain⟨n,hn⟩:=qex.1 hx
     refine⟨n,?_⟩
     unfold qdZ qln
     rw[if_neg hp,if_pos hq,hn]
     exact hr
  ·cases hr
theorem qmc {o:AOp} {tm:Tmps} {h:Heap} {r:ARes × Heap} (hr:aOp pure (call L) o tm h=some r):∃ n,aOp pure (qcR L n) o tm h=some r:=by
 cases o with
 | vcall f args =>
   simp only[aOp] at hr ⊢
   unfold qol at hr
   split at hr
   ·rename_i hp
    cases hx:call L f ((args.map (opd tm)).map (lookV h)) [] with
    | none=>rw[hx] at hr;cases hr
    | some x =>
      rw[hx] at hr
      obtain⟨n,hn⟩:=qex.1 hx
      refine⟨n,?_⟩
      unfold qol
      rw[if_pos hp,hn]
      exact hr
   ·cases hr
 | hcall f args =>
   simp only[aOp] at hr ⊢
   split at hr
   ·rename_i hf
    exact qex.1 hr
   ·cases hr
 | call f args =>
   simp only[aOp] at hr ⊢
   split at hr
   ·rename_i hf
    exact qiY hr
   ·cases hr
 | pcallV f args =>
   simp only[aOp] at hr ⊢
   split at hr
   ·rename_i hf
    unfold qkQ at hr
    split at hr
    ·rename_i hc'
     unfold qa4 at hr
     split at hr
     ·rename_i v h' hd
      obtain⟨n,hn⟩:=qiY hd
      refine⟨n,?_⟩
      unfold qkQ
      rw[if_pos hc',hn]
      exact hr
     ·cases hr
    ·cases hr
   ·cases hr
 | pcall f args =>
   simp only[aOp] at hr ⊢
   split at hr
   ·rename_i hc'
    unfold qa4 at hr
    split at hr
    ·rename_i v h' hd
     obtain⟨n,hn⟩:=qiY hd
     refine⟨n,?_⟩
     rw[if_pos hc',hn]
     exact hr
    ·cases hr
   ·cases hr
 | _=>exact⟨0,hr⟩
theorem qh9:∀ (l:List Step) {s:St} {r:AExit × St},qdc pure (call L) l s=some r→∃ n,qdc pure (qcR L n) l s=some r:=by
 intro l
 induction l with
 | nil=>intro s r hr;exact⟨0,hr⟩
 | cons o rest ih =>
   intro s r hr
   rw[qdc] at hr
   split at hr
   ·rename_i hw
    cases hx:aOp pure (call L) o.op s.tm s.h with
    | none=>rw[hx] at hr;cases hr
    | some x =>
      rw[hx] at hr
      obtain⟨n,hn⟩:=qmc hx
      obtain⟨v,h⟩:=x
      cases v with
      | val v =>
        obtain⟨m,hm⟩:=ih hr
        refine⟨max n m,?_⟩
        rw[qdc,hw]
        dsimp only
        rw[qg7 (qdx L (Nat.le_max_left n m)) _ _ _ _ hn]
        exact qfA (qdx L (Nat.le_max_right n m)) _ _ _ hm
      | panic v =>
        refine⟨n,?_⟩
        rw[qdc,hw]
        dsimp only
        rw[hn]
        exact hr
   ·rename_i hw
    obtain⟨m,hm⟩:=ih hr
    exact⟨m,by rw[qdc,hw];exact hm⟩
   ·cases hr
theorem qte {o:AOp} {tm:Tmps} {h:Heap} {r:ARes × Heap} (hr:qj7 pure (call L) o tm h=some r):∃ n,qj7 pure (qcR L n) o tm h=some r:=by
 cases o with
 | pcall f args =>
   simp only[qj7] at hr ⊢
   unfold qny at hr
   split at hr
   ·rename_i hp
    cases hx:call L f ((args.map (opd tm)).map wipe) [] with
    | none=>rw[hx] at hr;cases hr
    | some x =>
      rw[hx] at hr
      obtain⟨n,hn⟩:=qex.1 hx
      refine⟨n,?_⟩
      unfold qny
      rw[if_pos hp,hn]
      exact hr
   ·cases hr
 | append sz bytes x y =>
   simp only[qj7] at hr ⊢
   split at hr
   ·rename_i hq
    refine⟨0,?_⟩
    rw[if_pos hq]
    exact hr
   ·rename_i hq
    obtain⟨n,hn⟩:=qmc hr
    refine⟨n,?_⟩
    rw[if_neg hq]
    exact hn
 | _=>simp only[qj7] at hr ⊢;exact qmc hr
theorem qrb:∀ (l:List Step) {s:St} {r:AExit × St},qfl pure (call L) l s=some r→∃ n,qfl pure (qcR L n) l s=some r:=by
 intro l
 induction l with
 | nil=>intro s r hr;exact⟨0,hr⟩
 | cons o rest ih =>
   intro s r hr
   rw[qfl] at hr
   split at hr
   ·rename_i hw
    cases hx:qj7 pure (call L) o.op s.tm s.h with
    | none=>rw[hx] at hr;cases hr
    | some x =>
      rw[hx] at hr
      obtain⟨n,hn⟩:=qte hx
      obtain⟨v,h⟩:=x
      cases v with
      | val v =>
        obtain⟨m,hm⟩:=ih hr
        refine⟨max n m,?_⟩
        rw[qfl,hw]
        dsimp only
        rw[qm0 (qdx L (Nat.le_max_left n m)) _ _ _ _ hn]
        exact qiS (qdx L (Nat.le_max_right n m)) _ _ _ hm
      | panic v =>
        refine⟨n,?_⟩
        rw[qfl,hw]
        dsimp only
        rw[hn]
        exact hr
   ·rename_i hw
    obtain⟨m,hm⟩:=ih hr
    exact⟨m,by rw[qfl,hw];exact hm⟩
   ·cases hr
theorem qra:∀ (l:List Step) {tm:Tmps} {hs:List Heap} {h:Heap} {r:Tmps × List Heap × Heap},qeh pure (call L) l tm hs h=some r→∃ n,qeh pure (qcR L n) l tm hs h=some r:=by
 intro l
 induction l with
 | nil=>intro tm hs h r hr;exact⟨0,hr⟩
 | cons o rest ih =>
   intro tm hs h r hr
   rw[qeh] at hr
   split at hr
   ·rename_i hw
    cases hx:aOp pure (call L) o.op tm h with
    | none=>rw[hx] at hr;cases hr
    | some x =>
      rw[hx] at hr
      obtain⟨n,hn⟩:=qmc hx
      obtain⟨v,h'⟩:=x
      cases v with
      | val v =>
        obtain⟨m,hm⟩:=ih hr
        refine⟨max n m,?_⟩
        rw[qeh,hw]
        dsimp only
        rw[qg7 (qdx L (Nat.le_max_left n m)) _ _ _ _ hn]
        exact qlt (qdx L (Nat.le_max_right n m)) _ _ _ _ _ hm
      | panic v=>cases hr
   ·rename_i hw
    obtain⟨m,hm⟩:=ih hr
    exact⟨m,by rw[qeh,hw];exact hm⟩
   ·cases hr
theorem qpY (c:ACode) (g:St→St) (ih:∀ {s:St} {r:AExit × St},qbJ pure (call L) c s=some r→∃ n,qbk pure (qcR L n) n c s=some r) {r:AExit × St} :
  ∀ k s,qeI (fun s1=>qbJ pure (call L) c (g s1)) k s=some r→∃ n,qeI (fun s1=>qbk pure (qcR L n) n c (g s1)) n s=some r:=by
 intro k
 induction k with
 | zero=>intro s h;cases h
 | succ k ihk =>
   intro s h
   rw[qeI] at h
   cases hx:qbJ pure (call L) c (g s) with
   | none=>rw[hx] at h;cases h
   | some x =>
     rw[hx] at h
     obtain⟨n,hn⟩:=ih hx
     obtain⟨e,s'⟩:=x
     cases e with
     | normal =>
       obtain⟨m,hm⟩:=ihk s' h
       refine⟨max n m+1,?_⟩
       rw[qeI,qdO (qdx L (Nat.le_trans (Nat.le_max_left n m) (Nat.le_succ _))) (Nat.le_trans (Nat.le_max_left n m) (Nat.le_succ _)) _ _ _ hn]
       exact qfL (fun s=>qdO (qdx L (Nat.le_trans (Nat.le_max_right n m) (Nat.le_succ _))) (Nat.le_trans (Nat.le_max_right n m) (Nat.le_succ _)) _ _) (Nat.le_max_right n m) _ _ hm
     | _ =>
       refine⟨n+1,?_⟩
       rw[qeI,qdO (qdx L (Nat.le_succ n)) (Nat.le_succ n) _ _ _ hn]
       exact h
def qlU (x:AVal × AVal):List (AVal × AVal)→List (List (AVal × AVal))
 | []=>[[x]]
 | y::ys=>(x::y::ys)::(qlU x ys).map (y::·)
def qgE:List (AVal × AVal)→List (List (AVal × AVal))
 | []=>[[]]
 | x::xs=>(qgE xs).flatMap (qlU x)
theorem qlO (x:AVal × AVal):∀ l r:List (AVal × AVal),l++x::r∈qlU x (l++r)
 | [],[]=>by simp[qlU]
 | [],y::ys=>by simp[qlU]
 | y :: l,r => by
   simp only[List.cons_append,qlU,List.mem_cons,List.mem_map]
   exact .inr ⟨_,qlO x l r,rfl⟩
theorem qiJ:∀ (es es':List (AVal × AVal)),es'.Perm es→es'∈qgE es
 | [],es',h=>by rw[h.eq_nil];simp[qgE]
 | x :: xs,es',h => by
   obtain⟨l,r,rfl⟩:=List.append_of_mem (h.mem_iff.2 (List.mem_cons_self ..))
   have h1:(l++r).Perm xs:=by
    have:=(List.perm_middle (a:=x) (l₁:=l) (l₂:=r)).symm.trans h
    exact this.cons_inv
   simp only[qgE,List.mem_flatMap]
   exact⟨_,qiJ xs _ h1,qlO x l r⟩
theorem qrK {α:Type} (Q:Nat→α→Prop) (hm:∀ n m a,n≤m→Q n a→Q m a):∀ (l:List α),(∀ a∈l,∃ n,Q n a)→∃ n,∀ a∈l,Q n a
 | [],_=>⟨0,fun a ha=>by cases ha⟩
 | a :: l,h => by
   obtain⟨n,hn⟩:=h a (by simp)
   obtain⟨m,hm'⟩:=qrK Q hm l fun b hb=>h b (by simp[hb])
   refine⟨max n m,fun b hb=>?_⟩
   rcases List.mem_cons.1 hb with rfl | hb
   ·exact hm _ _ _ (Nat.le_max_left n m) hn
   ·exact hm _ _ _ (Nat.le_max_right n m) (hm' b hb)
section
variable {b c:ACode}
theorem qfy {n m:Nat} (h:n≤m) (l:List Step) (s:St):Le (qdc pure (qcR L n) l s) (qdc pure (qcR L m) l s):=qfA (qdx L h) l s
theorem qeN {n m:Nat} (h:n≤m) (s:St):Le (qbk pure (qcR L n) n b s) (qbk pure (qcR L m) m b s):=qdO (qdx L h) h b s
theorem qlo (hb:∀ {s:St} {r:AExit × St},qbJ pure (call L) b s=some r→∃ n,qbk pure (qcR L n) n b s=some r) (i:Nat) (k:RangeK) (e:AVal × AVal) {s:St} {r:AExit × St}
  (hr:qb9 (qdc pure (call L)) i k (qbJ pure (call L) b) e s=some r):∃ n,qb9 (qdc pure (qcR L n)) i k (qbk pure (qcR L n) n b) e s=some r:=by
 unfold qb9 at hr
 split at hr
 case isFalse=>cases hr
 rename_i g0
 cases hx:qdc pure (call L) k.r1 ⟨upd s.tm (some k.dn) (.tuple [.bool true,e.1,e.2]),s.h⟩ with
 | none=>rw[hx] at hr;cases hr
 | some x =>
   rw[hx] at hr
   obtain⟨n1,hn1⟩:=qh9 _ hx
   obtain⟨q,s1⟩:=x
   cases q with
   | normal =>
     dsimp only at hr
     split at hr
     case isFalse=>cases hr
     rename_i g1
     split at hr
     ·rename_i hq
      unfold qk5 at hr
      cases hy:qdc pure (call L) k.r2 ⟨upd s1.tm k.de (.tuple [e.1,e.2]),s1.h⟩ with
      | none=>rw[hy] at hr;cases hr
      | some y =>
        rw[hy] at hr
        obtain⟨n2,hn2⟩:=qh9 _ hy
        obtain⟨q2,s2⟩:=y
        cases q2 with
        | normal =>
          dsimp only at hr
          cases hz:qbJ pure (call L) b s2 with
          | none=>rw[hz] at hr;cases hr
          | some z =>
            obtain⟨n3,hn3⟩:=hb hz
            rw[hz] at hr
            refine⟨max n1 (max n2 n3),?_⟩
            unfold qb9 qk5
            rw[if_pos g0,qfy (Nat.le_max_left _ _) _ _ _ hn1]
            dsimp only
            rw[if_pos g1,hq]
            dsimp only
            rw[qfy (Nat.le_trans (Nat.le_max_left n2 n3) (Nat.le_max_right _ _)) _ _ _ hn2]
            dsimp only
            rw[qeN (Nat.le_trans (Nat.le_max_right n2 n3) (Nat.le_max_right _ _)) _ _ hn3]
            exact hr
        | _ =>
          refine⟨max n1 n2,?_⟩
          unfold qb9 qk5
          rw[if_pos g0,qfy (Nat.le_max_left _ _) _ _ _ hn1]
          dsimp only
          rw[if_pos g1,hq]
          dsimp only
          rw[qfy (Nat.le_max_right _ _) _ _ _ hn2]
          exact hr
     ·cases hr
   | _=>cases hr
theorem qn0 (i:Nat) (k:RangeK) {s:St} {r:AExit × St} (hr:qcF (qdc pure (call L)) i k s=some r):∃ n,qcF (qdc pure (qcR L n)) i k s=some r:=by
 unfold qcF at hr
 split at hr
 case isFalse=>cases hr
 rename_i g0
 cases hx:qdc pure (call L) k.r1 ⟨upd s.tm (some k.dn) (.tuple [.bool false]),s.h⟩ with
 | none=>rw[hx] at hr;cases hr
 | some x =>
   rw[hx] at hr
   obtain⟨n1,hn1⟩:=qh9 _ hx
   exact⟨n1,by unfold qcF;rw[if_pos g0,hn1];exact hr⟩
theorem qjz (hb:∀ {s:St} {r:AExit × St},qbJ pure (call L) b s=some r→∃ n,qbk pure (qcR L n) n b s=some r) (i:Nat) (k:RangeK):∀ (es:List (AVal × AVal)) {s:St} {r:AExit × St},
  qcb (qdc pure (call L)) i k (qbJ pure (call L) b) es s=some r→∃ n,qcb (qdc pure (qcR L n)) i k (qbk pure (qcR L n) n b) es s=some r
 | [],s,r,hr=>qn0 i k hr
 | e :: es,s,r,hr => by
   rw[qcb] at hr
   cases hx:qb9 (qdc pure (call L)) i k (qbJ pure (call L) b) e (gc (i+1) k.kr s) with
   | none=>rw[hx] at hr;cases hr
   | some x =>
     rw[hx] at hr
     obtain⟨n,hn⟩:=qlo hb i k e hx
     obtain⟨q,s1⟩:=x
     cases q with
     | normal =>
       obtain⟨m,hm⟩:=qjz hb i k es hr
       refine⟨max n m,?_⟩
       rw[qcb,qgW (fun l s=>qfy (Nat.le_max_left n m) l s) (fun s=>qeN (Nat.le_max_left n m) s) i k e _ _ hn]
       exact qeU (fun l s=>qfy (Nat.le_max_right n m) l s) (fun s=>qeN (Nat.le_max_right n m) s) i k es _ _ hm
     | _=>exact⟨n,by rw[qcb,hn];exact hr⟩
theorem qn1 (hb:∀ {s:St} {r:AExit × St},qbJ pure (call L) b s=some r→∃ n,qbk pure (qcR L n) n b s=some r) (hc:∀ {s:St} {r:AExit × St},qbJ pure (call L) c s=some r→∃ n,qbk pure (qcR L n) n c s=some r)
  (k:RangeK) (s s1:St) (es:List (AVal × AVal)) {r:AExit × St} (hr:qdA (qdc pure (call L)) k (qbJ pure (call L) b) (qbJ pure (call L) c) s s1 es=some r) :
  ∃ n,qdA (qdc pure (qcR L n)) k (qbk pure (qcR L n) n b) (qbk pure (qcR L n) n c) s s1 es=some r:=by
 unfold qdA at hr
 obtain⟨x,hx,rfl⟩:=Option.map_eq_some_iff.1 hr
 cases hy:qcb (qdc pure (call L)) s1.h.length k (qbJ pure (call L) b) es ⟨upd s1.tm (some k.it) (.ptr (some (s1.h.length,0))),qlk (opd s1.tm k.m) s1.h⟩ with
 | none=>rw[hy] at hx;cases hx
 | some y =>
   rw[hy] at hx
   obtain⟨n,hn⟩:=qjz hb _ k es hy
   obtain⟨q,s2⟩:=y
   cases q with
   | normal =>
     obtain⟨m,hm⟩:=hc hx
     refine⟨max n m,?_⟩
     unfold qdA
     rw[qeU (fun l s=>qfy (Nat.le_max_left n m) l s) (fun s=>qeN (Nat.le_max_left n m) s) _ k es _ _ hn]
     dsimp only
     rw[qeN (Nat.le_max_right n m) _ _ hm]
     rfl
   | _ =>
     refine⟨n,?_⟩
     unfold qdA
     rw[hn]
     dsimp only at hx ⊢
     rw[hx]
     rfl
end
theorem qq9:∀ (c:ACode) {s:St} {r:AExit × St},qbJ pure (call L) c s=some r→∃ n,qbk pure (qcR L n) n c s=some r:=by
 intro c
 induction c with
 | skip=>intro s r hr;exact⟨0,hr⟩
 | ops l=>intro s r hr;exact qh9 l hr
 | kops l=>intro s r hr;exact qrb l hr
 | mdraw k l ns=>intro s r hr;exact⟨0,hr⟩
 | draw l cs =>
   intro s r hr
   rw[qbJ] at hr
   unfold qhK at hr
   cases hx:qeh pure (call L) l s.tm [] s.h with
   | none=>rw[hx] at hr;cases hr
   | some x =>
     rw[hx] at hr
     obtain⟨n,hn⟩:=qra l hx
     exact⟨n,by rw[qbk];unfold qhK;rw[hn];exact hr⟩
 | seq a b iha ihb =>
   intro s r hr
   rw[qbJ] at hr
   cases hx:qbJ pure (call L) a s with
   | none=>rw[hx] at hr;cases hr
   | some x =>
     rw[hx] at hr
     obtain⟨n,hn⟩:=iha hx
     obtain⟨e,s'⟩:=x
     cases e with
     | normal =>
       obtain⟨m,hm⟩:=ihb hr
       refine⟨max n m,?_⟩
       rw[qbk,qdO (qdx L (Nat.le_max_left n m)) (Nat.le_max_left n m) _ _ _ hn]
       exact qdO (qdx L (Nat.le_max_right n m)) (Nat.le_max_right n m) _ _ _ hm
     | _=>exact⟨n,by rw[qbk,hn];exact hr⟩
 | cond c a b iha ihb =>
   intro s r hr
   rw[qbJ] at hr
   split at hr
   ·rename_i t ht
    cases t with
    | true =>
      obtain⟨n,hn⟩:=iha hr
      exact⟨n,by rw[qbk,ht];exact hn⟩
    | false =>
      obtain⟨n,hn⟩:=ihb hr
      exact⟨n,by rw[qbk,ht];exact hn⟩
   ·cases hr
 | block id c ih =>
   intro s r hr
   rw[qbJ] at hr
   cases hx:qbJ pure (call L) c s with
   | none=>rw[hx] at hr;cases hr
   | some x =>
     rw[hx] at hr
     obtain⟨n,hn⟩:=ih hx
     exact⟨n,by rw[qbk,hn];exact hr⟩
 | loop c ih =>
   intro s r hr
   rw[qbJ] at hr
   obtain⟨k,hk⟩:=qel.1 hr
   obtain⟨n,hn⟩:=qpY c (fun s=>s) (fun hx=>ih hx) k s hk
   exact⟨n,by rw[qbk];exact hn⟩
 | gloop kp c ih =>
   intro s r hr
   rw[qbJ] at hr
   obtain⟨k,hk⟩:=qel.1 hr
   obtain⟨n,hn⟩:=qpY c (fun s1=>gc s.h.length kp s1) (fun hx=>ih hx) k s hk
   exact⟨n,by rw[qbk];exact hn⟩
 | view c ih =>
   intro s r hr
   obtain⟨n,hn⟩:=ih hr
   exact⟨n,hn⟩
 | freeze t c ih =>
   intro s r hr
   obtain⟨n,hn⟩:=ih hr
   exact⟨n,hn⟩
 | range k b c ihb ihc =>
   intro s r hr
   rw[qbJ,qfT] at hr
   cases hx:qdc pure (call L) k.pre s with
   | none=>rw[hx] at hr;cases hr
   | some x =>
     rw[hx] at hr
     obtain⟨n,hn⟩:=qh9 _ hx
     obtain⟨q,s1⟩:=x
     cases q with
     | normal =>
       dsimp only at hr
       split at hr
       ·rename_i es hes
        have h1:=(qdP (qcK _ _)).1 hr
        obtain⟨m,hm⟩:=qrK (fun n es'=>qdr k.str es es'→qdA (qdc pure (qcR L n)) k (qbk pure (qcR L n) n b) (qbk pure (qcR L n) n c) s s1 es'=some r)
         (fun n m a hnm h ho=>qgr (fun l s=>qfy hnm l s) (fun s=>qeN hnm s) (fun s=>qeN hnm s) k s s1 a r (h ho)) (es::qgE es)
         (fun a _=>by
          by_cases ho:qdr k.str es a
          ·obtain⟨n,hn⟩:=qn1 ihb ihc k s s1 a (h1 a ho)
           exact⟨n,fun _=>hn⟩
          ·exact⟨0,fun h=>absurd h ho⟩)
        refine⟨max n m,?_⟩
        rw[qbk,qfT,qfy (Nat.le_max_left n m) _ _ _ hn]
        dsimp only
        rw[hes]
        dsimp only
        refine (qdP (qcK _ _)).2 fun es' he=>?_
        refine qgr (fun l s=>qfy (Nat.le_max_right n m) l s) (fun s=>qeN (Nat.le_max_right n m) s) (fun s=>qeN (Nat.le_max_right n m) s) k s s1 es' r (hm es' ?_ he)
        unfold qdr at he
        split at he
        ·rw[he];simp
        ·exact List.mem_cons_of_mem _ (qiJ es es' he)
       ·cases hr
     | _=>cases hr
 | frame kp c ih =>
   intro s r hr
   rw[qbJ] at hr
   obtain⟨x,hx,rfl⟩:=Option.map_eq_some_iff.1 hr
   obtain⟨n,hn⟩:=ih hx
   exact⟨n,by rw[qbk,hn];rfl⟩
 | exit id=>intro s r hr;exact⟨0,hr⟩
 | ret=>intro s r hr;exact⟨0,hr⟩
 | stuck=>intro s r hr;exact⟨0,hr⟩
end
theorem qd6 {L:Lib} {f:Nat} {fn:AFn} (hs:L.summ f=none) (hf:L.fns f=some fn) {a:List AVal} {h:Heap} {r:ARes × Heap}
  (hr:qaR fn.results (qbJ L.pure (call L) fn.body ⟨qgz a,h⟩)=some r):call L f a h=some r:=by
 cases hx:qbJ L.pure (call L) fn.body ⟨qgz a,h⟩ with
 | none=>rw[hx] at hr;cases hr
 | some x =>
   rw[hx] at hr
   obtain⟨n,hn⟩:=qq9 _ hx
   refine qex.2 ⟨n+1,?_⟩
   rw[qcR,hs]
   dsimp only
   rw[hf]
   dsimp only
   rw[hn]
   exact hr
theorem qii {L:Lib} {f:Nat} {s:List AVal→Heap→Option (ARes × Heap)} (hs:L.summ f=some s) {a:List AVal} {h:Heap} {r:ARes × Heap} (hr:s a h=some r):call L f a h=some r :=
 qex.2 ⟨1,by rw[qcR,hs];exact hr⟩
end Go.Abs
