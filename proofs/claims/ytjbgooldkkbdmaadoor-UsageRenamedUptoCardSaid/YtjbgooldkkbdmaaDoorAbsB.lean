/-
  The abstract machine without bounds: calls and loops as limits of the bounded ones; each is what its body says.
-/
import Derived.Test.YtjbgooldkkbdmaaDoorAbsA
set_option linter.unusedVariables false
namespace Go.Abs
def Le {α:Type} (x y:Option α):Prop:=∀ r,x=some r→y=some r
theorem Le.refl {α:Type} (x:Option α):Le x x:=fun _ h=>h
theorem Le.trans {α:Type} {x y z:Option α} (h:Le x y) (h':Le y z):Le x z:=fun r e=>h' r (h r e)
theorem Le.none {α:Type} (y:Option α):Le (Option.none:Option α) y:=fun _ h=>by cases h
open Classical in
noncomputable def lim {α:Type} (f:Nat→Option α):Option α:=if h:∃ n,(f n).isSome=true then f (Classical.choose h) else none
theorem qlv {α:Type} {f:Nat→Option α} (hm:∀ n,Le (f n) (f (n+1))):∀ {a b:Nat},a≤b→Le (f a) (f b):=by
 intro a b hab
 induction hab with
 | refl=>exact Le.refl _
 | step _ ih=>exact ih.trans (hm _)
theorem qo5 {α:Type} {f:Nat→Option α} (hm:∀ n,Le (f n) (f (n+1))) {r:α}:lim f=some r↔∃ n,f n=some r:=by
 constructor
 ·intro h
  unfold lim at h
  split at h
  ·exact⟨_,h⟩
  ·cases h
 ·rintro ⟨n,hn⟩
  have hx:∃ n,(f n).isSome=true:=⟨n,by rw[hn];rfl⟩
  unfold lim
  rw[dif_pos hx]
  have h1:=Classical.choose_spec hx
  obtain⟨r',hr'⟩:=Option.isSome_iff_exists.1 h1
  rw[hr']
  have a:=qlv hm (Nat.le_max_left n (Classical.choose hx)) r hn
  have b:=qlv hm (Nat.le_max_right n (Classical.choose hx)) r' hr'
  rw[a] at b
  injection b with b
  rw[b]
theorem qkB (body:St→Option (AExit × St)):∀ n s,Le (qdq body n s) (qdq body (n+1) s):=by
 intro n
 induction n with
 | zero=>intro s r h;cases h
 | succ n ih =>
   intro s r h
   rw[qdq] at h ⊢
   split
   ·rename_i s' hb
    rw[hb] at h
    exact ih s' r h
   ·rename_i r' hr'
    split at h
    ·rename_i s' hs'
     exact absurd hs' (hr' s')
    ·exact h
theorem qer {b1 b2:St→Option (AExit × St)} (hb:∀ s,Le (b1 s) (b2 s)):∀ {n m:Nat},n≤m→∀ s,Le (qdq b1 n s) (qdq b2 m s):=by
 intro n m hnm s
 refine Le.trans ?_ (qlv (f:=fun k=>qdq b2 k s) (fun k=>qkB b2 k s) hnm)
 clear hnm
 induction n generalizing s with
 | zero=>intro r h;cases h
 | succ n ih =>
   intro r h
   rw[qdq] at h ⊢
   cases hx:b1 s with
   | none=>rw[hx] at h;cases h
   | some x =>
     rw[hb s x hx]
     rw[hx] at h
     obtain⟨e,s'⟩:=x
     cases e with
     | normal=>exact ih s' r h
     | _=>exact h
section
variable {pure:Nat→Bool} {c1 c2:CallT}
theorem qqa (hc:∀ f a h,Le (c1 f a h) (c2 f a h)) (f:Nat) (a:List AVal) (h:Heap):Le (qie c1 f a h) (qie c2 f a h):=by
 intro r hr
 unfold qie at hr ⊢
 split
 ·rename_i hp
  rw[if_pos hp] at hr
  cases hx:c1 f (a.map (ren fun i=>qas i (qbr a h) 0)) (qcD (qbr a h) h) with
  | none=>rw[hx] at hr;cases hr
  | some x=>rw[hc _ _ _ x hx];rw[hx] at hr;exact hr
 ·rename_i hp
  rw[if_neg hp] at hr
  cases hr
theorem qgq (hc:∀ f a h,Le (c1 f a h) (c2 f a h)) (f:Nat) (a:List AVal) (h:Heap):Le (qcm pure c1 f a h) (qcm pure c2 f a h):=by
 intro r hr
 unfold qcm at hr ⊢
 split
 ·rename_i hp
  rw[if_pos hp] at hr
  cases hx:c1 f (a.map wipe) [] with
  | none=>rw[hx] at hr;cases hr
  | some x=>rw[hc _ _ _ x hx];rw[hx] at hr;exact hr
 ·rename_i hp
  rw[if_neg hp] at hr
  exact qqa hc _ _ _ _ hr
theorem qp8 (hc:∀ f a h,Le (c1 f a h) (c2 f a h)) (g:Nat) (xs:List AVal) (h:Heap):Le (qjv pure c1 g xs h) (qjv pure c2 g xs h):=by
 intro r hr
 unfold qjv at hr ⊢
 split
 ·rename_i hc'
  rw[if_pos hc'] at hr
  unfold qay at hr ⊢
  split at hr
  ·rename_i v h' hd
   rw[qgq hc _ _ _ _ hd]
   exact hr
  ·cases hr
 ·rename_i hc'
  rw[if_neg hc'] at hr
  cases hr
theorem qqs (hc:∀ f a h,Le (c1 f a h) (c2 f a h)) (f:Nat) (a:List AVal) (h:Heap):Le (qnh c1 f a h) (qnh c2 f a h):=by
 intro r hr
 unfold qnh at hr ⊢
 split
 ·rename_i hp
  rw[if_pos hp] at hr
  cases hx:c1 f (a.map (lookV h)) [] with
  | none=>rw[hx] at hr;cases hr
  | some x=>rw[hc _ _ _ x hx];rw[hx] at hr;exact hr
 ·rename_i hp
  rw[if_neg hp] at hr
  cases hr
theorem qfC (hc:∀ f a h,Le (c1 f a h) (c2 f a h)) (o:AOp) (tm:Tmps) (h:Heap):Le (aOp pure c1 o tm h) (aOp pure c2 o tm h):=by
 intro r hr
 cases o with
 | vcall f args=>exact qqs hc _ _ _ _ hr
 | hcall f args =>
   simp only[aOp] at hr ⊢
   split
   ·rename_i hf
    rw[hf] at hr
    exact hc _ _ _ _ hr
   ·rename_i hf
    split at hr
    ·rename_i hf'
     exact absurd hf' (hf _ _ _)
    ·cases hr
 | call f args =>
   simp only[aOp] at hr ⊢
   split
   ·rename_i hf
    rw[hf] at hr
    exact qgq hc _ _ _ _ hr
   ·rename_i hf
    split at hr
    ·rename_i hf'
     exact absurd hf' (hf _ _ _)
    ·cases hr
 | pcallV f args =>
   simp only[aOp] at hr ⊢
   split
   ·rename_i hf
    rw[hf] at hr
    exact qp8 hc _ _ _ _ hr
   ·rename_i hf
    split at hr
    ·rename_i hf'
     exact absurd hf' (hf _ _ _)
    ·cases hr
 | pcall f args =>
   simp only[aOp] at hr ⊢
   split
   ·rename_i hc'
    rw[if_pos hc'] at hr
    unfold qay at hr ⊢
    split at hr
    ·rename_i v h' hd
     rw[qgq hc _ _ _ _ hd]
     exact hr
    ·cases hr
   ·rename_i hc'
    rw[if_neg hc'] at hr
    cases hr
 | _=>exact hr
theorem qef (hc:∀ f a h,Le (c1 f a h) (c2 f a h)):∀ (l:List Step) (s:St),Le (qcd pure c1 l s) (qcd pure c2 l s):=by
 intro l
 induction l with
 | nil=>intro s;exact Le.refl _
 | cons o rest ih =>
   intro s r hr
   rw[qcd] at hr ⊢
   split
   ·rename_i hw
    rw[hw] at hr
    dsimp only at hr
    cases hx:aOp pure c1 o.op s.tm s.h with
    | none=>rw[hx] at hr;cases hr
    | some x =>
      rw[qfC hc _ _ _ x hx]
      rw[hx] at hr
      obtain⟨v,h⟩:=x
      cases v with
      | val v=>exact ih _ r hr
      | panic v=>exact hr
   ·rename_i hw
    rw[hw] at hr
    exact ih _ r hr
   ·rename_i hw
    rw[hw] at hr
    cases hr
theorem qpX (hc:∀ f a h,Le (c1 f a h) (c2 f a h)) (f:Nat) (a:List AVal) (h:Heap):Le (qmu c1 f a h) (qmu c2 f a h):=by
 intro r hr
 unfold qmu at hr ⊢
 split
 ·rename_i hp
  rw[if_pos hp] at hr
  cases hx:c1 f (a.map wipe) [] with
  | none=>rw[hx] at hr;cases hr
  | some x=>rw[hc _ _ _ x hx];rw[hx] at hr;exact hr
 ·rename_i hp
  rw[if_neg hp] at hr
  cases hr
theorem qlV (hc:∀ f a h,Le (c1 f a h) (c2 f a h)) (o:AOp) (tm:Tmps) (h:Heap):Le (qih pure c1 o tm h) (qih pure c2 o tm h):=by
 intro r hr
 cases o with
 | pcall f args=>exact qpX hc _ _ _ _ hr
 | append sz bytes x y =>
   simp only[qih] at hr ⊢
   split
   ·rename_i hq
    rw[if_pos hq] at hr
    exact hr
   ·rename_i hq
    rw[if_neg hq] at hr
    exact qfC hc _ tm h r hr
 | _=>simp only[qih] at hr ⊢;exact qfC hc _ tm h r hr
theorem qhf (hc:∀ f a h,Le (c1 f a h) (c2 f a h)):∀ (l:List Step) (s:St),Le (qdV pure c1 l s) (qdV pure c2 l s):=by
 intro l
 induction l with
 | nil=>intro s;exact Le.refl _
 | cons o rest ih =>
   intro s r hr
   rw[qdV] at hr ⊢
   split
   ·rename_i hw
    rw[hw] at hr
    dsimp only at hr
    cases hx:qih pure c1 o.op s.tm s.h with
    | none=>rw[hx] at hr;cases hr
    | some x =>
      rw[qlV hc _ _ _ x hx]
      rw[hx] at hr
      obtain⟨v,h⟩:=x
      cases v with
      | val v=>exact ih _ r hr
      | panic v=>exact hr
   ·rename_i hw
    rw[hw] at hr
    exact ih _ r hr
   ·rename_i hw
    rw[hw] at hr
    cases hr
theorem qke (hc:∀ f a h,Le (c1 f a h) (c2 f a h)):∀ (l:List Step) (tm:Tmps) (hs:List Heap) (h:Heap),Le (qc4 pure c1 l tm hs h) (qc4 pure c2 l tm hs h):=by
 intro l
 induction l with
 | nil=>intro tm hs h;exact Le.refl _
 | cons o rest ih =>
   intro tm hs h r hr
   rw[qc4] at hr ⊢
   split
   ·rename_i hw
    rw[hw] at hr
    dsimp only at hr
    cases hx:aOp pure c1 o.op tm h with
    | none=>rw[hx] at hr;cases hr
    | some x =>
      rw[qfC hc _ _ _ x hx]
      rw[hx] at hr
      obtain⟨v,h'⟩:=x
      cases v with
      | val v=>exact ih _ _ _ r hr
      | panic v=>exact hr
   ·rename_i hw
    rw[hw] at hr
    exact ih _ _ _ r hr
   ·rename_i hw
    rw[hw] at hr
    cases hr
section
variable {o1 o2:List Step→St→Option (AExit × St)} {b1 b2 c1' c2':St→Option (AExit × St)}
theorem ql1 {id:Nat} {x y:Option (AExit × St)} (h:Le x y):Le (qdo id x) (qdo id y):=by
 intro r hr
 cases x with
 | none=>cases hr
 | some x=>rw[h x rfl];exact hr
theorem qfr (ho:∀ l s,Le (o1 l s) (o2 l s)) (hb:∀ s,Le (b1 s) (b2 s)) (n:Nat) (k:RangeK) (e:AVal × AVal) (s:St):Le (qa8 o1 n k b1 e s) (qa8 o2 n k b2 e s):=by
 intro r hr
 unfold qa8 at hr ⊢
 split
 case isFalse h0=>rw[if_neg h0] at hr;cases hr
 rename_i h0
 rw[if_pos h0] at hr
 cases hx:o1 k.r1 ⟨upd s.tm (some k.dn) (.tuple [.bool true,e.1,e.2]),s.h⟩ with
 | none=>rw[hx] at hr;cases hr
 | some x =>
   rw[ho _ _ x hx]
   rw[hx] at hr
   obtain⟨q,s1⟩:=x
   cases q with
   | normal =>
     dsimp only at hr ⊢
     split
     case isFalse h1=>rw[if_neg h1] at hr;cases hr
     rename_i h1
     rw[if_pos h1] at hr
     split
     ·rename_i hq
      rw[hq] at hr
      refine ql1 (id:=k.id2) ?_ r hr
      intro r2 hr2
      unfold qjL at hr2 ⊢
      cases hy:o1 k.r2 ⟨upd s1.tm k.de (.tuple [e.1,e.2]),s1.h⟩ with
      | none=>rw[hy] at hr2;cases hr2
      | some y =>
        rw[ho _ _ y hy]
        rw[hy] at hr2
        obtain⟨q2,s2⟩:=y
        cases q2 with
        | normal=>exact hb _ r2 hr2
        | _=>exact hr2
     ·rename_i hq
      split at hr
      ·rename_i hq'
       exact absurd hq' hq
      ·cases hr
   | _=>cases hr
theorem qlA (ho:∀ l s,Le (o1 l s) (o2 l s)) (n:Nat) (k:RangeK) (s:St):Le (qbF o1 n k s) (qbF o2 n k s):=by
 intro r hr
 unfold qbF at hr ⊢
 split
 case isFalse h0=>rw[if_neg h0] at hr;cases hr
 rename_i h0
 rw[if_pos h0] at hr
 cases hx:o1 k.r1 ⟨upd s.tm (some k.dn) (.tuple [.bool false]),s.h⟩ with
 | none=>rw[hx] at hr;cases hr
 | some x =>
   rw[ho _ _ x hx]
   rw[hx] at hr
   exact hr
theorem qdC (ho:∀ l s,Le (o1 l s) (o2 l s)) (hb:∀ s,Le (b1 s) (b2 s)) (n:Nat) (k:RangeK):∀ (es:List (AVal × AVal)) (s:St),Le (qa9 o1 n k b1 es s) (qa9 o2 n k b2 es s)
 | [],s=>qlA ho n k _
 | e :: es,s => by
   intro r hr
   rw[qa9] at hr ⊢
   cases hx:qa8 o1 n k b1 e (gc (n+1) k.kr s) with
   | none=>rw[hx] at hr;cases hr
   | some x =>
     rw[qfr ho hb n k e _ x hx]
     rw[hx] at hr
     obtain⟨q,s1⟩:=x
     cases q with
     | normal=>exact qdC ho hb n k es s1 r hr
     | _=>exact hr
theorem qcL {O:List (AVal × AVal)→Prop} (hO:∃ es,O es) {f:List (AVal × AVal)→Option (AExit × St)} {r:AExit × St}:qlZ O f=some r↔∀ es,O es→f es=some r:=by
 constructor
 ·intro h
  unfold qlZ at h
  split at h
  ·rename_i hx
   injection h with h
   rw[← h]
   exact Classical.choose_spec hx
  ·cases h
 ·intro h
  have hx:∃ r,∀ es,O es→f es=some r:=⟨r,h⟩
  unfold qlZ
  rw[dif_pos hx]
  obtain⟨es,he⟩:=hO
  have h1:=Classical.choose_spec hx es he
  rw[h es he] at h1
  exact h1.symm
theorem qbK (str:Bool) (es:List (AVal × AVal)):∃ es',qco str es es':=⟨es,by unfold qco;split<;>first | rfl | exact .refl _⟩
def qcz (ops:List Step→St→Option (AExit × St)) (k:RangeK) (runB runC:St→Option (AExit × St)) (s s1:St) (es:List (AVal × AVal)):Option (AExit × St) :=
 (match qa9 ops s1.h.length k runB es ⟨upd s1.tm (some k.it) (.ptr (some (s1.h.length,0))),qj5 (opd s1.tm k.m) s1.h⟩ with
  | some (.normal,s2)=>runC ⟨s2.tm,qct (opd s1.tm k.m) s1.h s2.h⟩
  | some (e,s2)=>some (e,⟨s2.tm,qct (opd s1.tm k.m) s1.h s2.h⟩)
  | none=>none).map (gcE s.h.length k.keep)
theorem qew (ops:List Step→St→Option (AExit × St)) (k:RangeK) (runB runC:St→Option (AExit × St)) (s:St):qjw ops k runB runC s=match ops k.pre s with
 | some (.normal,s1) => (match qcF k.str (opd s1.tm k.m) s1.h with
   | some es=>qlZ (qco k.str es) (qcz ops k runB runC s s1)
   | none=>none)
 | _=>none:=rfl
theorem qeX (ho:∀ l s,Le (o1 l s) (o2 l s)) (hb:∀ s,Le (b1 s) (b2 s)) (hc:∀ s,Le (c1' s) (c2' s)) (k:RangeK) (s s1:St) (es:List (AVal × AVal)):Le (qcz o1 k b1 c1' s s1 es) (qcz o2 k b2 c2' s s1 es):=by
 intro r hr
 unfold qcz at hr ⊢
 obtain⟨x,hx,rfl⟩:=Option.map_eq_some_iff.1 hr
 refine Option.map_eq_some_iff.2 ⟨x,?_,rfl⟩
 cases hy:qa9 o1 s1.h.length k b1 es ⟨upd s1.tm (some k.it) (.ptr (some (s1.h.length,0))),qj5 (opd s1.tm k.m) s1.h⟩ with
 | none=>rw[hy] at hx;cases hx
 | some y =>
   rw[qdC ho hb _ k _ _ y hy]
   rw[hy] at hx
   obtain⟨q,s2⟩:=y
   cases q with
   | normal=>exact hc _ x hx
   | _=>exact hx
theorem qjx (ho:∀ l s,Le (o1 l s) (o2 l s)) (hb:∀ s,Le (b1 s) (b2 s)) (hc:∀ s,Le (c1' s) (c2' s)) (k:RangeK) (s:St):Le (qjw o1 k b1 c1' s) (qjw o2 k b2 c2' s):=by
 intro r hr
 rw[qew] at hr ⊢
 cases hx:o1 k.pre s with
 | none=>rw[hx] at hr;cases hr
 | some x =>
   rw[ho _ _ x hx]
   rw[hx] at hr
   obtain⟨q,s1⟩:=x
   cases q with
   | normal =>
     dsimp only at hr ⊢
     split
     ·rename_i es hes
      rw[hes] at hr
      have h1:=(qcL (qbK _ _)).1 hr
      exact (qcL (qbK _ _)).2 fun es' he=>qeX ho hb hc k s s1 es' r (h1 es' he)
     ·rename_i hes
      rw[hes] at hr
      cases hr
   | _=>cases hr
end
theorem qkd (hc:∀ f a h,Le (c1 f a h) (c2 f a h)) (l:List Step) (cs:List (Nat × Nat × Nat)) (s:St):Le (qgg pure c1 l cs s) (qgg pure c2 l cs s):=by
 intro r hr
 unfold qgg at hr ⊢
 cases hx:qc4 pure c1 l s.tm [] s.h with
 | none=>rw[hx] at hr;cases hr
 | some x=>rw[qke hc _ _ _ _ x hx];rw[hx] at hr;exact hr
theorem qcK (hc:∀ f a h,Le (c1 f a h) (c2 f a h)) {n m:Nat} (hnm:n≤m):∀ (c:ACode) (s:St),Le (qax pure c1 n c s) (qax pure c2 m c s):=by
 intro c
 induction c with
 | skip=>intro s;exact Le.refl _
 | ops l=>intro s;exact qef hc l s
 | draw l cs=>intro s;exact qkd hc l cs s
 | kops l=>intro s;exact qhf hc l s
 | mdraw k l ns=>intro s;exact Le.refl _
 | seq a b iha ihb =>
   intro s r hr
   rw[qax] at hr ⊢
   cases hx:qax pure c1 n a s with
   | none=>rw[hx] at hr;cases hr
   | some x =>
     rw[iha s x hx]
     rw[hx] at hr
     obtain⟨e,s'⟩:=x
     cases e with
     | normal=>exact ihb _ r hr
     | _=>exact hr
 | cond c a b iha ihb =>
   intro s r hr
   rw[qax] at hr ⊢
   split
   ·rename_i t ht
    rw[ht] at hr
    cases t with
    | true=>exact iha s r hr
    | false=>exact ihb s r hr
   ·rename_i ht
    split at hr
    ·rename_i t ht'
     exact absurd ht' (ht t)
    ·cases hr
 | block id c ih =>
   intro s r hr
   rw[qax] at hr ⊢
   cases hx:qax pure c1 n c s with
   | none=>rw[hx] at hr;cases hr
   | some x=>rw[ih s x hx];rw[hx] at hr;exact hr
 | loop c ih=>intro s;exact qer ih hnm s
 | gloop k c ih=>intro s;exact qer (fun s1=>ih _) hnm s
 | freeze t c ih=>intro s;exact ih _
 | view c ih=>intro s;exact ih _
 | range k b c ihb ihc=>intro s;exact qjx (fun l s=>qef hc l s) ihb ihc k s
 | frame k c ih =>
   intro s r hr
   rw[qax] at hr ⊢
   obtain⟨x,hx,rfl⟩:=Option.map_eq_some_iff.1 hr
   rw[ih s x hx]
   rfl
 | exit id=>intro s;exact Le.refl _
 | ret=>intro s;exact Le.refl _
 | stuck=>intro s;exact Le.refl _
end
theorem qpN {rs:List ARVar} {x y:Option (AExit × St)} (h:Le x y):Le (qav rs x) (qav rs y):=by
 intro r hr
 cases x with
 | none=>cases hr
 | some x=>rw[h x rfl];exact hr
theorem qkj (L:Lib):∀ n f a h,Le (qbO L n f a h) (qbO L (n+1) f a h):=by
 intro n
 induction n with
 | zero=>intro f a h r hr;cases hr
 | succ n ih =>
   intro f a h r hr
   rw[qbO] at hr ⊢
   split
   ·rename_i s hs
    rw[hs] at hr
    exact hr
   ·rename_i hs
    rw[hs] at hr
    dsimp only at hr
    split
    ·rename_i fn hfn
     rw[hfn] at hr
     exact qpN (qcK ih (Nat.le_succ n) _ _) r hr
    ·rename_i hfn
     rw[hfn] at hr
     cases hr
theorem qcv (L:Lib) {n m:Nat} (h:n≤m) (f:Nat) (a:List AVal) (hp:Heap):Le (qbO L n f a hp) (qbO L m f a hp) :=
 qlv (f:=fun k=>qbO L k f a hp) (fun k=>qkj L k f a hp) h
noncomputable def call (L:Lib):CallT:=fun f a h=>lim fun n=>qbO L n f a h
theorem qdj {L:Lib} {f:Nat} {a:List AVal} {h:Heap} {r:ARes × Heap}:call L f a h=some r↔∃ n,qbO L n f a h=some r :=
 qo5 fun n=>qkj L n f a h
noncomputable def qjl (body:St→Option (AExit × St)) (s:St):Option (AExit × St):=lim fun n=>qdq body n s
theorem qc9 {body:St→Option (AExit × St)} {s:St} {r:AExit × St}:qjl body s=some r↔∃ n,qdq body n s=some r:=qo5 fun n=>qkB body n s
theorem qgv (body:St→Option (AExit × St)) (n:Nat) (s:St):Le (qdq body n s) (qjl body s):=fun _ hr=>qc9.2 ⟨n,hr⟩
theorem qo7 (body:St→Option (AExit × St)) (s:St):qjl body s=match body s with | some (.normal,s')=>qjl body s' | r=>r:=by
 have key:∀ r,qjl body s=some r↔(match body s with | some (.normal,s')=>qjl body s' | r=>r)=some r:=by
  intro r
  constructor
  ·intro h
   obtain⟨n,hn⟩:=qc9.1 h
   cases n with
   | zero=>cases hn
   | succ n =>
     rw[qdq] at hn
     split at hn
     ·rename_i s' hs'
      rw[hs']
      exact qgv _ _ _ _ hn
     ·rename_i x hx
      split
      ·rename_i s' hs'
       exact absurd hs' (hx s')
      ·exact hn
  ·intro h
   split at h
   ·rename_i s' hs'
    obtain⟨n,hn⟩:=qc9.1 h
    exact qc9.2 ⟨n+1,by rw[qdq,hs'];exact hn⟩
   ·rename_i x hx
    refine qc9.2 ⟨1,?_⟩
    rw[qdq]
    split
    ·rename_i s' hs'
     exact absurd hs' (hx s')
    ·exact h
 cases hx:qjl body s with
 | some r=>exact ((key r).1 hx).symm
 | none =>
   cases hy:(match body s with | some (.normal,s')=>qjl body s' | r=>r) with
   | none=>rfl
   | some r=>rw[(key r).2 hy] at hx;cases hx
noncomputable def qaM (pure:Nat→Bool) (call:CallT):ACode→St→Option (AExit × St)
 | .skip,s=>some (.normal,s)
 | .ops l,s=>qcd pure call l s
 | .draw l cs,s=>qgg pure call l cs s
 | .kops l,s=>qdV pure call l s
 | .mdraw k l ns,s=>qs5 k l ns s
 | .seq a b,s =>
   (match qaM pure call a s with
   | some (.normal,s')=>qaM pure call b s'
   | r=>r)
 | .cond c a b,s=>(match opd s.tm c with | .bool t=>if t then qaM pure call a s else qaM pure call b s | _=>none)
 | .block id c,s =>
   (match qaM pure call c s with
   | some (.exit id',s')=>if id'=id then some (.normal,s') else some (.exit id',s')
   | r=>r)
 | .loop c,s=>qjl (qaM pure call c) s
 | .gloop k c,s=>qjl (fun s1=>qaM pure call c (gc s.h.length k s1)) s
 | .frame k c,s=>(qaM pure call c s).map (gcE s.h.length k)
 | .freeze t c,s=>qaM pure call c (qeR t s)
 | .view c,s=>qaM pure call c (qnl s)
 | .range k b c,s=>qjw (qcd pure call) k (qaM pure call b) (qaM pure call c) s
 | .exit id,s=>some (.exit id,s)
 | .ret,s=>some (.ret,s)
 | .stuck,_=>none
theorem qlT {pure:Nat→Bool} {c1 c2:CallT} (hc:∀ f a h,Le (c1 f a h) (c2 f a h)) (n:Nat):∀ (c:ACode) (s:St),Le (qax pure c1 n c s) (qaM pure c2 c s):=by
 intro c
 induction c with
 | skip=>intro s;exact Le.refl _
 | ops l=>intro s;exact qef hc l s
 | draw l cs=>intro s;exact qkd hc l cs s
 | kops l=>intro s;exact qhf hc l s
 | mdraw k l ns=>intro s;exact Le.refl _
 | seq a b iha ihb =>
   intro s r hr
   rw[qax] at hr
   rw[qaM]
   cases hx:qax pure c1 n a s with
   | none=>rw[hx] at hr;cases hr
   | some x =>
     rw[iha s x hx]
     rw[hx] at hr
     obtain⟨e,s'⟩:=x
     cases e with
     | normal=>exact ihb _ r hr
     | _=>exact hr
 | cond c a b iha ihb =>
   intro s r hr
   rw[qax] at hr
   rw[qaM]
   split
   ·rename_i t ht
    rw[ht] at hr
    cases t with
    | true=>exact iha s r hr
    | false=>exact ihb s r hr
   ·rename_i ht
    split at hr
    ·rename_i t ht'
     exact absurd ht' (ht t)
    ·cases hr
 | block id c ih =>
   intro s r hr
   rw[qax] at hr
   rw[qaM]
   cases hx:qax pure c1 n c s with
   | none=>rw[hx] at hr;cases hr
   | some x=>rw[ih s x hx];rw[hx] at hr;exact hr
 | loop c ih=>intro s;exact (qer ih (Nat.le_refl n) s).trans (qgv _ _ _)
 | gloop k c ih=>intro s;exact (qer (fun s1=>ih _) (Nat.le_refl n) s).trans (qgv _ _ _)
 | freeze t c ih=>intro s;exact ih _
 | view c ih=>intro s;exact ih _
 | range k b c ihb ihc=>intro s;exact qjx (fun l s=>qef hc l s) ihb ihc k s
 | frame k c ih =>
   intro s r hr
   rw[qax] at hr
   rw[qaM]
   obtain⟨x,hx,rfl⟩:=Option.map_eq_some_iff.1 hr
   rw[ih s x hx]
   rfl
 | exit id=>intro s;exact Le.refl _
 | ret=>intro s;exact Le.refl _
 | stuck=>intro s;exact Le.refl _
section
variable {pure:Nat→Bool} {L:Lib}
theorem qhl {f:Nat} {a:List AVal} {h:Heap} {r:ARes × Heap} (hr:qcm pure (call L) f a h=some r):∃ n,qcm pure (qbO L n) f a h=some r:=by
 unfold qcm at hr
 split at hr
 ·rename_i hp
  cases hx:call L f (a.map wipe) [] with
  | none=>rw[hx] at hr;cases hr
  | some x =>
    rw[hx] at hr
    obtain⟨n,hn⟩:=qdj.1 hx
    refine⟨n,?_⟩
    unfold qcm
    rw[if_pos hp,hn]
    exact hr
 ·rename_i hp
  unfold qie at hr
  split at hr
  ·rename_i hq
   cases hx:call L f (a.map (ren fun i=>qas i (qbr a h) 0)) (qcD (qbr a h) h) with
   | none=>rw[hx] at hr;cases hr
   | some x =>
     rw[hx] at hr
     obtain⟨n,hn⟩:=qdj.1 hx
     refine⟨n,?_⟩
     unfold qcm qie
     rw[if_neg hp,if_pos hq,hn]
     exact hr
  ·cases hr
theorem qk5 {o:AOp} {tm:Tmps} {h:Heap} {r:ARes × Heap} (hr:aOp pure (call L) o tm h=some r):∃ n,aOp pure (qbO L n) o tm h=some r:=by
 cases o with
 | vcall f args =>
   simp only[aOp] at hr ⊢
   unfold qnh at hr
   split at hr
   ·rename_i hp
    cases hx:call L f ((args.map (opd tm)).map (lookV h)) [] with
    | none=>rw[hx] at hr;cases hr
    | some x =>
      rw[hx] at hr
      obtain⟨n,hn⟩:=qdj.1 hx
      refine⟨n,?_⟩
      unfold qnh
      rw[if_pos hp,hn]
      exact hr
   ·cases hr
 | hcall f args =>
   simp only[aOp] at hr ⊢
   split at hr
   ·rename_i hf
    exact qdj.1 hr
   ·cases hr
 | call f args =>
   simp only[aOp] at hr ⊢
   split at hr
   ·rename_i hf
    exact qhl hr
   ·cases hr
 | pcallV f args =>
   simp only[aOp] at hr ⊢
   split at hr
   ·rename_i hf
    unfold qjv at hr
    split at hr
    ·rename_i hc'
     unfold qay at hr
     split at hr
     ·rename_i v h' hd
      obtain⟨n,hn⟩:=qhl hd
      refine⟨n,?_⟩
      unfold qjv
      rw[if_pos hc',hn]
      exact hr
     ·cases hr
    ·cases hr
   ·cases hr
 | pcall f args =>
   simp only[aOp] at hr ⊢
   split at hr
   ·rename_i hc'
    unfold qay at hr
    split at hr
    ·rename_i v h' hd
     obtain⟨n,hn⟩:=qhl hd
     refine⟨n,?_⟩
     rw[if_pos hc',hn]
     exact hr
    ·cases hr
   ·cases hr
 | _=>exact⟨0,hr⟩
theorem qgB:∀ (l:List Step) {s:St} {r:AExit × St},qcd pure (call L) l s=some r→∃ n,qcd pure (qbO L n) l s=some r:=by
 intro l
 induction l with
 | nil=>intro s r hr;exact⟨0,hr⟩
 | cons o rest ih =>
   intro s r hr
   rw[qcd] at hr
   split at hr
   ·rename_i hw
    cases hx:aOp pure (call L) o.op s.tm s.h with
    | none=>rw[hx] at hr;cases hr
    | some x =>
      rw[hx] at hr
      obtain⟨n,hn⟩:=qk5 hx
      obtain⟨v,h⟩:=x
      cases v with
      | val v =>
        obtain⟨m,hm⟩:=ih hr
        refine⟨max n m,?_⟩
        rw[qcd,hw]
        dsimp only
        rw[qfC (qcv L (Nat.le_max_left n m)) _ _ _ _ hn]
        exact qef (qcv L (Nat.le_max_right n m)) _ _ _ hm
      | panic v =>
        refine⟨n,?_⟩
        rw[qcd,hw]
        dsimp only
        rw[hn]
        exact hr
   ·rename_i hw
    obtain⟨m,hm⟩:=ih hr
    exact⟨m,by rw[qcd,hw];exact hm⟩
   ·cases hr
theorem qs6 {o:AOp} {tm:Tmps} {h:Heap} {r:ARes × Heap} (hr:qih pure (call L) o tm h=some r):∃ n,qih pure (qbO L n) o tm h=some r:=by
 cases o with
 | pcall f args =>
   simp only[qih] at hr ⊢
   unfold qmu at hr
   split at hr
   ·rename_i hp
    cases hx:call L f ((args.map (opd tm)).map wipe) [] with
    | none=>rw[hx] at hr;cases hr
    | some x =>
      rw[hx] at hr
      obtain⟨n,hn⟩:=qdj.1 hx
      refine⟨n,?_⟩
      unfold qmu
      rw[if_pos hp,hn]
      exact hr
   ·cases hr
 | append sz bytes x y =>
   simp only[qih] at hr ⊢
   split at hr
   ·rename_i hq
    refine⟨0,?_⟩
    rw[if_pos hq]
    exact hr
   ·rename_i hq
    obtain⟨n,hn⟩:=qk5 hr
    refine⟨n,?_⟩
    rw[if_neg hq]
    exact hn
 | _=>simp only[qih] at hr ⊢;exact qk5 hr
theorem qqE:∀ (l:List Step) {s:St} {r:AExit × St},qdV pure (call L) l s=some r→∃ n,qdV pure (qbO L n) l s=some r:=by
 intro l
 induction l with
 | nil=>intro s r hr;exact⟨0,hr⟩
 | cons o rest ih =>
   intro s r hr
   rw[qdV] at hr
   split at hr
   ·rename_i hw
    cases hx:qih pure (call L) o.op s.tm s.h with
    | none=>rw[hx] at hr;cases hr
    | some x =>
      rw[hx] at hr
      obtain⟨n,hn⟩:=qs6 hx
      obtain⟨v,h⟩:=x
      cases v with
      | val v =>
        obtain⟨m,hm⟩:=ih hr
        refine⟨max n m,?_⟩
        rw[qdV,hw]
        dsimp only
        rw[qlV (qcv L (Nat.le_max_left n m)) _ _ _ _ hn]
        exact qhf (qcv L (Nat.le_max_right n m)) _ _ _ hm
      | panic v =>
        refine⟨n,?_⟩
        rw[qdV,hw]
        dsimp only
        rw[hn]
        exact hr
   ·rename_i hw
    obtain⟨m,hm⟩:=ih hr
    exact⟨m,by rw[qdV,hw];exact hm⟩
   ·cases hr
theorem qqD:∀ (l:List Step) {tm:Tmps} {hs:List Heap} {h:Heap} {r:Tmps × List Heap × Heap},qc4 pure (call L) l tm hs h=some r→∃ n,qc4 pure (qbO L n) l tm hs h=some r:=by
 intro l
 induction l with
 | nil=>intro tm hs h r hr;exact⟨0,hr⟩
 | cons o rest ih =>
   intro tm hs h r hr
   rw[qc4] at hr
   split at hr
   ·rename_i hw
    cases hx:aOp pure (call L) o.op tm h with
    | none=>rw[hx] at hr;cases hr
    | some x =>
      rw[hx] at hr
      obtain⟨n,hn⟩:=qk5 hx
      obtain⟨v,h'⟩:=x
      cases v with
      | val v =>
        obtain⟨m,hm⟩:=ih hr
        refine⟨max n m,?_⟩
        rw[qc4,hw]
        dsimp only
        rw[qfC (qcv L (Nat.le_max_left n m)) _ _ _ _ hn]
        exact qke (qcv L (Nat.le_max_right n m)) _ _ _ _ _ hm
      | panic v=>cases hr
   ·rename_i hw
    obtain⟨m,hm⟩:=ih hr
    exact⟨m,by rw[qc4,hw];exact hm⟩
   ·cases hr
theorem qo8 (c:ACode) (g:St→St) (ih:∀ {s:St} {r:AExit × St},qaM pure (call L) c s=some r→∃ n,qax pure (qbO L n) n c s=some r) {r:AExit × St} :
  ∀ k s,qdq (fun s1=>qaM pure (call L) c (g s1)) k s=some r→∃ n,qdq (fun s1=>qax pure (qbO L n) n c (g s1)) n s=some r:=by
 intro k
 induction k with
 | zero=>intro s h;cases h
 | succ k ihk =>
   intro s h
   rw[qdq] at h
   cases hx:qaM pure (call L) c (g s) with
   | none=>rw[hx] at h;cases h
   | some x =>
     rw[hx] at h
     obtain⟨n,hn⟩:=ih hx
     obtain⟨e,s'⟩:=x
     cases e with
     | normal =>
       obtain⟨m,hm⟩:=ihk s' h
       refine⟨max n m+1,?_⟩
       rw[qdq,qcK (qcv L (Nat.le_trans (Nat.le_max_left n m) (Nat.le_succ _))) (Nat.le_trans (Nat.le_max_left n m) (Nat.le_succ _)) _ _ _ hn]
       exact qer (fun s=>qcK (qcv L (Nat.le_trans (Nat.le_max_right n m) (Nat.le_succ _))) (Nat.le_trans (Nat.le_max_right n m) (Nat.le_succ _)) _ _) (Nat.le_max_right n m) _ _ hm
     | _ =>
       refine⟨n+1,?_⟩
       rw[qdq,qcK (qcv L (Nat.le_succ n)) (Nat.le_succ n) _ _ _ hn]
       exact h
def qkJ (x:AVal × AVal):List (AVal × AVal)→List (List (AVal × AVal))
 | []=>[[x]]
 | y::ys=>(x::y::ys)::(qkJ x ys).map (y::·)
def qfd:List (AVal × AVal)→List (List (AVal × AVal))
 | []=>[[]]
 | x::xs=>(qfd xs).flatMap (qkJ x)
theorem qkD (x:AVal × AVal):∀ l r:List (AVal × AVal),l++x::r∈qkJ x (l++r)
 | [],[]=>by simp[qkJ]
 | [],y::ys=>by simp[qkJ]
 | y :: l,r => by
   simp only[List.cons_append,qkJ,List.mem_cons,List.mem_map]
   exact .inr ⟨_,qkD x l r,rfl⟩
theorem qg7:∀ (es es':List (AVal × AVal)),es'.Perm es→es'∈qfd es
 | [],es',h=>by rw[h.eq_nil];simp[qfd]
 | x :: xs,es',h => by
   obtain⟨l,r,rfl⟩:=List.append_of_mem (h.mem_iff.2 (List.mem_cons_self ..))
   have h1:(l++r).Perm xs:=by
    have:=(List.perm_middle (a:=x) (l₁:=l) (l₂:=r)).symm.trans h
    exact this.cons_inv
   simp only[qfd,List.mem_flatMap]
   exact⟨_,qg7 xs _ h1,qkD x l r⟩
theorem qrm {α:Type} (Q:Nat→α→Prop) (hm:∀ n m a,n≤m→Q n a→Q m a):∀ (l:List α),(∀ a∈l,∃ n,Q n a)→∃ n,∀ a∈l,Q n a
 | [],_=>⟨0,fun a ha=>by cases ha⟩
 | a :: l,h => by
   obtain⟨n,hn⟩:=h a (by simp)
   obtain⟨m,hm'⟩:=qrm Q hm l fun b hb=>h b (by simp[hb])
   refine⟨max n m,fun b hb=>?_⟩
   rcases List.mem_cons.1 hb with rfl | hb
   ·exact hm _ _ _ (Nat.le_max_left n m) hn
   ·exact hm _ _ _ (Nat.le_max_right n m) (hm' b hb)
section
variable {b c:ACode}
theorem qd8 {n m:Nat} (h:n≤m) (l:List Step) (s:St):Le (qcd pure (qbO L n) l s) (qcd pure (qbO L m) l s):=qef (qcv L h) l s
theorem qdu {n m:Nat} (h:n≤m) (s:St):Le (qax pure (qbO L n) n b s) (qax pure (qbO L m) m b s):=qcK (qcv L h) h b s
theorem qj9 (hb:∀ {s:St} {r:AExit × St},qaM pure (call L) b s=some r→∃ n,qax pure (qbO L n) n b s=some r) (i:Nat) (k:RangeK) (e:AVal × AVal) {s:St} {r:AExit × St}
  (hr:qa8 (qcd pure (call L)) i k (qaM pure (call L) b) e s=some r):∃ n,qa8 (qcd pure (qbO L n)) i k (qax pure (qbO L n) n b) e s=some r:=by
 unfold qa8 at hr
 split at hr
 case isFalse=>cases hr
 rename_i g0
 cases hx:qcd pure (call L) k.r1 ⟨upd s.tm (some k.dn) (.tuple [.bool true,e.1,e.2]),s.h⟩ with
 | none=>rw[hx] at hr;cases hr
 | some x =>
   rw[hx] at hr
   obtain⟨n1,hn1⟩:=qgB _ hx
   obtain⟨q,s1⟩:=x
   cases q with
   | normal =>
     dsimp only at hr
     split at hr
     case isFalse=>cases hr
     rename_i g1
     split at hr
     ·rename_i hq
      unfold qjL at hr
      cases hy:qcd pure (call L) k.r2 ⟨upd s1.tm k.de (.tuple [e.1,e.2]),s1.h⟩ with
      | none=>rw[hy] at hr;cases hr
      | some y =>
        rw[hy] at hr
        obtain⟨n2,hn2⟩:=qgB _ hy
        obtain⟨q2,s2⟩:=y
        cases q2 with
        | normal =>
          dsimp only at hr
          cases hz:qaM pure (call L) b s2 with
          | none=>rw[hz] at hr;cases hr
          | some z =>
            obtain⟨n3,hn3⟩:=hb hz
            rw[hz] at hr
            refine⟨max n1 (max n2 n3),?_⟩
            unfold qa8 qjL
            rw[if_pos g0,qd8 (Nat.le_max_left _ _) _ _ _ hn1]
            dsimp only
            rw[if_pos g1,hq]
            dsimp only
            rw[qd8 (Nat.le_trans (Nat.le_max_left n2 n3) (Nat.le_max_right _ _)) _ _ _ hn2]
            dsimp only
            rw[qdu (Nat.le_trans (Nat.le_max_right n2 n3) (Nat.le_max_right _ _)) _ _ hn3]
            exact hr
        | _ =>
          refine⟨max n1 n2,?_⟩
          unfold qa8 qjL
          rw[if_pos g0,qd8 (Nat.le_max_left _ _) _ _ _ hn1]
          dsimp only
          rw[if_pos g1,hq]
          dsimp only
          rw[qd8 (Nat.le_max_right _ _) _ _ _ hn2]
          exact hr
     ·cases hr
   | _=>cases hr
theorem qmW (i:Nat) (k:RangeK) {s:St} {r:AExit × St} (hr:qbF (qcd pure (call L)) i k s=some r):∃ n,qbF (qcd pure (qbO L n)) i k s=some r:=by
 unfold qbF at hr
 split at hr
 case isFalse=>cases hr
 rename_i g0
 cases hx:qcd pure (call L) k.r1 ⟨upd s.tm (some k.dn) (.tuple [.bool false]),s.h⟩ with
 | none=>rw[hx] at hr;cases hr
 | some x =>
   rw[hx] at hr
   obtain⟨n1,hn1⟩:=qgB _ hx
   exact⟨n1,by unfold qbF;rw[if_pos g0,hn1];exact hr⟩
theorem qh1 (hb:∀ {s:St} {r:AExit × St},qaM pure (call L) b s=some r→∃ n,qax pure (qbO L n) n b s=some r) (i:Nat) (k:RangeK):∀ (es:List (AVal × AVal)) {s:St} {r:AExit × St},
  qa9 (qcd pure (call L)) i k (qaM pure (call L) b) es s=some r→∃ n,qa9 (qcd pure (qbO L n)) i k (qax pure (qbO L n) n b) es s=some r
 | [],s,r,hr=>qmW i k hr
 | e :: es,s,r,hr => by
   rw[qa9] at hr
   cases hx:qa8 (qcd pure (call L)) i k (qaM pure (call L) b) e (gc (i+1) k.kr s) with
   | none=>rw[hx] at hr;cases hr
   | some x =>
     rw[hx] at hr
     obtain⟨n,hn⟩:=qj9 hb i k e hx
     obtain⟨q,s1⟩:=x
     cases q with
     | normal =>
       obtain⟨m,hm⟩:=qh1 hb i k es hr
       refine⟨max n m,?_⟩
       rw[qa9,qfr (fun l s=>qd8 (Nat.le_max_left n m) l s) (fun s=>qdu (Nat.le_max_left n m) s) i k e _ _ hn]
       exact qdC (fun l s=>qd8 (Nat.le_max_right n m) l s) (fun s=>qdu (Nat.le_max_right n m) s) i k es _ _ hm
     | _=>exact⟨n,by rw[qa9,hn];exact hr⟩
theorem qmX (hb:∀ {s:St} {r:AExit × St},qaM pure (call L) b s=some r→∃ n,qax pure (qbO L n) n b s=some r) (hc:∀ {s:St} {r:AExit × St},qaM pure (call L) c s=some r→∃ n,qax pure (qbO L n) n c s=some r)
  (k:RangeK) (s s1:St) (es:List (AVal × AVal)) {r:AExit × St} (hr:qcz (qcd pure (call L)) k (qaM pure (call L) b) (qaM pure (call L) c) s s1 es=some r) :
  ∃ n,qcz (qcd pure (qbO L n)) k (qax pure (qbO L n) n b) (qax pure (qbO L n) n c) s s1 es=some r:=by
 unfold qcz at hr
 obtain⟨x,hx,rfl⟩:=Option.map_eq_some_iff.1 hr
 cases hy:qa9 (qcd pure (call L)) s1.h.length k (qaM pure (call L) b) es ⟨upd s1.tm (some k.it) (.ptr (some (s1.h.length,0))),qj5 (opd s1.tm k.m) s1.h⟩ with
 | none=>rw[hy] at hx;cases hx
 | some y =>
   rw[hy] at hx
   obtain⟨n,hn⟩:=qh1 hb _ k es hy
   obtain⟨q,s2⟩:=y
   cases q with
   | normal =>
     obtain⟨m,hm⟩:=hc hx
     refine⟨max n m,?_⟩
     unfold qcz
     rw[qdC (fun l s=>qd8 (Nat.le_max_left n m) l s) (fun s=>qdu (Nat.le_max_left n m) s) _ k es _ _ hn]
     dsimp only
     rw[qdu (Nat.le_max_right n m) _ _ hm]
     rfl
   | _ =>
     refine⟨n,?_⟩
     unfold qcz
     rw[hn]
     dsimp only at hx ⊢
     rw[hx]
     rfl
end
theorem qqB:∀ (c:ACode) {s:St} {r:AExit × St},qaM pure (call L) c s=some r→∃ n,qax pure (qbO L n) n c s=some r:=by
 intro c
 induction c with
 | skip=>intro s r hr;exact⟨0,hr⟩
 | ops l=>intro s r hr;exact qgB l hr
 | kops l=>intro s r hr;exact qqE l hr
 | mdraw k l ns=>intro s r hr;exact⟨0,hr⟩
 | draw l cs =>
   intro s r hr
   rw[qaM] at hr
   unfold qgg at hr
   cases hx:qc4 pure (call L) l s.tm [] s.h with
   | none=>rw[hx] at hr;cases hr
   | some x =>
     rw[hx] at hr
     obtain⟨n,hn⟩:=qqD l hx
     exact⟨n,by rw[qax];unfold qgg;rw[hn];exact hr⟩
 | seq a b iha ihb =>
   intro s r hr
   rw[qaM] at hr
   cases hx:qaM pure (call L) a s with
   | none=>rw[hx] at hr;cases hr
   | some x =>
     rw[hx] at hr
     obtain⟨n,hn⟩:=iha hx
     obtain⟨e,s'⟩:=x
     cases e with
     | normal =>
       obtain⟨m,hm⟩:=ihb hr
       refine⟨max n m,?_⟩
       rw[qax,qcK (qcv L (Nat.le_max_left n m)) (Nat.le_max_left n m) _ _ _ hn]
       exact qcK (qcv L (Nat.le_max_right n m)) (Nat.le_max_right n m) _ _ _ hm
     | _=>exact⟨n,by rw[qax,hn];exact hr⟩
 | cond c a b iha ihb =>
   intro s r hr
   rw[qaM] at hr
   split at hr
   ·rename_i t ht
    cases t with
    | true =>
      obtain⟨n,hn⟩:=iha hr
      exact⟨n,by rw[qax,ht];exact hn⟩
    | false =>
      obtain⟨n,hn⟩:=ihb hr
      exact⟨n,by rw[qax,ht];exact hn⟩
   ·cases hr
 | block id c ih =>
   intro s r hr
   rw[qaM] at hr
   cases hx:qaM pure (call L) c s with
   | none=>rw[hx] at hr;cases hr
   | some x =>
     rw[hx] at hr
     obtain⟨n,hn⟩:=ih hx
     exact⟨n,by rw[qax,hn];exact hr⟩
 | loop c ih =>
   intro s r hr
   rw[qaM] at hr
   obtain⟨k,hk⟩:=qc9.1 hr
   obtain⟨n,hn⟩:=qo8 c (fun s=>s) (fun hx=>ih hx) k s hk
   exact⟨n,by rw[qax];exact hn⟩
 | gloop kp c ih =>
   intro s r hr
   rw[qaM] at hr
   obtain⟨k,hk⟩:=qc9.1 hr
   obtain⟨n,hn⟩:=qo8 c (fun s1=>gc s.h.length kp s1) (fun hx=>ih hx) k s hk
   exact⟨n,by rw[qax];exact hn⟩
 | view c ih =>
   intro s r hr
   obtain⟨n,hn⟩:=ih hr
   exact⟨n,hn⟩
 | freeze t c ih =>
   intro s r hr
   obtain⟨n,hn⟩:=ih hr
   exact⟨n,hn⟩
 | range k b c ihb ihc =>
   intro s r hr
   rw[qaM,qew] at hr
   cases hx:qcd pure (call L) k.pre s with
   | none=>rw[hx] at hr;cases hr
   | some x =>
     rw[hx] at hr
     obtain⟨n,hn⟩:=qgB _ hx
     obtain⟨q,s1⟩:=x
     cases q with
     | normal =>
       dsimp only at hr
       split at hr
       ·rename_i es hes
        have h1:=(qcL (qbK _ _)).1 hr
        obtain⟨m,hm⟩:=qrm (fun n es'=>qco k.str es es'→qcz (qcd pure (qbO L n)) k (qax pure (qbO L n) n b) (qax pure (qbO L n) n c) s s1 es'=some r)
         (fun n m a hnm h ho=>qeX (fun l s=>qd8 hnm l s) (fun s=>qdu hnm s) (fun s=>qdu hnm s) k s s1 a r (h ho)) (es::qfd es)
         (fun a _=>by
          by_cases ho:qco k.str es a
          ·obtain⟨n,hn⟩:=qmX ihb ihc k s s1 a (h1 a ho)
           exact⟨n,fun _=>hn⟩
          ·exact⟨0,fun h=>absurd h ho⟩)
        refine⟨max n m,?_⟩
        rw[qax,qew,qd8 (Nat.le_max_left n m) _ _ _ hn]
        dsimp only
        rw[hes]
        dsimp only
        refine (qcL (qbK _ _)).2 fun es' he=>?_
        refine qeX (fun l s=>qd8 (Nat.le_max_right n m) l s) (fun s=>qdu (Nat.le_max_right n m) s) (fun s=>qdu (Nat.le_max_right n m) s) k s s1 es' r (hm es' ?_ he)
        unfold qco at he
        split at he
        ·rw[he];simp
        ·exact List.mem_cons_of_mem _ (qg7 es es' he)
       ·cases hr
     | _=>cases hr
 | frame kp c ih =>
   intro s r hr
   rw[qaM] at hr
   obtain⟨x,hx,rfl⟩:=Option.map_eq_some_iff.1 hr
   obtain⟨n,hn⟩:=ih hx
   exact⟨n,by rw[qax,hn];rfl⟩
 | exit id=>intro s r hr;exact⟨0,hr⟩
 | ret=>intro s r hr;exact⟨0,hr⟩
 | stuck=>intro s r hr;exact⟨0,hr⟩
end
theorem qcW {L:Lib} {f:Nat} {fn:AFn} (hs:L.summ f=none) (hf:L.fns f=some fn) {a:List AVal} {h:Heap} {r:ARes × Heap}
  (hr:qav fn.results (qaM L.pure (call L) fn.body ⟨qe6 a,h⟩)=some r):call L f a h=some r:=by
 cases hx:qaM L.pure (call L) fn.body ⟨qe6 a,h⟩ with
 | none=>rw[hx] at hr;cases hr
 | some x =>
   rw[hx] at hr
   obtain⟨n,hn⟩:=qqB _ hx
   refine qdj.2 ⟨n+1,?_⟩
   rw[qbO,hs]
   dsimp only
   rw[hf]
   dsimp only
   rw[hn]
   exact hr
theorem qdL {L:Lib} {f:Nat} {s:List AVal→Heap→Option (ARes × Heap)} (hs:L.summ f=some s) {a:List AVal} {h:Heap} {r:ARes × Heap} (hr:s a h=some r):call L f a h=some r :=
 qdj.2 ⟨1,by rw[qbO,hs];exact hr⟩
end Go.Abs
