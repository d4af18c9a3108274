/-
  The abstract machine without bounds: calls and loops as limits of the bounded ones; each is what its body says.
-/
import Derived.Test.YtpchghpipgpkfaaDoorAbsA
set_option linter.unusedVariables false
namespace Go.Abs
def Le {α:Type} (x y:Option α):Prop:=∀ r,x=some r→y=some r
theorem Le.refl {α:Type} (x:Option α):Le x x:=fun _ h=>h
theorem Le.trans {α:Type} {x y z:Option α} (h:Le x y) (h':Le y z):Le x z:=fun r e=>h' r (h r e)
theorem Le.none {α:Type} (y:Option α):Le (Option.none:Option α) y:=fun _ h=>by cases h
open Classical in
noncomputable def lim {α:Type} (f:Nat→Option α):Option α:=if h:∃ n,(f n).isSome=true then f (Classical.choose h) else none
theorem qlO {α:Type} {f:Nat→Option α} (hm:∀ n,Le (f n) (f (n+1))):∀ {a b:Nat},a≤b→Le (f a) (f b):=by
 intro a b hab
 induction hab with
 | refl=>exact Le.refl _
 | step _ ih=>exact ih.trans (hm _)
theorem qpw {α:Type} {f:Nat→Option α} (hm:∀ n,Le (f n) (f (n+1))) {r:α}:lim f=some r↔∃ n,f n=some r:=by
 constructor
 ·intro h
  unfold lim at h
  split at h
  ·exact⟨_,h⟩
  ·cases h
 ·rintro ⟨n,hn⟩
  have hx:∃ n,(f n).isSome=true:=⟨n,by rw[hn];rfl⟩
  unfold lim
  rw[dif_pos hx]
  have h1:=Classical.choose_spec hx
  obtain⟨r',hr'⟩:=Option.isSome_iff_exists.1 h1
  rw[hr']
  have a:=qlO hm (Nat.le_max_left n (Classical.choose hx)) r hn
  have b:=qlO hm (Nat.le_max_right n (Classical.choose hx)) r' hr'
  rw[a] at b
  injection b with b
  rw[b]
theorem qkX (body:St→Option (AExit × St)):∀ n s,Le (qde body n s) (qde body (n+1) s):=by
 intro n
 induction n with
 | zero=>intro s r h;cases h
 | succ n ih =>
   intro s r h
   rw[qde] at h ⊢
   split
   ·rename_i s' hb
    rw[hb] at h
    exact ih s' r h
   ·rename_i r' hr'
    split at h
    ·rename_i s' hs'
     exact absurd hs' (hr' s')
    ·exact h
theorem qea {b1 b2:St→Option (AExit × St)} (hb:∀ s,Le (b1 s) (b2 s)):∀ {n m:Nat},n≤m→∀ s,Le (qde b1 n s) (qde b2 m s):=by
 intro n m hnm s
 refine Le.trans ?_ (qlO (f:=fun k=>qde b2 k s) (fun k=>qkX b2 k s) hnm)
 clear hnm
 induction n generalizing s with
 | zero=>intro r h;cases h
 | succ n ih =>
   intro r h
   rw[qde] at h ⊢
   cases hx:b1 s with
   | none=>rw[hx] at h;cases h
   | some x =>
     rw[hb s x hx]
     rw[hx] at h
     obtain⟨e,s'⟩:=x
     cases e with
     | normal=>exact ih s' r h
     | _=>exact h
section
variable {pure:Nat→Bool} {c1 c2:CallT}
theorem qqC (hc:∀ f a h,Le (c1 f a h) (c2 f a h)) (f:Nat) (a:List AVal) (h:Heap):Le (qkp c1 f a h) (qkp c2 f a h):=by
 intro r hr
 unfold qkp at hr ⊢
 split
 ·rename_i hp
  rw[if_pos hp] at hr
  cases hx:c1 f (a.map (ren fun i=>qax i (qbr a h) 0)) (qcw (qbr a h) h) with
  | none=>rw[hx] at hr;cases hr
  | some x=>rw[hc _ _ _ x hx];rw[hx] at hr;exact hr
 ·rename_i hp
  rw[if_neg hp] at hr
  cases hr
theorem qgp (hc:∀ f a h,Le (c1 f a h) (c2 f a h)) (f:Nat) (a:List AVal) (h:Heap):Le (qcz pure c1 f a h) (qcz pure c2 f a h):=by
 intro r hr
 unfold qcz at hr ⊢
 split
 ·rename_i hp
  rw[if_pos hp] at hr
  cases hx:c1 f (a.map wipe) [] with
  | none=>rw[hx] at hr;cases hr
  | some x=>rw[hc _ _ _ x hx];rw[hx] at hr;exact hr
 ·rename_i hp
  rw[if_neg hp] at hr
  exact qqC hc _ _ _ _ hr
theorem qqA (hc:∀ f a h,Le (c1 f a h) (c2 f a h)) (g:Nat) (xs:List AVal) (h:Heap):Le (qjN pure c1 g xs h) (qjN pure c2 g xs h):=by
 intro r hr
 unfold qjN at hr ⊢
 split
 ·rename_i hc'
  rw[if_pos hc'] at hr
  unfold qar at hr ⊢
  split at hr
  ·rename_i v h' hd
   rw[qgp hc _ _ _ _ hd]
   exact hr
  ·cases hr
 ·rename_i hc'
  rw[if_neg hc'] at hr
  cases hr
theorem qqQ (hc:∀ f a h,Le (c1 f a h) (c2 f a h)) (f:Nat) (a:List AVal) (h:Heap):Le (qhQ c1 f a h) (qhQ c2 f a h):=by
 intro r hr
 unfold qhQ at hr ⊢
 split
 ·rename_i hp
  rw[if_pos hp] at hr
  cases hx:c1 f (a.map (lookV h)) [] with
  | none=>rw[hx] at hr;cases hr
  | some x=>rw[hc _ _ _ x hx];rw[hx] at hr;exact hr
 ·rename_i hp
  rw[if_neg hp] at hr
  cases hr
theorem qfu (hc:∀ f a h,Le (c1 f a h) (c2 f a h)) (o:AOp) (tm:Tmps) (h:Heap):Le (aOp pure c1 o tm h) (aOp pure c2 o tm h):=by
 intro r hr
 cases o with
 | vcall f args=>exact qqQ hc _ _ _ _ hr
 | hcall f args =>
   simp only[aOp] at hr ⊢
   split
   ·rename_i hf
    rw[hf] at hr
    exact hc _ _ _ _ hr
   ·rename_i hf
    split at hr
    ·rename_i hf'
     exact absurd hf' (hf _ _ _)
    ·cases hr
 | call f args =>
   simp only[aOp] at hr ⊢
   split
   ·rename_i hf
    rw[hf] at hr
    exact qgp hc _ _ _ _ hr
   ·rename_i hf
    split at hr
    ·rename_i hf'
     exact absurd hf' (hf _ _ _)
    ·cases hr
 | pcallV f args =>
   simp only[aOp] at hr ⊢
   split
   ·rename_i hf
    rw[hf] at hr
    exact qqA hc _ _ _ _ hr
   ·rename_i hf
    split at hr
    ·rename_i hf'
     exact absurd hf' (hf _ _ _)
    ·cases hr
 | pcall f args =>
   simp only[aOp] at hr ⊢
   split
   ·rename_i hc'
    rw[if_pos hc'] at hr
    unfold qar at hr ⊢
    split at hr
    ·rename_i v h' hd
     rw[qgp hc _ _ _ _ hd]
     exact hr
    ·cases hr
   ·rename_i hc'
    rw[if_neg hc'] at hr
    cases hr
 | _=>exact hr
theorem qd2 (hc:∀ f a h,Le (c1 f a h) (c2 f a h)):∀ (l:List Step) (s:St),Le (qb0 pure c1 l s) (qb0 pure c2 l s):=by
 intro l
 induction l with
 | nil=>intro s;exact Le.refl _
 | cons o rest ih =>
   intro s r hr
   rw[qb0] at hr ⊢
   split
   ·rename_i hw
    rw[hw] at hr
    dsimp only at hr
    cases hx:aOp pure c1 o.op s.tm s.h with
    | none=>rw[hx] at hr;cases hr
    | some x =>
      rw[qfu hc _ _ _ x hx]
      rw[hx] at hr
      obtain⟨v,h⟩:=x
      cases v with
      | val v=>exact ih _ r hr
      | panic v=>exact hr
   ·rename_i hw
    rw[hw] at hr
    exact ih _ r hr
   ·rename_i hw
    rw[hw] at hr
    cases hr
theorem qqn (hc:∀ f a h,Le (c1 f a h) (c2 f a h)) (f:Nat) (a:List AVal) (h:Heap):Le (qmO c1 f a h) (qmO c2 f a h):=by
 intro r hr
 unfold qmO at hr ⊢
 split
 ·rename_i hp
  rw[if_pos hp] at hr
  cases hx:c1 f (a.map wipe) [] with
  | none=>rw[hx] at hr;cases hr
  | some x=>rw[hc _ _ _ x hx];rw[hx] at hr;exact hr
 ·rename_i hp
  rw[if_neg hp] at hr
  cases hr
theorem qme (hc:∀ f a h,Le (c1 f a h) (c2 f a h)) (o:AOp) (tm:Tmps) (h:Heap):Le (qir pure c1 o tm h) (qir pure c2 o tm h):=by
 intro r hr
 cases o with
 | pcall f args=>exact qqn hc _ _ _ _ hr
 | append sz bytes x y =>
   simp only[qir] at hr ⊢
   split
   ·rename_i hq
    rw[if_pos hq] at hr
    exact hr
   ·rename_i hq
    rw[if_neg hq] at hr
    exact qfu hc _ tm h r hr
 | _=>simp only[qir] at hr ⊢;exact qfu hc _ tm h r hr
theorem qhn (hc:∀ f a h,Le (c1 f a h) (c2 f a h)):∀ (l:List Step) (s:St),Le (qdN pure c1 l s) (qdN pure c2 l s):=by
 intro l
 induction l with
 | nil=>intro s;exact Le.refl _
 | cons o rest ih =>
   intro s r hr
   rw[qdN] at hr ⊢
   split
   ·rename_i hw
    rw[hw] at hr
    dsimp only at hr
    cases hx:qir pure c1 o.op s.tm s.h with
    | none=>rw[hx] at hr;cases hr
    | some x =>
      rw[qme hc _ _ _ x hx]
      rw[hx] at hr
      obtain⟨v,h⟩:=x
      cases v with
      | val v=>exact ih _ r hr
      | panic v=>exact hr
   ·rename_i hw
    rw[hw] at hr
    exact ih _ r hr
   ·rename_i hw
    rw[hw] at hr
    cases hr
theorem qkw (hc:∀ f a h,Le (c1 f a h) (c2 f a h)):∀ (l:List Step) (tm:Tmps) (hs:List Heap) (h:Heap),Le (qcQ pure c1 l tm hs h) (qcQ pure c2 l tm hs h):=by
 intro l
 induction l with
 | nil=>intro tm hs h;exact Le.refl _
 | cons o rest ih =>
   intro tm hs h r hr
   rw[qcQ] at hr ⊢
   split
   ·rename_i hw
    rw[hw] at hr
    dsimp only at hr
    cases hx:aOp pure c1 o.op tm h with
    | none=>rw[hx] at hr;cases hr
    | some x =>
      rw[qfu hc _ _ _ x hx]
      rw[hx] at hr
      obtain⟨v,h'⟩:=x
      cases v with
      | val v=>exact ih _ _ _ r hr
      | panic v=>exact hr
   ·rename_i hw
    rw[hw] at hr
    exact ih _ _ _ r hr
   ·rename_i hw
    rw[hw] at hr
    cases hr
section
variable {o1 o2:List Step→St→Option (AExit × St)} {b1 b2 c1' c2':St→Option (AExit × St)}
theorem qmn {id:Nat} {x y:Option (AExit × St)} (h:Le x y):Le (qdc id x) (qdc id y):=by
 intro r hr
 cases x with
 | none=>cases hr
 | some x=>rw[h x rfl];exact hr
theorem qfl (ho:∀ l s,Le (o1 l s) (o2 l s)) (hb:∀ s,Le (b1 s) (b2 s)) (n:Nat) (k:RangeK) (e:AVal × AVal) (s:St):Le (qa9 o1 n k b1 e s) (qa9 o2 n k b2 e s):=by
 intro r hr
 unfold qa9 at hr ⊢
 split
 case isFalse h0=>rw[if_neg h0] at hr;cases hr
 rename_i h0
 rw[if_pos h0] at hr
 cases hx:o1 k.r1 ⟨upd s.tm (some k.dn) (.tuple [.bool true,e.1,e.2]),s.h⟩ with
 | none=>rw[hx] at hr;cases hr
 | some x =>
   rw[ho _ _ x hx]
   rw[hx] at hr
   obtain⟨q,s1⟩:=x
   cases q with
   | normal =>
     dsimp only at hr ⊢
     split
     case isFalse h1=>rw[if_neg h1] at hr;cases hr
     rename_i h1
     rw[if_pos h1] at hr
     split
     ·rename_i hq
      rw[hq] at hr
      refine qmn (id:=k.id2) ?_ r hr
      intro r2 hr2
      unfold qjZ at hr2 ⊢
      cases hy:o1 k.r2 ⟨upd s1.tm k.de (.tuple [e.1,e.2]),s1.h⟩ with
      | none=>rw[hy] at hr2;cases hr2
      | some y =>
        rw[ho _ _ y hy]
        rw[hy] at hr2
        obtain⟨q2,s2⟩:=y
        cases q2 with
        | normal=>exact hb _ r2 hr2
        | _=>exact hr2
     ·rename_i hq
      split at hr
      ·rename_i hq'
       exact absurd hq' hq
      ·cases hr
   | _=>cases hr
theorem qlX (ho:∀ l s,Le (o1 l s) (o2 l s)) (n:Nat) (k:RangeK) (s:St):Le (qbB o1 n k s) (qbB o2 n k s):=by
 intro r hr
 unfold qbB at hr ⊢
 split
 case isFalse h0=>rw[if_neg h0] at hr;cases hr
 rename_i h0
 rw[if_pos h0] at hr
 cases hx:o1 k.r1 ⟨upd s.tm (some k.dn) (.tuple [.bool false]),s.h⟩ with
 | none=>rw[hx] at hr;cases hr
 | some x =>
   rw[ho _ _ x hx]
   rw[hx] at hr
   exact hr
theorem qdr (ho:∀ l s,Le (o1 l s) (o2 l s)) (hb:∀ s,Le (b1 s) (b2 s)) (n:Nat) (k:RangeK):∀ (es:List (AVal × AVal)) (s:St),Le (qba o1 n k b1 es s) (qba o2 n k b2 es s)
 | [],s=>qlX ho n k _
 | e :: es,s => by
   intro r hr
   rw[qba] at hr ⊢
   cases hx:qa9 o1 n k b1 e (gc (n+1) k.kr s) with
   | none=>rw[hx] at hr;cases hr
   | some x =>
     rw[qfl ho hb n k e _ x hx]
     rw[hx] at hr
     obtain⟨q,s1⟩:=x
     cases q with
     | normal=>exact qdr ho hb n k es s1 r hr
     | _=>exact hr
theorem qcq {O:List (AVal × AVal)→Prop} (hO:∃ es,O es) {f:List (AVal × AVal)→Option (AExit × St)} {r:AExit × St}:qmi O f=some r↔∀ es,O es→f es=some r:=by
 constructor
 ·intro h
  unfold qmi at h
  split at h
  ·rename_i hx
   injection h with h
   rw[← h]
   exact Classical.choose_spec hx
  ·cases h
 ·intro h
  have hx:∃ r,∀ es,O es→f es=some r:=⟨r,h⟩
  unfold qmi
  rw[dif_pos hx]
  obtain⟨es,he⟩:=hO
  have h1:=Classical.choose_spec hx es he
  rw[h es he] at h1
  exact h1.symm
theorem qbG (str:Bool) (es:List (AVal × AVal)):∃ es',qcb str es es':=⟨es,by unfold qcb;split<;>first | rfl | exact .refl _⟩
def qci (ops:List Step→St→Option (AExit × St)) (k:RangeK) (runB runC:St→Option (AExit × St)) (s s1:St) (es:List (AVal × AVal)):Option (AExit × St) :=
 (match qba ops s1.h.length k runB es ⟨upd s1.tm (some k.it) (.ptr (some (s1.h.length,0))),qkk (opd s1.tm k.m) s1.h⟩ with
  | some (.normal,s2)=>runC ⟨s2.tm,qcc (opd s1.tm k.m) s1.h s2.h⟩
  | some (e,s2)=>some (e,⟨s2.tm,qcc (opd s1.tm k.m) s1.h s2.h⟩)
  | none=>none).map (gcE s.h.length k.keep)
theorem qeh (ops:List Step→St→Option (AExit × St)) (k:RangeK) (runB runC:St→Option (AExit × St)) (s:St):qjO ops k runB runC s=match ops k.pre s with
 | some (.normal,s1) => (match qcm k.str (opd s1.tm k.m) s1.h with
   | some es=>qmi (qcb k.str es) (qci ops k runB runC s s1)
   | none=>none)
 | _=>none:=rfl
theorem qeI (ho:∀ l s,Le (o1 l s) (o2 l s)) (hb:∀ s,Le (b1 s) (b2 s)) (hc:∀ s,Le (c1' s) (c2' s)) (k:RangeK) (s s1:St) (es:List (AVal × AVal)):Le (qci o1 k b1 c1' s s1 es) (qci o2 k b2 c2' s s1 es):=by
 intro r hr
 unfold qci at hr ⊢
 obtain⟨x,hx,rfl⟩:=Option.map_eq_some_iff.1 hr
 refine Option.map_eq_some_iff.2 ⟨x,?_,rfl⟩
 cases hy:qba o1 s1.h.length k b1 es ⟨upd s1.tm (some k.it) (.ptr (some (s1.h.length,0))),qkk (opd s1.tm k.m) s1.h⟩ with
 | none=>rw[hy] at hx;cases hx
 | some y =>
   rw[qdr ho hb _ k _ _ y hy]
   rw[hy] at hx
   obtain⟨q,s2⟩:=y
   cases q with
   | normal=>exact hc _ x hx
   | _=>exact hx
theorem qjP (ho:∀ l s,Le (o1 l s) (o2 l s)) (hb:∀ s,Le (b1 s) (b2 s)) (hc:∀ s,Le (c1' s) (c2' s)) (k:RangeK) (s:St):Le (qjO o1 k b1 c1' s) (qjO o2 k b2 c2' s):=by
 intro r hr
 rw[qeh] at hr ⊢
 cases hx:o1 k.pre s with
 | none=>rw[hx] at hr;cases hr
 | some x =>
   rw[ho _ _ x hx]
   rw[hx] at hr
   obtain⟨q,s1⟩:=x
   cases q with
   | normal =>
     dsimp only at hr ⊢
     split
     ·rename_i es hes
      rw[hes] at hr
      have h1:=(qcq (qbG _ _)).1 hr
      exact (qcq (qbG _ _)).2 fun es' he=>qeI ho hb hc k s s1 es' r (h1 es' he)
     ·rename_i hes
      rw[hes] at hr
      cases hr
   | _=>cases hr
end
theorem qkv (hc:∀ f a h,Le (c1 f a h) (c2 f a h)) (l:List Step) (cs:List (Nat × Nat × Nat)) (s:St):Le (qge pure c1 l cs s) (qge pure c2 l cs s):=by
 intro r hr
 unfold qge at hr ⊢
 cases hx:qcQ pure c1 l s.tm [] s.h with
 | none=>rw[hx] at hr;cases hr
 | some x=>rw[qkw hc _ _ _ _ x hx];rw[hx] at hr;exact hr
theorem qcp (hc:∀ f a h,Le (c1 f a h) (c2 f a h)) {n m:Nat} (hnm:n≤m):∀ (c:ACode) (s:St),Le (qaG pure c1 n c s) (qaG pure c2 m c s):=by
 intro c
 induction c with
 | skip=>intro s;exact Le.refl _
 | ops l=>intro s;exact qd2 hc l s
 | draw l cs=>intro s;exact qkv hc l cs s
 | kops l=>intro s;exact qhn hc l s
 | mdraw k l ns=>intro s;exact Le.refl _
 | seq a b iha ihb =>
   intro s r hr
   rw[qaG] at hr ⊢
   cases hx:qaG pure c1 n a s with
   | none=>rw[hx] at hr;cases hr
   | some x =>
     rw[iha s x hx]
     rw[hx] at hr
     obtain⟨e,s'⟩:=x
     cases e with
     | normal=>exact ihb _ r hr
     | _=>exact hr
 | cond c a b iha ihb =>
   intro s r hr
   rw[qaG] at hr ⊢
   split
   ·rename_i t ht
    rw[ht] at hr
    cases t with
    | true=>exact iha s r hr
    | false=>exact ihb s r hr
   ·rename_i ht
    split at hr
    ·rename_i t ht'
     exact absurd ht' (ht t)
    ·cases hr
 | block id c ih =>
   intro s r hr
   rw[qaG] at hr ⊢
   cases hx:qaG pure c1 n c s with
   | none=>rw[hx] at hr;cases hr
   | some x=>rw[ih s x hx];rw[hx] at hr;exact hr
 | loop c ih=>intro s;exact qea ih hnm s
 | gloop k c ih=>intro s;exact qea (fun s1=>ih _) hnm s
 | freeze t c ih=>intro s;exact ih _
 | view c ih=>intro s;exact ih _
 | range k b c ihb ihc=>intro s;exact qjP (fun l s=>qd2 hc l s) ihb ihc k s
 | frame k c ih =>
   intro s r hr
   rw[qaG] at hr ⊢
   obtain⟨x,hx,rfl⟩:=Option.map_eq_some_iff.1 hr
   rw[ih s x hx]
   rfl
 | exit id=>intro s;exact Le.refl _
 | ret=>intro s;exact Le.refl _
 | stuck=>intro s;exact Le.refl _
end
theorem qqb {rs:List ARVar} {x y:Option (AExit × St)} (h:Le x y):Le (qan rs x) (qan rs y):=by
 intro r hr
 cases x with
 | none=>cases hr
 | some x=>rw[h x rfl];exact hr
theorem qkD (L:Lib):∀ n f a h,Le (qbJ L n f a h) (qbJ L (n+1) f a h):=by
 intro n
 induction n with
 | zero=>intro f a h r hr;cases hr
 | succ n ih =>
   intro f a h r hr
   rw[qbJ] at hr ⊢
   split
   ·rename_i s hs
    rw[hs] at hr
    exact hr
   ·rename_i hs
    rw[hs] at hr
    dsimp only at hr
    split
    ·rename_i fn hfn
     rw[hfn] at hr
     exact qqb (qcp ih (Nat.le_succ n) _ _) r hr
    ·rename_i hfn
     rw[hfn] at hr
     cases hr
theorem qcd (L:Lib) {n m:Nat} (h:n≤m) (f:Nat) (a:List AVal) (hp:Heap):Le (qbJ L n f a hp) (qbJ L m f a hp) :=
 qlO (f:=fun k=>qbJ L k f a hp) (fun k=>qkD L k f a hp) h
noncomputable def call (L:Lib):CallT:=fun f a h=>lim fun n=>qbJ L n f a h
theorem qc7 {L:Lib} {f:Nat} {a:List AVal} {h:Heap} {r:ARes × Heap}:call L f a h=some r↔∃ n,qbJ L n f a h=some r :=
 qpw fun n=>qkD L n f a h
noncomputable def qjB (body:St→Option (AExit × St)) (s:St):Option (AExit × St):=lim fun n=>qde body n s
theorem qcV {body:St→Option (AExit × St)} {s:St} {r:AExit × St}:qjB body s=some r↔∃ n,qde body n s=some r:=qpw fun n=>qkX body n s
theorem qgw (body:St→Option (AExit × St)) (n:Nat) (s:St):Le (qde body n s) (qjB body s):=fun _ hr=>qcV.2 ⟨n,hr⟩
theorem qpy (body:St→Option (AExit × St)) (s:St):qjB body s=match body s with | some (.normal,s')=>qjB body s' | r=>r:=by
 have key:∀ r,qjB body s=some r↔(match body s with | some (.normal,s')=>qjB body s' | r=>r)=some r:=by
  intro r
  constructor
  ·intro h
   obtain⟨n,hn⟩:=qcV.1 h
   cases n with
   | zero=>cases hn
   | succ n =>
     rw[qde] at hn
     split at hn
     ·rename_i s' hs'
      rw[hs']
      exact qgw _ _ _ _ hn
     ·rename_i x hx
      split
      ·rename_i s' hs'
       exact absurd hs' (hx s')
      ·exact hn
  ·intro h
   split at h
   ·rename_i s' hs'
    obtain⟨n,hn⟩:=qcV.1 h
    exact qcV.2 ⟨n+1,by rw[qde,hs'];exact hn⟩
   ·rename_i x hx
    refine qcV.2 ⟨1,?_⟩
    rw[qde]
    split
    ·rename_i s' hs'
     exact absurd hs' (hx s')
    ·exact h
 cases hx:qjB body s with
 | some r=>exact ((key r).1 hx).symm
 | none =>
   cases hy:(match body s with | some (.normal,s')=>qjB body s' | r=>r) with
   | none=>rfl
   | some r=>rw[(key r).2 hy] at hx;cases hx
noncomputable def qaP (pure:Nat→Bool) (call:CallT):ACode→St→Option (AExit × St)
 | .skip,s=>some (.normal,s)
 | .ops l,s=>qb0 pure call l s
 | .draw l cs,s=>qge pure call l cs s
 | .kops l,s=>qdN pure call l s
 | .mdraw k l ns,s=>qtz k l ns s
 | .seq a b,s =>
   (match qaP pure call a s with
   | some (.normal,s')=>qaP pure call b s'
   | r=>r)
 | .cond c a b,s=>(match opd s.tm c with | .bool t=>if t then qaP pure call a s else qaP pure call b s | _=>none)
 | .block id c,s =>
   (match qaP pure call c s with
   | some (.exit id',s')=>if id'=id then some (.normal,s') else some (.exit id',s')
   | r=>r)
 | .loop c,s=>qjB (qaP pure call c) s
 | .gloop k c,s=>qjB (fun s1=>qaP pure call c (gc s.h.length k s1)) s
 | .frame k c,s=>(qaP pure call c s).map (gcE s.h.length k)
 | .freeze t c,s=>qaP pure call c (qeC t s)
 | .view c,s=>qaP pure call c (qnK s)
 | .range k b c,s=>qjO (qb0 pure call) k (qaP pure call b) (qaP pure call c) s
 | .exit id,s=>some (.exit id,s)
 | .ret,s=>some (.ret,s)
 | .stuck,_=>none
theorem qmc {pure:Nat→Bool} {c1 c2:CallT} (hc:∀ f a h,Le (c1 f a h) (c2 f a h)) (n:Nat):∀ (c:ACode) (s:St),Le (qaG pure c1 n c s) (qaP pure c2 c s):=by
 intro c
 induction c with
 | skip=>intro s;exact Le.refl _
 | ops l=>intro s;exact qd2 hc l s
 | draw l cs=>intro s;exact qkv hc l cs s
 | kops l=>intro s;exact qhn hc l s
 | mdraw k l ns=>intro s;exact Le.refl _
 | seq a b iha ihb =>
   intro s r hr
   rw[qaG] at hr
   rw[qaP]
   cases hx:qaG pure c1 n a s with
   | none=>rw[hx] at hr;cases hr
   | some x =>
     rw[iha s x hx]
     rw[hx] at hr
     obtain⟨e,s'⟩:=x
     cases e with
     | normal=>exact ihb _ r hr
     | _=>exact hr
 | cond c a b iha ihb =>
   intro s r hr
   rw[qaG] at hr
   rw[qaP]
   split
   ·rename_i t ht
    rw[ht] at hr
    cases t with
    | true=>exact iha s r hr
    | false=>exact ihb s r hr
   ·rename_i ht
    split at hr
    ·rename_i t ht'
     exact absurd ht' (ht t)
    ·cases hr
 | block id c ih =>
   intro s r hr
   rw[qaG] at hr
   rw[qaP]
   cases hx:qaG pure c1 n c s with
   | none=>rw[hx] at hr;cases hr
   | some x=>rw[ih s x hx];rw[hx] at hr;exact hr
 | loop c ih=>intro s;exact (qea ih (Nat.le_refl n) s).trans (qgw _ _ _)
 | gloop k c ih=>intro s;exact (qea (fun s1=>ih _) (Nat.le_refl n) s).trans (qgw _ _ _)
 | freeze t c ih=>intro s;exact ih _
 | view c ih=>intro s;exact ih _
 | range k b c ihb ihc=>intro s;exact qjP (fun l s=>qd2 hc l s) ihb ihc k s
 | frame k c ih =>
   intro s r hr
   rw[qaG] at hr
   rw[qaP]
   obtain⟨x,hx,rfl⟩:=Option.map_eq_some_iff.1 hr
   rw[ih s x hx]
   rfl
 | exit id=>intro s;exact Le.refl _
 | ret=>intro s;exact Le.refl _
 | stuck=>intro s;exact Le.refl _
section
variable {pure:Nat→Bool} {L:Lib}
theorem qhs {f:Nat} {a:List AVal} {h:Heap} {r:ARes × Heap} (hr:qcz pure (call L) f a h=some r):∃ n,qcz pure (qbJ L n) f a h=some r:=by
 unfold qcz at hr
 split at hr
 ·rename_i hp
  cases hx:call L f (a.map wipe) [] with
  | none=>rw[hx] at hr;cases hr
  | some x =>
    rw[hx] at hr
    obtain⟨n,hn⟩:=qc7.1 hx
    refine⟨n,?_⟩
    unfold qcz
    rw[if_pos hp,hn]
    exact hr
 ·rename_i hp
  unfold qkp at hr
  split at hr
  ·rename_i hq
   cases hx:call L f (a.map (ren fun i=>qax i (qbr a h) 0)) (qcw (qbr a h) h) with
   | none=>rw[hx] at hr;cases hr
   | some x =>
     rw[hx] at hr
     obtain⟨n,hn⟩:=qc7.1 hx
     refine⟨n,?_⟩
     unfold qcz qkp
     rw[if_neg hp,if_pos hq,hn]
     exact hr
  ·cases hr
theorem qln {o:AOp} {tm:Tmps} {h:Heap} {r:ARes × Heap} (hr:aOp pure (call L) o tm h=some r):∃ n,aOp pure (qbJ L n) o tm h=some r:=by
 cases o with
 | vcall f args =>
   simp only[aOp] at hr ⊢
   unfold qhQ at hr
   split at hr
   ·rename_i hp
    cases hx:call L f ((args.map (opd tm)).map (lookV h)) [] with
    | none=>rw[hx] at hr;cases hr
    | some x =>
      rw[hx] at hr
      obtain⟨n,hn⟩:=qc7.1 hx
      refine⟨n,?_⟩
      unfold qhQ
      rw[if_pos hp,hn]
      exact hr
   ·cases hr
 | hcall f args =>
   simp only[aOp] at hr ⊢
   split at hr
   ·rename_i hf
    exact qc7.1 hr
   ·cases hr
 | call f args =>
   simp only[aOp] at hr ⊢
   split at hr
   ·rename_i hf
    exact qhs hr
   ·cases hr
 | pcallV f args =>
   simp only[aOp] at hr ⊢
   split at hr
   ·rename_i hf
    unfold qjN at hr
    split at hr
    ·rename_i hc'
     unfold qar at hr
     split at hr
     ·rename_i v h' hd
      obtain⟨n,hn⟩:=qhs hd
      refine⟨n,?_⟩
      unfold qjN
      rw[if_pos hc',hn]
      exact hr
     ·cases hr
    ·cases hr
   ·cases hr
 | pcall f args =>
   simp only[aOp] at hr ⊢
   split at hr
   ·rename_i hc'
    unfold qar at hr
    split at hr
    ·rename_i v h' hd
     obtain⟨n,hn⟩:=qhs hd
     refine⟨n,?_⟩
     rw[if_pos hc',hn]
     exact hr
    ·cases hr
   ·cases hr
 | _=>exact⟨0,hr⟩
theorem qgD:∀ (l:List Step) {s:St} {r:AExit × St},qb0 pure (call L) l s=some r→∃ n,qb0 pure (qbJ L n) l s=some r:=by
 intro l
 induction l with
 | nil=>intro s r hr;exact⟨0,hr⟩
 | cons o rest ih =>
   intro s r hr
   rw[qb0] at hr
   split at hr
   ·rename_i hw
    cases hx:aOp pure (call L) o.op s.tm s.h with
    | none=>rw[hx] at hr;cases hr
    | some x =>
      rw[hx] at hr
      obtain⟨n,hn⟩:=qln hx
      obtain⟨v,h⟩:=x
      cases v with
      | val v =>
        obtain⟨m,hm⟩:=ih hr
        refine⟨max n m,?_⟩
        rw[qb0,hw]
        dsimp only
        rw[qfu (qcd L (Nat.le_max_left n m)) _ _ _ _ hn]
        exact qd2 (qcd L (Nat.le_max_right n m)) _ _ _ hm
      | panic v =>
        refine⟨n,?_⟩
        rw[qb0,hw]
        dsimp only
        rw[hn]
        exact hr
   ·rename_i hw
    obtain⟨m,hm⟩:=ih hr
    exact⟨m,by rw[qb0,hw];exact hm⟩
   ·cases hr
theorem qtA {o:AOp} {tm:Tmps} {h:Heap} {r:ARes × Heap} (hr:qir pure (call L) o tm h=some r):∃ n,qir pure (qbJ L n) o tm h=some r:=by
 cases o with
 | pcall f args =>
   simp only[qir] at hr ⊢
   unfold qmO at hr
   split at hr
   ·rename_i hp
    cases hx:call L f ((args.map (opd tm)).map wipe) [] with
    | none=>rw[hx] at hr;cases hr
    | some x =>
      rw[hx] at hr
      obtain⟨n,hn⟩:=qc7.1 hx
      refine⟨n,?_⟩
      unfold qmO
      rw[if_pos hp,hn]
      exact hr
   ·cases hr
 | append sz bytes x y =>
   simp only[qir] at hr ⊢
   split at hr
   ·rename_i hq
    refine⟨0,?_⟩
    rw[if_pos hq]
    exact hr
   ·rename_i hq
    obtain⟨n,hn⟩:=qln hr
    refine⟨n,?_⟩
    rw[if_neg hq]
    exact hn
 | _=>simp only[qir] at hr ⊢;exact qln hr
theorem qq2:∀ (l:List Step) {s:St} {r:AExit × St},qdN pure (call L) l s=some r→∃ n,qdN pure (qbJ L n) l s=some r:=by
 intro l
 induction l with
 | nil=>intro s r hr;exact⟨0,hr⟩
 | cons o rest ih =>
   intro s r hr
   rw[qdN] at hr
   split at hr
   ·rename_i hw
    cases hx:qir pure (call L) o.op s.tm s.h with
    | none=>rw[hx] at hr;cases hr
    | some x =>
      rw[hx] at hr
      obtain⟨n,hn⟩:=qtA hx
      obtain⟨v,h⟩:=x
      cases v with
      | val v =>
        obtain⟨m,hm⟩:=ih hr
        refine⟨max n m,?_⟩
        rw[qdN,hw]
        dsimp only
        rw[qme (qcd L (Nat.le_max_left n m)) _ _ _ _ hn]
        exact qhn (qcd L (Nat.le_max_right n m)) _ _ _ hm
      | panic v =>
        refine⟨n,?_⟩
        rw[qdN,hw]
        dsimp only
        rw[hn]
        exact hr
   ·rename_i hw
    obtain⟨m,hm⟩:=ih hr
    exact⟨m,by rw[qdN,hw];exact hm⟩
   ·cases hr
theorem qq1:∀ (l:List Step) {tm:Tmps} {hs:List Heap} {h:Heap} {r:Tmps × List Heap × Heap},qcQ pure (call L) l tm hs h=some r→∃ n,qcQ pure (qbJ L n) l tm hs h=some r:=by
 intro l
 induction l with
 | nil=>intro tm hs h r hr;exact⟨0,hr⟩
 | cons o rest ih =>
   intro tm hs h r hr
   rw[qcQ] at hr
   split at hr
   ·rename_i hw
    cases hx:aOp pure (call L) o.op tm h with
    | none=>rw[hx] at hr;cases hr
    | some x =>
      rw[hx] at hr
      obtain⟨n,hn⟩:=qln hx
      obtain⟨v,h'⟩:=x
      cases v with
      | val v =>
        obtain⟨m,hm⟩:=ih hr
        refine⟨max n m,?_⟩
        rw[qcQ,hw]
        dsimp only
        rw[qfu (qcd L (Nat.le_max_left n m)) _ _ _ _ hn]
        exact qkw (qcd L (Nat.le_max_right n m)) _ _ _ _ _ hm
      | panic v=>cases hr
   ·rename_i hw
    obtain⟨m,hm⟩:=ih hr
    exact⟨m,by rw[qcQ,hw];exact hm⟩
   ·cases hr
theorem qpz (c:ACode) (g:St→St) (ih:∀ {s:St} {r:AExit × St},qaP pure (call L) c s=some r→∃ n,qaG pure (qbJ L n) n c s=some r) {r:AExit × St} :
  ∀ k s,qde (fun s1=>qaP pure (call L) c (g s1)) k s=some r→∃ n,qde (fun s1=>qaG pure (qbJ L n) n c (g s1)) n s=some r:=by
 intro k
 induction k with
 | zero=>intro s h;cases h
 | succ k ihk =>
   intro s h
   rw[qde] at h
   cases hx:qaP pure (call L) c (g s) with
   | none=>rw[hx] at h;cases h
   | some x =>
     rw[hx] at h
     obtain⟨n,hn⟩:=ih hx
     obtain⟨e,s'⟩:=x
     cases e with
     | normal =>
       obtain⟨m,hm⟩:=ihk s' h
       refine⟨max n m+1,?_⟩
       rw[qde,qcp (qcd L (Nat.le_trans (Nat.le_max_left n m) (Nat.le_succ _))) (Nat.le_trans (Nat.le_max_left n m) (Nat.le_succ _)) _ _ _ hn]
       exact qea (fun s=>qcp (qcd L (Nat.le_trans (Nat.le_max_right n m) (Nat.le_succ _))) (Nat.le_trans (Nat.le_max_right n m) (Nat.le_succ _)) _ _) (Nat.le_max_right n m) _ _ hm
     | _ =>
       refine⟨n+1,?_⟩
       rw[qde,qcp (qcd L (Nat.le_succ n)) (Nat.le_succ n) _ _ _ hn]
       exact h
def qk8 (x:AVal × AVal):List (AVal × AVal)→List (List (AVal × AVal))
 | []=>[[x]]
 | y::ys=>(x::y::ys)::(qk8 x ys).map (y::·)
def qe1:List (AVal × AVal)→List (List (AVal × AVal))
 | []=>[[]]
 | x::xs=>(qe1 xs).flatMap (qk8 x)
theorem qkZ (x:AVal × AVal):∀ l r:List (AVal × AVal),l++x::r∈qk8 x (l++r)
 | [],[]=>by simp[qk8]
 | [],y::ys=>by simp[qk8]
 | y :: l,r => by
   simp only[List.cons_append,qk8,List.mem_cons,List.mem_map]
   exact .inr ⟨_,qkZ x l r,rfl⟩
theorem qhe:∀ (es es':List (AVal × AVal)),es'.Perm es→es'∈qe1 es
 | [],es',h=>by rw[h.eq_nil];simp[qe1]
 | x :: xs,es',h => by
   obtain⟨l,r,rfl⟩:=List.append_of_mem (h.mem_iff.2 (List.mem_cons_self ..))
   have h1:(l++r).Perm xs:=by
    have:=(List.perm_middle (a:=x) (l₁:=l) (l₂:=r)).symm.trans h
    exact this.cons_inv
   simp only[qe1,List.mem_flatMap]
   exact⟨_,qhe xs _ h1,qkZ x l r⟩
theorem qrL {α:Type} (Q:Nat→α→Prop) (hm:∀ n m a,n≤m→Q n a→Q m a):∀ (l:List α),(∀ a∈l,∃ n,Q n a)→∃ n,∀ a∈l,Q n a
 | [],_=>⟨0,fun a ha=>by cases ha⟩
 | a :: l,h => by
   obtain⟨n,hn⟩:=h a (by simp)
   obtain⟨m,hm'⟩:=qrL Q hm l fun b hb=>h b (by simp[hb])
   refine⟨max n m,fun b hb=>?_⟩
   rcases List.mem_cons.1 hb with rfl | hb
   ·exact hm _ _ _ (Nat.le_max_left n m) hn
   ·exact hm _ _ _ (Nat.le_max_right n m) (hm' b hb)
section
variable {b c:ACode}
theorem qd0 {n m:Nat} (h:n≤m) (l:List Step) (s:St):Le (qb0 pure (qbJ L n) l s) (qb0 pure (qbJ L m) l s):=qd2 (qcd L h) l s
theorem qdj {n m:Nat} (h:n≤m) (s:St):Le (qaG pure (qbJ L n) n b s) (qaG pure (qbJ L m) m b s):=qcp (qcd L h) h b s
theorem qkq (hb:∀ {s:St} {r:AExit × St},qaP pure (call L) b s=some r→∃ n,qaG pure (qbJ L n) n b s=some r) (i:Nat) (k:RangeK) (e:AVal × AVal) {s:St} {r:AExit × St}
  (hr:qa9 (qb0 pure (call L)) i k (qaP pure (call L) b) e s=some r):∃ n,qa9 (qb0 pure (qbJ L n)) i k (qaG pure (qbJ L n) n b) e s=some r:=by
 unfold qa9 at hr
 split at hr
 case isFalse=>cases hr
 rename_i g0
 cases hx:qb0 pure (call L) k.r1 ⟨upd s.tm (some k.dn) (.tuple [.bool true,e.1,e.2]),s.h⟩ with
 | none=>rw[hx] at hr;cases hr
 | some x =>
   rw[hx] at hr
   obtain⟨n1,hn1⟩:=qgD _ hx
   obtain⟨q,s1⟩:=x
   cases q with
   | normal =>
     dsimp only at hr
     split at hr
     case isFalse=>cases hr
     rename_i g1
     split at hr
     ·rename_i hq
      unfold qjZ at hr
      cases hy:qb0 pure (call L) k.r2 ⟨upd s1.tm k.de (.tuple [e.1,e.2]),s1.h⟩ with
      | none=>rw[hy] at hr;cases hr
      | some y =>
        rw[hy] at hr
        obtain⟨n2,hn2⟩:=qgD _ hy
        obtain⟨q2,s2⟩:=y
        cases q2 with
        | normal =>
          dsimp only at hr
          cases hz:qaP pure (call L) b s2 with
          | none=>rw[hz] at hr;cases hr
          | some z =>
            obtain⟨n3,hn3⟩:=hb hz
            rw[hz] at hr
            refine⟨max n1 (max n2 n3),?_⟩
            unfold qa9 qjZ
            rw[if_pos g0,qd0 (Nat.le_max_left _ _) _ _ _ hn1]
            dsimp only
            rw[if_pos g1,hq]
            dsimp only
            rw[qd0 (Nat.le_trans (Nat.le_max_left n2 n3) (Nat.le_max_right _ _)) _ _ _ hn2]
            dsimp only
            rw[qdj (Nat.le_trans (Nat.le_max_right n2 n3) (Nat.le_max_right _ _)) _ _ hn3]
            exact hr
        | _ =>
          refine⟨max n1 n2,?_⟩
          unfold qa9 qjZ
          rw[if_pos g0,qd0 (Nat.le_max_left _ _) _ _ _ hn1]
          dsimp only
          rw[if_pos g1,hq]
          dsimp only
          rw[qd0 (Nat.le_max_right _ _) _ _ _ hn2]
          exact hr
     ·cases hr
   | _=>cases hr
theorem qnk (i:Nat) (k:RangeK) {s:St} {r:AExit × St} (hr:qbB (qb0 pure (call L)) i k s=some r):∃ n,qbB (qb0 pure (qbJ L n)) i k s=some r:=by
 unfold qbB at hr
 split at hr
 case isFalse=>cases hr
 rename_i g0
 cases hx:qb0 pure (call L) k.r1 ⟨upd s.tm (some k.dn) (.tuple [.bool false]),s.h⟩ with
 | none=>rw[hx] at hr;cases hr
 | some x =>
   rw[hx] at hr
   obtain⟨n1,hn1⟩:=qgD _ hx
   exact⟨n1,by unfold qbB;rw[if_pos g0,hn1];exact hr⟩
theorem qid (hb:∀ {s:St} {r:AExit × St},qaP pure (call L) b s=some r→∃ n,qaG pure (qbJ L n) n b s=some r) (i:Nat) (k:RangeK):∀ (es:List (AVal × AVal)) {s:St} {r:AExit × St},
  qba (qb0 pure (call L)) i k (qaP pure (call L) b) es s=some r→∃ n,qba (qb0 pure (qbJ L n)) i k (qaG pure (qbJ L n) n b) es s=some r
 | [],s,r,hr=>qnk i k hr
 | e :: es,s,r,hr => by
   rw[qba] at hr
   cases hx:qa9 (qb0 pure (call L)) i k (qaP pure (call L) b) e (gc (i+1) k.kr s) with
   | none=>rw[hx] at hr;cases hr
   | some x =>
     rw[hx] at hr
     obtain⟨n,hn⟩:=qkq hb i k e hx
     obtain⟨q,s1⟩:=x
     cases q with
     | normal =>
       obtain⟨m,hm⟩:=qid hb i k es hr
       refine⟨max n m,?_⟩
       rw[qba,qfl (fun l s=>qd0 (Nat.le_max_left n m) l s) (fun s=>qdj (Nat.le_max_left n m) s) i k e _ _ hn]
       exact qdr (fun l s=>qd0 (Nat.le_max_right n m) l s) (fun s=>qdj (Nat.le_max_right n m) s) i k es _ _ hm
     | _=>exact⟨n,by rw[qba,hn];exact hr⟩
theorem qnl (hb:∀ {s:St} {r:AExit × St},qaP pure (call L) b s=some r→∃ n,qaG pure (qbJ L n) n b s=some r) (hc:∀ {s:St} {r:AExit × St},qaP pure (call L) c s=some r→∃ n,qaG pure (qbJ L n) n c s=some r)
  (k:RangeK) (s s1:St) (es:List (AVal × AVal)) {r:AExit × St} (hr:qci (qb0 pure (call L)) k (qaP pure (call L) b) (qaP pure (call L) c) s s1 es=some r) :
  ∃ n,qci (qb0 pure (qbJ L n)) k (qaG pure (qbJ L n) n b) (qaG pure (qbJ L n) n c) s s1 es=some r:=by
 unfold qci at hr
 obtain⟨x,hx,rfl⟩:=Option.map_eq_some_iff.1 hr
 cases hy:qba (qb0 pure (call L)) s1.h.length k (qaP pure (call L) b) es ⟨upd s1.tm (some k.it) (.ptr (some (s1.h.length,0))),qkk (opd s1.tm k.m) s1.h⟩ with
 | none=>rw[hy] at hx;cases hx
 | some y =>
   rw[hy] at hx
   obtain⟨n,hn⟩:=qid hb _ k es hy
   obtain⟨q,s2⟩:=y
   cases q with
   | normal =>
     obtain⟨m,hm⟩:=hc hx
     refine⟨max n m,?_⟩
     unfold qci
     rw[qdr (fun l s=>qd0 (Nat.le_max_left n m) l s) (fun s=>qdj (Nat.le_max_left n m) s) _ k es _ _ hn]
     dsimp only
     rw[qdj (Nat.le_max_right n m) _ _ hm]
     rfl
   | _ =>
     refine⟨n,?_⟩
     unfold qci
     rw[hn]
     dsimp only at hx ⊢
     rw[hx]
     rfl
end
theorem qqZ:∀ (c:ACode) {s:St} {r:AExit × St},qaP pure (call L) c s=some r→∃ n,qaG pure (qbJ L n) n c s=some r:=by
 intro c
 induction c with
 | skip=>intro s r hr;exact⟨0,hr⟩
 | ops l=>intro s r hr;exact qgD l hr
 | kops l=>intro s r hr;exact qq2 l hr
 | mdraw k l ns=>intro s r hr;exact⟨0,hr⟩
 | draw l cs =>
   intro s r hr
   rw[qaP] at hr
   unfold qge at hr
   cases hx:qcQ pure (call L) l s.tm [] s.h with
   | none=>rw[hx] at hr;cases hr
   | some x =>
     rw[hx] at hr
     obtain⟨n,hn⟩:=qq1 l hx
     exact⟨n,by rw[qaG];unfold qge;rw[hn];exact hr⟩
 | seq a b iha ihb =>
   intro s r hr
   rw[qaP] at hr
   cases hx:qaP pure (call L) a s with
   | none=>rw[hx] at hr;cases hr
   | some x =>
     rw[hx] at hr
     obtain⟨n,hn⟩:=iha hx
     obtain⟨e,s'⟩:=x
     cases e with
     | normal =>
       obtain⟨m,hm⟩:=ihb hr
       refine⟨max n m,?_⟩
       rw[qaG,qcp (qcd L (Nat.le_max_left n m)) (Nat.le_max_left n m) _ _ _ hn]
       exact qcp (qcd L (Nat.le_max_right n m)) (Nat.le_max_right n m) _ _ _ hm
     | _=>exact⟨n,by rw[qaG,hn];exact hr⟩
 | cond c a b iha ihb =>
   intro s r hr
   rw[qaP] at hr
   split at hr
   ·rename_i t ht
    cases t with
    | true =>
      obtain⟨n,hn⟩:=iha hr
      exact⟨n,by rw[qaG,ht];exact hn⟩
    | false =>
      obtain⟨n,hn⟩:=ihb hr
      exact⟨n,by rw[qaG,ht];exact hn⟩
   ·cases hr
 | block id c ih =>
   intro s r hr
   rw[qaP] at hr
   cases hx:qaP pure (call L) c s with
   | none=>rw[hx] at hr;cases hr
   | some x =>
     rw[hx] at hr
     obtain⟨n,hn⟩:=ih hx
     exact⟨n,by rw[qaG,hn];exact hr⟩
 | loop c ih =>
   intro s r hr
   rw[qaP] at hr
   obtain⟨k,hk⟩:=qcV.1 hr
   obtain⟨n,hn⟩:=qpz c (fun s=>s) (fun hx=>ih hx) k s hk
   exact⟨n,by rw[qaG];exact hn⟩
 | gloop kp c ih =>
   intro s r hr
   rw[qaP] at hr
   obtain⟨k,hk⟩:=qcV.1 hr
   obtain⟨n,hn⟩:=qpz c (fun s1=>gc s.h.length kp s1) (fun hx=>ih hx) k s hk
   exact⟨n,by rw[qaG];exact hn⟩
 | view c ih =>
   intro s r hr
   obtain⟨n,hn⟩:=ih hr
   exact⟨n,hn⟩
 | freeze t c ih =>
   intro s r hr
   obtain⟨n,hn⟩:=ih hr
   exact⟨n,hn⟩
 | range k b c ihb ihc =>
   intro s r hr
   rw[qaP,qeh] at hr
   cases hx:qb0 pure (call L) k.pre s with
   | none=>rw[hx] at hr;cases hr
   | some x =>
     rw[hx] at hr
     obtain⟨n,hn⟩:=qgD _ hx
     obtain⟨q,s1⟩:=x
     cases q with
     | normal =>
       dsimp only at hr
       split at hr
       ·rename_i es hes
        have h1:=(qcq (qbG _ _)).1 hr
        obtain⟨m,hm⟩:=qrL (fun n es'=>qcb k.str es es'→qci (qb0 pure (qbJ L n)) k (qaG pure (qbJ L n) n b) (qaG pure (qbJ L n) n c) s s1 es'=some r)
         (fun n m a hnm h ho=>qeI (fun l s=>qd0 hnm l s) (fun s=>qdj hnm s) (fun s=>qdj hnm s) k s s1 a r (h ho)) (es::qe1 es)
         (fun a _=>by
          by_cases ho:qcb k.str es a
          ·obtain⟨n,hn⟩:=qnl ihb ihc k s s1 a (h1 a ho)
           exact⟨n,fun _=>hn⟩
          ·exact⟨0,fun h=>absurd h ho⟩)
        refine⟨max n m,?_⟩
        rw[qaG,qeh,qd0 (Nat.le_max_left n m) _ _ _ hn]
        dsimp only
        rw[hes]
        dsimp only
        refine (qcq (qbG _ _)).2 fun es' he=>?_
        refine qeI (fun l s=>qd0 (Nat.le_max_right n m) l s) (fun s=>qdj (Nat.le_max_right n m) s) (fun s=>qdj (Nat.le_max_right n m) s) k s s1 es' r (hm es' ?_ he)
        unfold qcb at he
        split at he
        ·rw[he];simp
        ·exact List.mem_cons_of_mem _ (qhe es es' he)
       ·cases hr
     | _=>cases hr
 | frame kp c ih =>
   intro s r hr
   rw[qaP] at hr
   obtain⟨x,hx,rfl⟩:=Option.map_eq_some_iff.1 hr
   obtain⟨n,hn⟩:=ih hx
   exact⟨n,by rw[qaG,hn];rfl⟩
 | exit id=>intro s r hr;exact⟨0,hr⟩
 | ret=>intro s r hr;exact⟨0,hr⟩
 | stuck=>intro s r hr;exact⟨0,hr⟩
end
theorem qaA {L:Lib} {f:Nat} {fn:AFn} (hs:L.summ f=none) (hf:L.fns f=some fn) {a:List AVal} {h:Heap} {r:ARes × Heap}
  (hr:qan fn.results (qaP L.pure (call L) fn.body ⟨qdF a,h⟩)=some r):call L f a h=some r:=by
 cases hx:qaP L.pure (call L) fn.body ⟨qdF a,h⟩ with
 | none=>rw[hx] at hr;cases hr
 | some x =>
   rw[hx] at hr
   obtain⟨n,hn⟩:=qqZ _ hx
   refine qc7.2 ⟨n+1,?_⟩
   rw[qbJ,hs]
   dsimp only
   rw[hf]
   dsimp only
   rw[hn]
   exact hr
theorem qgL {L:Lib} {f:Nat} {s:List AVal→Heap→Option (ARes × Heap)} (hs:L.summ f=some s) {a:List AVal} {h:Heap} {r:ARes × Heap} (hr:s a h=some r):call L f a h=some r :=
 qc7.2 ⟨1,by rw[qbJ,hs];exact hr⟩
end Go.Abs
