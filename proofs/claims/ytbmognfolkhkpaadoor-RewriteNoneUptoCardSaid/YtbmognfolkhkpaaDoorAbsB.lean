/-
  The abstract machine without bounds: calls and loops as limits of the bounded ones; each is what its body says.
-/
import Derived.Test.YtbmognfolkhkpaaDoorAbsA
set_option linter.unusedVariables false
namespace Go.Abs
def Le {α : Type} (x y : Option α) : Prop := ∀ r,x = some r → y = some r
theorem Le.refl {α : Type} (x : Option α) : Le x x := fun _ h => h
theorem Le.trans {α : Type} {x y z : Option α} (h : Le x y) (h' : Le y z) : Le x z := fun r e => h' r (h r e)
theorem Le.none {α : Type} (y : Option α) : Le (Option.none : Option α) y := fun _ h => by cases h
open Classical in
noncomputable def lim {α : Type} (f : Nat → Option α) : Option α := if h : ∃ n,(f n).isSome = true then f (Classical.choose h) else none
theorem ql1 {α : Type} {f : Nat → Option α} (hm : ∀ n,Le (f n) (f (n + 1))) : ∀ {a b : Nat},a ≤ b → Le (f a) (f b) := by
 intro a b hab
 induction hab with
 | refl => exact Le.refl _
 | step _ ih => exact ih.trans (hm _)
theorem qpm {α : Type} {f : Nat → Option α} (hm : ∀ n,Le (f n) (f (n + 1))) {r : α} : lim f = some r ↔ ∃ n,f n = some r := by
 constructor
 ·intro h
  unfold lim at h
  split at h
  ·exact ⟨_,h⟩
  ·cases h
 ·rintro ⟨n,hn⟩
  have hx : ∃ n,(f n).isSome = true := ⟨n,by rw [hn]; rfl⟩
  unfold lim
  rw [dif_pos hx]
  have h1 := Classical.choose_spec hx
  obtain ⟨r',hr'⟩ := Option.isSome_iff_exists.1 h1
  rw [hr']
  have a := ql1 hm (Nat.le_max_left n (Classical.choose hx)) r hn
  have b := ql1 hm (Nat.le_max_right n (Classical.choose hx)) r' hr'
  rw [a] at b
  injection b with b
  rw [b]
theorem qlb (body : St → Option (AExit × St)) : ∀ n s,Le (qd6 body n s) (qd6 body (n + 1) s) := by
 intro n
 induction n with
 | zero => intro s r h; cases h
 | succ n ih =>
   intro s r h
   rw [qd6] at h ⊢
   split
   ·rename_i s' hb
    rw [hb] at h
    exact ih s' r h
   ·rename_i r' hr'
    split at h
    ·rename_i s' hs'
     exact absurd hs' (hr' s')
    ·exact h
theorem qeV {b1 b2 : St → Option (AExit × St)} (hb : ∀ s,Le (b1 s) (b2 s)) : ∀ {n m : Nat},n ≤ m → ∀ s,Le (qd6 b1 n s) (qd6 b2 m s) := by
 intro n m hnm s
 refine Le.trans ?_ (ql1 (f := fun k => qd6 b2 k s) (fun k => qlb b2 k s) hnm)
 clear hnm
 induction n generalizing s with
 | zero => intro r h; cases h
 | succ n ih =>
   intro r h
   rw [qd6] at h ⊢
   cases hx : b1 s with
   | none => rw [hx] at h; cases h
   | some x =>
     rw [hb s x hx]
     rw [hx] at h
     obtain ⟨e,s'⟩ := x
     cases e with
     | normal => exact ih s' r h
     | _ => exact h
section
variable {pure : Nat → Bool} {c1 c2 : CallT}
theorem qqe (hc : ∀ f a h,Le (c1 f a h) (c2 f a h)) (f : Nat) (a : List AVal) (h : Heap) : Le (qkG c1 f a h) (qkG c2 f a h) := by
 intro r hr
 unfold qkG at hr ⊢
 split
 ·rename_i hp
  rw [if_pos hp] at hr
  cases hx : c1 f (a.map (ren fun i => qa3 i (qcm a h) 0)) (qdo (qcm a h) h) with
  | none => rw [hx] at hr; cases hr
  | some x => rw [hc _ _ _ x hx]; rw [hx] at hr; exact hr
 ·rename_i hp
  rw [if_neg hp] at hr
  cases hr
theorem qgX (hc : ∀ f a h,Le (c1 f a h) (c2 f a h)) (f : Nat) (a : List AVal) (h : Heap) : Le (qdr pure c1 f a h) (qdr pure c2 f a h) := by
 intro r hr
 unfold qdr at hr ⊢
 split
 ·rename_i hp
  rw [if_pos hp] at hr
  cases hx : c1 f (a.map wipe) [] with
  | none => rw [hx] at hr; cases hr
  | some x => rw [hc _ _ _ x hx]; rw [hx] at hr; exact hr
 ·rename_i hp
  rw [if_neg hp] at hr
  exact qqe hc _ _ _ _ hr
theorem qqc (hc : ∀ f a h,Le (c1 f a h) (c2 f a h)) (g : Nat) (xs : List AVal) (h : Heap) : Le (qkb pure c1 g xs h) (qkb pure c2 g xs h) := by
 intro r hr
 unfold qkb at hr ⊢
 split
 ·rename_i hc'
  rw [if_pos hc'] at hr
  unfold qa5 at hr ⊢
  split at hr
  ·rename_i v h' hd
   rw [qgX hc _ _ _ _ hd]
   exact hr
  ·cases hr
 ·rename_i hc'
  rw [if_neg hc'] at hr
  cases hr
theorem qqp (hc : ∀ f a h,Le (c1 f a h) (c2 f a h)) (f : Nat) (a : List AVal) (h : Heap) : Le (qiW c1 f a h) (qiW c2 f a h) := by
 intro r hr
 unfold qiW at hr ⊢
 split
 ·rename_i hp
  rw [if_pos hp] at hr
  cases hx : c1 f (a.map (lookV h)) [] with
  | none => rw [hx] at hr; cases hr
  | some x => rw [hc _ _ _ x hx]; rw [hx] at hr; exact hr
 ·rename_i hp
  rw [if_neg hp] at hr
  cases hr
theorem qf7 (hc : ∀ f a h,Le (c1 f a h) (c2 f a h)) (o : AOp) (tm : Tmps) (h : Heap) : Le (aOp pure c1 o tm h) (aOp pure c2 o tm h) := by
 intro r hr
 cases o with
 | vcall f args => exact qqp hc _ _ _ _ hr
 | hcall f args =>
   simp only [aOp] at hr ⊢
   split
   ·rename_i hf
    rw [hf] at hr
    exact hc _ _ _ _ hr
   ·rename_i hf
    split at hr
    ·rename_i hf'
     exact absurd hf' (hf _ _ _)
    ·cases hr
 | call f args =>
   simp only [aOp] at hr ⊢
   split
   ·rename_i hf
    rw [hf] at hr
    exact qgX hc _ _ _ _ hr
   ·rename_i hf
    split at hr
    ·rename_i hf'
     exact absurd hf' (hf _ _ _)
    ·cases hr
 | pcallV f args =>
   simp only [aOp] at hr ⊢
   split
   ·rename_i hf
    rw [hf] at hr
    exact qqc hc _ _ _ _ hr
   ·rename_i hf
    split at hr
    ·rename_i hf'
     exact absurd hf' (hf _ _ _)
    ·cases hr
 | pcall f args =>
   simp only [aOp] at hr ⊢
   split
   ·rename_i hc'
    rw [if_pos hc'] at hr
    unfold qa5 at hr ⊢
    split at hr
    ·rename_i v h' hd
     rw [qgX hc _ _ _ _ hd]
     exact hr
    ·cases hr
   ·rename_i hc'
    rw [if_neg hc'] at hr
    cases hr
 | _ => exact hr
theorem qeK (hc : ∀ f a h,Le (c1 f a h) (c2 f a h)) : ∀ (l : List Step) (s : St),Le (qcR pure c1 l s) (qcR pure c2 l s) := by
 intro l
 induction l with
 | nil => intro s; exact Le.refl _
 | cons o rest ih =>
   intro s r hr
   rw [qcR] at hr ⊢
   split
   ·rename_i hw
    rw [hw] at hr
    dsimp only at hr
    cases hx : aOp pure c1 o.op s.tm s.h with
    | none => rw [hx] at hr; cases hr
    | some x =>
      rw [qf7 hc _ _ _ x hx]
      rw [hx] at hr
      obtain ⟨v,h⟩ := x
      cases v with
      | val v => exact ih _ r hr
      | panic v => exact hr
   ·rename_i hw
    rw [hw] at hr
    exact ih _ r hr
   ·rename_i hw
    rw [hw] at hr
    cases hr
theorem qp2 (hc : ∀ f a h,Le (c1 f a h) (c2 f a h)) (f : Nat) (a : List AVal) (h : Heap) : Le (qmW c1 f a h) (qmW c2 f a h) := by
 intro r hr
 unfold qmW at hr ⊢
 split
 ·rename_i hp
  rw [if_pos hp] at hr
  cases hx : c1 f (a.map wipe) [] with
  | none => rw [hx] at hr; cases hr
  | some x => rw [hc _ _ _ x hx]; rw [hx] at hr; exact hr
 ·rename_i hp
  rw [if_neg hp] at hr
  cases hr
theorem qmp (hc : ∀ f a h,Le (c1 f a h) (c2 f a h)) (o : AOp) (tm : Tmps) (h : Heap) : Le (qjl pure c1 o tm h) (qjl pure c2 o tm h) := by
 intro r hr
 cases o with
 | pcall f args => exact qp2 hc _ _ _ _ hr
 | append sz bytes x y =>
   simp only [qjl] at hr ⊢
   split
   ·rename_i hq
    rw [if_pos hq] at hr
    exact hr
   ·rename_i hq
    rw [if_neg hq] at hr
    exact qf7 hc _ tm h r hr
 | _ => simp only [qjl] at hr ⊢; exact qf7 hc _ tm h r hr
theorem qhV (hc : ∀ f a h,Le (c1 f a h) (c2 f a h)) : ∀ (l : List Step) (s : St),Le (qez pure c1 l s) (qez pure c2 l s) := by
 intro l
 induction l with
 | nil => intro s; exact Le.refl _
 | cons o rest ih =>
   intro s r hr
   rw [qez] at hr ⊢
   split
   ·rename_i hw
    rw [hw] at hr
    dsimp only at hr
    cases hx : qjl pure c1 o.op s.tm s.h with
    | none => rw [hx] at hr; cases hr
    | some x =>
      rw [qmp hc _ _ _ x hx]
      rw [hx] at hr
      obtain ⟨v,h⟩ := x
      cases v with
      | val v => exact ih _ r hr
      | panic v => exact hr
   ·rename_i hw
    rw [hw] at hr
    exact ih _ r hr
   ·rename_i hw
    rw [hw] at hr
    cases hr
theorem qkO (hc : ∀ f a h,Le (c1 f a h) (c2 f a h)) : ∀ (l : List Step) (tm : Tmps) (hs : List Heap) (h : Heap),Le (qdM pure c1 l tm hs h) (qdM pure c2 l tm hs h) := by
 intro l
 induction l with
 | nil => intro tm hs h; exact Le.refl _
 | cons o rest ih =>
   intro tm hs h r hr
   rw [qdM] at hr ⊢
   split
   ·rename_i hw
    rw [hw] at hr
    dsimp only at hr
    cases hx : aOp pure c1 o.op tm h with
    | none => rw [hx] at hr; cases hr
    | some x =>
      rw [qf7 hc _ _ _ x hx]
      rw [hx] at hr
      obtain ⟨v,h'⟩ := x
      cases v with
      | val v => exact ih _ _ _ r hr
      | panic v => exact hr
   ·rename_i hw
    rw [hw] at hr
    exact ih _ _ _ r hr
   ·rename_i hw
    rw [hw] at hr
    cases hr
section
variable {o1 o2 : List Step → St → Option (AExit × St)} {b1 b2 c1' c2' : St → Option (AExit × St)}
theorem qmx {id : Nat} {x y : Option (AExit × St)} (h : Le x y) : Le (qd4 id x) (qd4 id y) := by
 intro r hr
 cases x with
 | none => cases hr
 | some x => rw [h x rfl]; exact hr
theorem qf0 (ho : ∀ l s,Le (o1 l s) (o2 l s)) (hb : ∀ s,Le (b1 s) (b2 s)) (n : Nat) (k : RangeK) (e : AVal × AVal) (s : St) : Le (qbQ o1 n k b1 e s) (qbQ o2 n k b2 e s) := by
 intro r hr
 unfold qbQ at hr ⊢
 split
 case isFalse h0 => rw [if_neg h0] at hr; cases hr
 rename_i h0
 rw [if_pos h0] at hr
 cases hx : o1 k.r1 ⟨upd s.tm (some k.dn) (.tuple [.bool true,e.1,e.2]),s.h⟩ with
 | none => rw [hx] at hr; cases hr
 | some x =>
   rw [ho _ _ x hx]
   rw [hx] at hr
   obtain ⟨q,s1⟩ := x
   cases q with
   | normal =>
     dsimp only at hr ⊢
     split
     case isFalse h1 => rw [if_neg h1] at hr; cases hr
     rename_i h1
     rw [if_pos h1] at hr
     split
     ·rename_i hq
      rw [hq] at hr
      refine qmx (id := k.id2) ?_ r hr
      intro r2 hr2
      unfold qkk at hr2 ⊢
      cases hy : o1 k.r2 ⟨upd s1.tm k.de (.tuple [e.1,e.2]),s1.h⟩ with
      | none => rw [hy] at hr2; cases hr2
      | some y =>
        rw [ho _ _ y hy]
        rw [hy] at hr2
        obtain ⟨q2,s2⟩ := y
        cases q2 with
        | normal => exact hb _ r2 hr2
        | _ => exact hr2
     ·rename_i hq
      split at hr
      ·rename_i hq'
       exact absurd hq' hq
      ·cases hr
   | _ => cases hr
theorem ql7 (ho : ∀ l s,Le (o1 l s) (o2 l s)) (n : Nat) (k : RangeK) (s : St) : Le (qcr o1 n k s) (qcr o2 n k s) := by
 intro r hr
 unfold qcr at hr ⊢
 split
 case isFalse h0 => rw [if_neg h0] at hr; cases hr
 rename_i h0
 rw [if_pos h0] at hr
 cases hx : o1 k.r1 ⟨upd s.tm (some k.dn) (.tuple [.bool false]),s.h⟩ with
 | none => rw [hx] at hr; cases hr
 | some x =>
   rw [ho _ _ x hx]
   rw [hx] at hr
   exact hr
theorem qeg (ho : ∀ l s,Le (o1 l s) (o2 l s)) (hb : ∀ s,Le (b1 s) (b2 s)) (n : Nat) (k : RangeK) : ∀ (es : List (AVal × AVal)) (s : St),Le (qbS o1 n k b1 es s) (qbS o2 n k b2 es s)
 | [],s => ql7 ho n k _
 | e :: es,s => by
   intro r hr
   rw [qbS] at hr ⊢
   cases hx : qbQ o1 n k b1 e (gc (n + 1) k.kr s) with
   | none => rw [hx] at hr; cases hr
   | some x =>
     rw [qf0 ho hb n k e _ x hx]
     rw [hx] at hr
     obtain ⟨q,s1⟩ := x
     cases q with
     | normal => exact qeg ho hb n k es s1 r hr
     | _ => exact hr
theorem qdh {O : List (AVal × AVal) → Prop} (hO : ∃ es,O es) {f : List (AVal × AVal) → Option (AExit × St)} {r : AExit × St} : qmt O f = some r ↔ ∀ es,O es → f es = some r := by
 constructor
 ·intro h
  unfold qmt at h
  split at h
  ·rename_i hx
   injection h with h
   rw [← h]
   exact Classical.choose_spec hx
  ·cases h
 ·intro h
  have hx : ∃ r,∀ es,O es → f es = some r := ⟨r,h⟩
  unfold qmt
  rw [dif_pos hx]
  obtain ⟨es,he⟩ := hO
  have h1 := Classical.choose_spec hx es he
  rw [h es he] at h1
  exact h1.symm
theorem qcu (str : Bool) (es : List (AVal × AVal)) : ∃ es',qc0 str es es' := ⟨es,by unfold qc0; split <;> first | rfl | exact .refl _⟩
def qda (ops : List Step → St → Option (AExit × St)) (k : RangeK) (runB runC : St → Option (AExit × St)) (s s1 : St) (es : List (AVal × AVal)) : Option (AExit × St) :=
 (match qbS ops s1.h.length k runB es ⟨upd s1.tm (some k.it) (.ptr (some (s1.h.length,0))),qkD (opd s1.tm k.m) s1.h⟩ with
  | some (.normal,s2) => runC ⟨s2.tm,qc4 (opd s1.tm k.m) s1.h s2.h⟩
  | some (e,s2) => some (e,⟨s2.tm,qc4 (opd s1.tm k.m) s1.h s2.h⟩)
  | none => none).map (gcE s.h.length k.keep)
theorem qe1 (ops : List Step → St → Option (AExit × St)) (k : RangeK) (runB runC : St → Option (AExit × St)) (s : St) : qkc ops k runB runC s = match ops k.pre s with
 | some (.normal,s1) => (match qdc k.str (opd s1.tm k.m) s1.h with
   | some es => qmt (qc0 k.str es) (qda ops k runB runC s s1)
   | none => none)
 | _ => none := rfl
theorem qfr (ho : ∀ l s,Le (o1 l s) (o2 l s)) (hb : ∀ s,Le (b1 s) (b2 s)) (hc : ∀ s,Le (c1' s) (c2' s)) (k : RangeK) (s s1 : St) (es : List (AVal × AVal)) : Le (qda o1 k b1 c1' s s1 es) (qda o2 k b2 c2' s s1 es) := by
 intro r hr
 unfold qda at hr ⊢
 obtain ⟨x,hx,rfl⟩ := Option.map_eq_some_iff.1 hr
 refine Option.map_eq_some_iff.2 ⟨x,?_,rfl⟩
 cases hy : qbS o1 s1.h.length k b1 es ⟨upd s1.tm (some k.it) (.ptr (some (s1.h.length,0))),qkD (opd s1.tm k.m) s1.h⟩ with
 | none => rw [hy] at hx; cases hx
 | some y =>
   rw [qeg ho hb _ k _ _ y hy]
   rw [hy] at hx
   obtain ⟨q,s2⟩ := y
   cases q with
   | normal => exact hc _ x hx
   | _ => exact hx
theorem qkd (ho : ∀ l s,Le (o1 l s) (o2 l s)) (hb : ∀ s,Le (b1 s) (b2 s)) (hc : ∀ s,Le (c1' s) (c2' s)) (k : RangeK) (s : St) : Le (qkc o1 k b1 c1' s) (qkc o2 k b2 c2' s) := by
 intro r hr
 rw [qe1] at hr ⊢
 cases hx : o1 k.pre s with
 | none => rw [hx] at hr; cases hr
 | some x =>
   rw [ho _ _ x hx]
   rw [hx] at hr
   obtain ⟨q,s1⟩ := x
   cases q with
   | normal =>
     dsimp only at hr ⊢
     split
     ·rename_i es hes
      rw [hes] at hr
      have h1 := (qdh (qcu _ _)).1 hr
      exact (qdh (qcu _ _)).2 fun es' he => qfr ho hb hc k s s1 es' r (h1 es' he)
     ·rename_i hes
      rw [hes] at hr
      cases hr
   | _ => cases hr
end
theorem qkN (hc : ∀ f a h,Le (c1 f a h) (c2 f a h)) (l : List Step) (cs : List (Nat × Nat × Nat)) (s : St) : Le (qgL pure c1 l cs s) (qgL pure c2 l cs s) := by
 intro r hr
 unfold qgL at hr ⊢
 cases hx : qdM pure c1 l s.tm [] s.h with
 | none => rw [hx] at hr; cases hr
 | some x => rw [qkO hc _ _ _ _ x hx]; rw [hx] at hr; exact hr
theorem qdf (hc : ∀ f a h,Le (c1 f a h) (c2 f a h)) {n m : Nat} (hnm : n ≤ m) : ∀ (c : ACode) (s : St),Le (qbe pure c1 n c s) (qbe pure c2 m c s) := by
 intro c
 induction c with
 | skip => intro s; exact Le.refl _
 | ops l => intro s; exact qeK hc l s
 | draw l cs => intro s; exact qkN hc l cs s
 | kops l => intro s; exact qhV hc l s
 | mdraw k l ns => intro s; exact Le.refl _
 | seq a b iha ihb =>
   intro s r hr
   rw [qbe] at hr ⊢
   cases hx : qbe pure c1 n a s with
   | none => rw [hx] at hr; cases hr
   | some x =>
     rw [iha s x hx]
     rw [hx] at hr
     obtain ⟨e,s'⟩ := x
     cases e with
     | normal => exact ihb _ r hr
     | _ => exact hr
 | cond c a b iha ihb =>
   intro s r hr
   rw [qbe] at hr ⊢
   split
   ·rename_i t ht
    rw [ht] at hr
    cases t with
    | true => exact iha s r hr
    | false => exact ihb s r hr
   ·rename_i ht
    split at hr
    ·rename_i t ht'
     exact absurd ht' (ht t)
    ·cases hr
 | block id c ih =>
   intro s r hr
   rw [qbe] at hr ⊢
   cases hx : qbe pure c1 n c s with
   | none => rw [hx] at hr; cases hr
   | some x => rw [ih s x hx]; rw [hx] at hr; exact hr
 | loop c ih => intro s; exact qeV ih hnm s
 | gloop k c ih => intro s; exact qeV (fun s1 => ih _) hnm s
 | freeze t c ih => intro s; exact ih _
 | view c ih => intro s; exact ih _
 | range k b c ihb ihc => intro s; exact qkd (fun l s => qeK hc l s) ihb ihc k s
 | frame k c ih =>
   intro s r hr
   rw [qbe] at hr ⊢
   obtain ⟨x,hx,rfl⟩ := Option.map_eq_some_iff.1 hr
   rw [ih s x hx]
   rfl
 | exit id => intro s; exact Le.refl _
 | ret => intro s; exact Le.refl _
 | stuck => intro s; exact Le.refl _
end
theorem qpV {rs : List ARVar} {x y : Option (AExit × St)} (h : Le x y) : Le (qaQ rs x) (qaQ rs y) := by
 intro r hr
 cases x with
 | none => cases hr
 | some x => rw [h x rfl]; exact hr
theorem qkU (L : Lib) : ∀ n f a h,Le (qcy L n f a h) (qcy L (n + 1) f a h) := by
 intro n
 induction n with
 | zero => intro f a h r hr; cases hr
 | succ n ih =>
   intro f a h r hr
   rw [qcy] at hr ⊢
   split
   ·rename_i s hs
    rw [hs] at hr
    exact hr
   ·rename_i hs
    rw [hs] at hr
    dsimp only at hr
    split
    ·rename_i fn hfn
     rw [hfn] at hr
     exact qpV (qdf ih (Nat.le_succ n) _ _) r hr
    ·rename_i hfn
     rw [hfn] at hr
     cases hr
theorem qc6 (L : Lib) {n m : Nat} (h : n ≤ m) (f : Nat) (a : List AVal) (hp : Heap) : Le (qcy L n f a hp) (qcy L m f a hp) :=
 ql1 (f := fun k => qcy L k f a hp) (fun k => qkU L k f a hp) h
noncomputable def call (L : Lib) : CallT := fun f a h => lim fun n => qcy L n f a h
theorem qdY {L : Lib} {f : Nat} {a : List AVal} {h : Heap} {r : ARes × Heap} : call L f a h = some r ↔ ∃ n,qcy L n f a h = some r :=
 qpm fun n => qkU L n f a h
noncomputable def qj1 (body : St → Option (AExit × St)) (s : St) : Option (AExit × St) := lim fun n => qd6 body n s
theorem qdP {body : St → Option (AExit × St)} {s : St} {r : AExit × St} : qj1 body s = some r ↔ ∃ n,qd6 body n s = some r := qpm fun n => qlb body n s
theorem qg3 (body : St → Option (AExit × St)) (n : Nat) (s : St) : Le (qd6 body n s) (qj1 body s) := fun _ hr => qdP.2 ⟨n,hr⟩
theorem qpp (body : St → Option (AExit × St)) (s : St) : qj1 body s = match body s with | some (.normal,s') => qj1 body s' | r => r := by
 have key : ∀ r,qj1 body s = some r ↔ (match body s with | some (.normal,s') => qj1 body s' | r => r) = some r := by
  intro r
  constructor
  ·intro h
   obtain ⟨n,hn⟩ := qdP.1 h
   cases n with
   | zero => cases hn
   | succ n =>
     rw [qd6] at hn
     split at hn
     ·rename_i s' hs'
      rw [hs']
      exact qg3 _ _ _ _ hn
     ·rename_i x hx
      split
      ·rename_i s' hs'
       exact absurd hs' (hx s')
      ·exact hn
  ·intro h
   split at h
   ·rename_i s' hs'
    obtain ⟨n,hn⟩ := qdP.1 h
    exact qdP.2 ⟨n + 1,by rw [qd6,hs']; exact hn⟩
   ·rename_i x hx
    refine qdP.2 ⟨1,?_⟩
    rw [qd6]
    split
    ·rename_i s' hs'
     exact absurd hs' (hx s')
    ·exact h
 cases hx : qj1 body s with
 | some r => exact ((key r).1 hx).symm
 | none =>
   cases hy : (match body s with | some (.normal,s') => qj1 body s' | r => r) with
   | none => rfl
   | some r => rw [(key r).2 hy] at hx; cases hx
noncomputable def qby (pure : Nat → Bool) (call : CallT) : ACode → St → Option (AExit × St)
 | .skip,s => some (.normal,s)
 | .ops l,s => qcR pure call l s
 | .draw l cs,s => qgL pure call l cs s
 | .kops l,s => qez pure call l s
 | .mdraw k l ns,s => qsw k l ns s
 | .seq a b,s =>
   (match qby pure call a s with
   | some (.normal,s') => qby pure call b s'
   | r => r)
 | .cond c a b,s => (match opd s.tm c with | .bool t => if t then qby pure call a s else qby pure call b s | _ => none)
 | .block id c,s =>
   (match qby pure call c s with
   | some (.exit id',s') => if id' = id then some (.normal,s') else some (.exit id',s')
   | r => r)
 | .loop c,s => qj1 (qby pure call c) s
 | .gloop k c,s => qj1 (fun s1 => qby pure call c (gc s.h.length k s1)) s
 | .frame k c,s => (qby pure call c s).map (gcE s.h.length k)
 | .freeze t c,s => qby pure call c (qfk t s)
 | .view c,s => qby pure call c (qnO s)
 | .range k b c,s => qkc (qcR pure call) k (qby pure call b) (qby pure call c) s
 | .exit id,s => some (.exit id,s)
 | .ret,s => some (.ret,s)
 | .stuck,_ => none
theorem qmn {pure : Nat → Bool} {c1 c2 : CallT} (hc : ∀ f a h,Le (c1 f a h) (c2 f a h)) (n : Nat) : ∀ (c : ACode) (s : St),Le (qbe pure c1 n c s) (qby pure c2 c s) := by
 intro c
 induction c with
 | skip => intro s; exact Le.refl _
 | ops l => intro s; exact qeK hc l s
 | draw l cs => intro s; exact qkN hc l cs s
 | kops l => intro s; exact qhV hc l s
 | mdraw k l ns => intro s; exact Le.refl _
 | seq a b iha ihb =>
   intro s r hr
   rw [qbe] at hr
   rw [qby]
   cases hx : qbe pure c1 n a s with
   | none => rw [hx] at hr; cases hr
   | some x =>
     rw [iha s x hx]
     rw [hx] at hr
     obtain ⟨e,s'⟩ := x
     cases e with
     | normal => exact ihb _ r hr
     | _ => exact hr
 | cond c a b iha ihb =>
   intro s r hr
   rw [qbe] at hr
   rw [qby]
   split
   ·rename_i t ht
    rw [ht] at hr
    cases t with
    | true => exact iha s r hr
    | false => exact ihb s r hr
   ·rename_i ht
    split at hr
    ·rename_i t ht'
     exact absurd ht' (ht t)
    ·cases hr
 | block id c ih =>
   intro s r hr
   rw [qbe] at hr
   rw [qby]
   cases hx : qbe pure c1 n c s with
   | none => rw [hx] at hr; cases hr
   | some x => rw [ih s x hx]; rw [hx] at hr; exact hr
 | loop c ih => intro s; exact (qeV ih (Nat.le_refl n) s).trans (qg3 _ _ _)
 | gloop k c ih => intro s; exact (qeV (fun s1 => ih _) (Nat.le_refl n) s).trans (qg3 _ _ _)
 | freeze t c ih => intro s; exact ih _
 | view c ih => intro s; exact ih _
 | range k b c ihb ihc => intro s; exact qkd (fun l s => qeK hc l s) ihb ihc k s
 | frame k c ih =>
   intro s r hr
   rw [qbe] at hr
   rw [qby]
   obtain ⟨x,hx,rfl⟩ := Option.map_eq_some_iff.1 hr
   rw [ih s x hx]
   rfl
 | exit id => intro s; exact Le.refl _
 | ret => intro s; exact Le.refl _
 | stuck => intro s; exact Le.refl _
section
variable {pure : Nat → Bool} {L : Lib}
theorem qh1 {f : Nat} {a : List AVal} {h : Heap} {r : ARes × Heap} (hr : qdr pure (call L) f a h = some r) : ∃ n,qdr pure (qcy L n) f a h = some r := by
 unfold qdr at hr
 split at hr
 ·rename_i hp
  cases hx : call L f (a.map wipe) [] with
  | none => rw [hx] at hr; cases hr
  | some x =>
    rw [hx] at hr
    obtain ⟨n,hn⟩ := qdY.1 hx
    refine ⟨n,?_⟩
    unfold qdr
    rw [if_pos hp,hn]
    exact hr
 ·rename_i hp
  unfold qkG at hr
  split at hr
  ·rename_i hq
   cases hx : call L f (a.map (ren fun i => qa3 i (qcm a h) 0)) (qdo (qcm a h) h) with
   | none => rw [hx] at hr; cases hr
   | some x =>
     rw [hx] at hr
     obtain ⟨n,hn⟩ := qdY.1 hx
     refine ⟨n,?_⟩
     unfold qdr qkG
     rw [if_neg hp,if_pos hq,hn]
     exact hr
  ·cases hr
theorem qlA {o : AOp} {tm : Tmps} {h : Heap} {r : ARes × Heap} (hr : aOp pure (call L) o tm h = some r) : ∃ n,aOp pure (qcy L n) o tm h = some r := by
 cases o with
 | vcall f args =>
   simp only [aOp] at hr ⊢
   unfold qiW at hr
   split at hr
   ·rename_i hp
    cases hx : call L f ((args.map (opd tm)).map (lookV h)) [] with
    | none => rw [hx] at hr; cases hr
    | some x =>
      rw [hx] at hr
      obtain ⟨n,hn⟩ := qdY.1 hx
      refine ⟨n,?_⟩
      unfold qiW
      rw [if_pos hp,hn]
      exact hr
   ·cases hr
 | hcall f args =>
   simp only [aOp] at hr ⊢
   split at hr
   ·rename_i hf
    exact qdY.1 hr
   ·cases hr
 | call f args =>
   simp only [aOp] at hr ⊢
   split at hr
   ·rename_i hf
    exact qh1 hr
   ·cases hr
 | pcallV f args =>
   simp only [aOp] at hr ⊢
   split at hr
   ·rename_i hf
    unfold qkb at hr
    split at hr
    ·rename_i hc'
     unfold qa5 at hr
     split at hr
     ·rename_i v h' hd
      obtain ⟨n,hn⟩ := qh1 hd
      refine ⟨n,?_⟩
      unfold qkb
      rw [if_pos hc',hn]
      exact hr
     ·cases hr
    ·cases hr
   ·cases hr
 | pcall f args =>
   simp only [aOp] at hr ⊢
   split at hr
   ·rename_i hc'
    unfold qa5 at hr
    split at hr
    ·rename_i v h' hd
     obtain ⟨n,hn⟩ := qh1 hd
     refine ⟨n,?_⟩
     rw [if_pos hc',hn]
     exact hr
    ·cases hr
   ·cases hr
 | _ => exact ⟨0,hr⟩
theorem qg9 : ∀ (l : List Step) {s : St} {r : AExit × St},qcR pure (call L) l s = some r → ∃ n,qcR pure (qcy L n) l s = some r := by
 intro l
 induction l with
 | nil => intro s r hr; exact ⟨0,hr⟩
 | cons o rest ih =>
   intro s r hr
   rw [qcR] at hr
   split at hr
   ·rename_i hw
    cases hx : aOp pure (call L) o.op s.tm s.h with
    | none => rw [hx] at hr; cases hr
    | some x =>
      rw [hx] at hr
      obtain ⟨n,hn⟩ := qlA hx
      obtain ⟨v,h⟩ := x
      cases v with
      | val v =>
        obtain ⟨m,hm⟩ := ih hr
        refine ⟨max n m,?_⟩
        rw [qcR,hw]
        dsimp only
        rw [qf7 (qc6 L (Nat.le_max_left n m)) _ _ _ _ hn]
        exact qeK (qc6 L (Nat.le_max_right n m)) _ _ _ hm
      | panic v =>
        refine ⟨n,?_⟩
        rw [qcR,hw]
        dsimp only
        rw [hn]
        exact hr
   ·rename_i hw
    obtain ⟨m,hm⟩ := ih hr
    exact ⟨m,by rw [qcR,hw]; exact hm⟩
   ·cases hr
theorem qsx {o : AOp} {tm : Tmps} {h : Heap} {r : ARes × Heap} (hr : qjl pure (call L) o tm h = some r) : ∃ n,qjl pure (qcy L n) o tm h = some r := by
 cases o with
 | pcall f args =>
   simp only [qjl] at hr ⊢
   unfold qmW at hr
   split at hr
   ·rename_i hp
    cases hx : call L f ((args.map (opd tm)).map wipe) [] with
    | none => rw [hx] at hr; cases hr
    | some x =>
      rw [hx] at hr
      obtain ⟨n,hn⟩ := qdY.1 hx
      refine ⟨n,?_⟩
      unfold qmW
      rw [if_pos hp,hn]
      exact hr
   ·cases hr
 | append sz bytes x y =>
   simp only [qjl] at hr ⊢
   split at hr
   ·rename_i hq
    refine ⟨0,?_⟩
    rw [if_pos hq]
    exact hr
   ·rename_i hq
    obtain ⟨n,hn⟩ := qlA hr
    refine ⟨n,?_⟩
    rw [if_neg hq]
    exact hn
 | _ => simp only [qjl] at hr ⊢; exact qlA hr
theorem qqy : ∀ (l : List Step) {s : St} {r : AExit × St},qez pure (call L) l s = some r → ∃ n,qez pure (qcy L n) l s = some r := by
 intro l
 induction l with
 | nil => intro s r hr; exact ⟨0,hr⟩
 | cons o rest ih =>
   intro s r hr
   rw [qez] at hr
   split at hr
   ·rename_i hw
    cases hx : qjl pure (call L) o.op s.tm s.h with
    | none => rw [hx] at hr; cases hr
    | some x =>
      rw [hx] at hr
      obtain ⟨n,hn⟩ := qsx hx
      obtain ⟨v,h⟩ := x
      cases v with
      | val v =>
        obtain ⟨m,hm⟩ := ih hr
        refine ⟨max n m,?_⟩
        rw [qez,hw]
        dsimp only
        rw [qmp (qc6 L (Nat.le_max_left n m)) _ _ _ _ hn]
        exact qhV (qc6 L (Nat.le_max_right n m)) _ _ _ hm
      | panic v =>
        refine ⟨n,?_⟩
        rw [qez,hw]
        dsimp only
        rw [hn]
        exact hr
   ·rename_i hw
    obtain ⟨m,hm⟩ := ih hr
    exact ⟨m,by rw [qez,hw]; exact hm⟩
   ·cases hr
theorem qqx : ∀ (l : List Step) {tm : Tmps} {hs : List Heap} {h : Heap} {r : Tmps × List Heap × Heap},qdM pure (call L) l tm hs h = some r → ∃ n,qdM pure (qcy L n) l tm hs h = some r := by
 intro l
 induction l with
 | nil => intro tm hs h r hr; exact ⟨0,hr⟩
 | cons o rest ih =>
   intro tm hs h r hr
   rw [qdM] at hr
   split at hr
   ·rename_i hw
    cases hx : aOp pure (call L) o.op tm h with
    | none => rw [hx] at hr; cases hr
    | some x =>
      rw [hx] at hr
      obtain ⟨n,hn⟩ := qlA hx
      obtain ⟨v,h'⟩ := x
      cases v with
      | val v =>
        obtain ⟨m,hm⟩ := ih hr
        refine ⟨max n m,?_⟩
        rw [qdM,hw]
        dsimp only
        rw [qf7 (qc6 L (Nat.le_max_left n m)) _ _ _ _ hn]
        exact qkO (qc6 L (Nat.le_max_right n m)) _ _ _ _ _ hm
      | panic v => cases hr
   ·rename_i hw
    obtain ⟨m,hm⟩ := ih hr
    exact ⟨m,by rw [qdM,hw]; exact hm⟩
   ·cases hr
theorem qpq (c : ACode) (g : St → St) (ih : ∀ {s : St} {r : AExit × St},qby pure (call L) c s = some r → ∃ n,qbe pure (qcy L n) n c s = some r) {r : AExit × St} :
  ∀ k s,qd6 (fun s1 => qby pure (call L) c (g s1)) k s = some r → ∃ n,qd6 (fun s1 => qbe pure (qcy L n) n c (g s1)) n s = some r := by
 intro k
 induction k with
 | zero => intro s h; cases h
 | succ k ihk =>
   intro s h
   rw [qd6] at h
   cases hx : qby pure (call L) c (g s) with
   | none => rw [hx] at h; cases h
   | some x =>
     rw [hx] at h
     obtain ⟨n,hn⟩ := ih hx
     obtain ⟨e,s'⟩ := x
     cases e with
     | normal =>
       obtain ⟨m,hm⟩ := ihk s' h
       refine ⟨max n m + 1,?_⟩
       rw [qd6,qdf (qc6 L (Nat.le_trans (Nat.le_max_left n m) (Nat.le_succ _))) (Nat.le_trans (Nat.le_max_left n m) (Nat.le_succ _)) _ _ _ hn]
       exact qeV (fun s => qdf (qc6 L (Nat.le_trans (Nat.le_max_right n m) (Nat.le_succ _))) (Nat.le_trans (Nat.le_max_right n m) (Nat.le_succ _)) _ _) (Nat.le_max_right n m) _ _ hm
     | _ =>
       refine ⟨n + 1,?_⟩
       rw [qd6,qdf (qc6 L (Nat.le_succ n)) (Nat.le_succ n) _ _ _ hn]
       exact h
def qll (x : AVal × AVal) : List (AVal × AVal) → List (List (AVal × AVal))
 | [] => [[x]]
 | y :: ys => (x :: y :: ys) :: (qll x ys).map (y :: ·)
def qfH : List (AVal × AVal) → List (List (AVal × AVal))
 | [] => [[]]
 | x :: xs => (qfH xs).flatMap (qll x)
theorem qld (x : AVal × AVal) : ∀ l r : List (AVal × AVal),l ++ x :: r ∈ qll x (l ++ r)
 | [],[] => by simp [qll]
 | [],y :: ys => by simp [qll]
 | y :: l,r => by
   simp only [List.cons_append,qll,List.mem_cons,List.mem_map]
   exact .inr ⟨_,qld x l r,rfl⟩
theorem qhL : ∀ (es es' : List (AVal × AVal)),es'.Perm es → es' ∈ qfH es
 | [],es',h => by rw [h.eq_nil]; simp [qfH]
 | x :: xs,es',h => by
   obtain ⟨l,r,rfl⟩ := List.append_of_mem (h.mem_iff.2 (List.mem_cons_self ..))
   have h1 : (l ++ r).Perm xs := by
    have := (List.perm_middle (a := x) (l₁ := l) (l₂ := r)).symm.trans h
    exact this.cons_inv
   simp only [qfH,List.mem_flatMap]
   exact ⟨_,qhL xs _ h1,qld x l r⟩
theorem qq7 {α : Type} (Q : Nat → α → Prop) (hm : ∀ n m a,n ≤ m → Q n a → Q m a) : ∀ (l : List α),(∀ a ∈ l,∃ n,Q n a) → ∃ n,∀ a ∈ l,Q n a
 | [],_ => ⟨0,fun a ha => by cases ha⟩
 | a :: l,h => by
   obtain ⟨n,hn⟩ := h a (by simp)
   obtain ⟨m,hm'⟩ := qq7 Q hm l fun b hb => h b (by simp [hb])
   refine ⟨max n m,fun b hb => ?_⟩
   rcases List.mem_cons.1 hb with rfl | hb
   ·exact hm _ _ _ (Nat.le_max_left n m) hn
   ·exact hm _ _ _ (Nat.le_max_right n m) (hm' b hb)
section
variable {b c : ACode}
theorem qeJ {n m : Nat} (h : n ≤ m) (l : List Step) (s : St) : Le (qcR pure (qcy L n) l s) (qcR pure (qcy L m) l s) := qeK (qc6 L h) l s
theorem qea {n m : Nat} (h : n ≤ m) (s : St) : Le (qbe pure (qcy L n) n b s) (qbe pure (qcy L m) m b s) := qdf (qc6 L h) h b s
theorem qkH (hb : ∀ {s : St} {r : AExit × St},qby pure (call L) b s = some r → ∃ n,qbe pure (qcy L n) n b s = some r) (i : Nat) (k : RangeK) (e : AVal × AVal) {s : St} {r : AExit × St}
  (hr : qbQ (qcR pure (call L)) i k (qby pure (call L) b) e s = some r) : ∃ n,qbQ (qcR pure (qcy L n)) i k (qbe pure (qcy L n) n b) e s = some r := by
 unfold qbQ at hr
 split at hr
 case isFalse => cases hr
 rename_i g0
 cases hx : qcR pure (call L) k.r1 ⟨upd s.tm (some k.dn) (.tuple [.bool true,e.1,e.2]),s.h⟩ with
 | none => rw [hx] at hr; cases hr
 | some x =>
   rw [hx] at hr
   obtain ⟨n1,hn1⟩ := qg9 _ hx
   obtain ⟨q,s1⟩ := x
   cases q with
   | normal =>
     dsimp only at hr
     split at hr
     case isFalse => cases hr
     rename_i g1
     split at hr
     ·rename_i hq
      unfold qkk at hr
      cases hy : qcR pure (call L) k.r2 ⟨upd s1.tm k.de (.tuple [e.1,e.2]),s1.h⟩ with
      | none => rw [hy] at hr; cases hr
      | some y =>
        rw [hy] at hr
        obtain ⟨n2,hn2⟩ := qg9 _ hy
        obtain ⟨q2,s2⟩ := y
        cases q2 with
        | normal =>
          dsimp only at hr
          cases hz : qby pure (call L) b s2 with
          | none => rw [hz] at hr; cases hr
          | some z =>
            obtain ⟨n3,hn3⟩ := hb hz
            rw [hz] at hr
            refine ⟨max n1 (max n2 n3),?_⟩
            unfold qbQ qkk
            rw [if_pos g0,qeJ (Nat.le_max_left _ _) _ _ _ hn1]
            dsimp only
            rw [if_pos g1,hq]
            dsimp only
            rw [qeJ (Nat.le_trans (Nat.le_max_left n2 n3) (Nat.le_max_right _ _)) _ _ _ hn2]
            dsimp only
            rw [qea (Nat.le_trans (Nat.le_max_right n2 n3) (Nat.le_max_right _ _)) _ _ hn3]
            exact hr
        | _ =>
          refine ⟨max n1 n2,?_⟩
          unfold qbQ qkk
          rw [if_pos g0,qeJ (Nat.le_max_left _ _) _ _ _ hn1]
          dsimp only
          rw [if_pos g1,hq]
          dsimp only
          rw [qeJ (Nat.le_max_right _ _) _ _ _ hn2]
          exact hr
     ·cases hr
   | _ => cases hr
theorem qnp (i : Nat) (k : RangeK) {s : St} {r : AExit × St} (hr : qcr (qcR pure (call L)) i k s = some r) : ∃ n,qcr (qcR pure (qcy L n)) i k s = some r := by
 unfold qcr at hr
 split at hr
 case isFalse => cases hr
 rename_i g0
 cases hx : qcR pure (call L) k.r1 ⟨upd s.tm (some k.dn) (.tuple [.bool false]),s.h⟩ with
 | none => rw [hx] at hr; cases hr
 | some x =>
   rw [hx] at hr
   obtain ⟨n1,hn1⟩ := qg9 _ hx
   exact ⟨n1,by unfold qcr; rw [if_pos g0,hn1]; exact hr⟩
theorem qiK (hb : ∀ {s : St} {r : AExit × St},qby pure (call L) b s = some r → ∃ n,qbe pure (qcy L n) n b s = some r) (i : Nat) (k : RangeK) : ∀ (es : List (AVal × AVal)) {s : St} {r : AExit × St},
  qbS (qcR pure (call L)) i k (qby pure (call L) b) es s = some r → ∃ n,qbS (qcR pure (qcy L n)) i k (qbe pure (qcy L n) n b) es s = some r
 | [],s,r,hr => qnp i k hr
 | e :: es,s,r,hr => by
   rw [qbS] at hr
   cases hx : qbQ (qcR pure (call L)) i k (qby pure (call L) b) e (gc (i + 1) k.kr s) with
   | none => rw [hx] at hr; cases hr
   | some x =>
     rw [hx] at hr
     obtain ⟨n,hn⟩ := qkH hb i k e hx
     obtain ⟨q,s1⟩ := x
     cases q with
     | normal =>
       obtain ⟨m,hm⟩ := qiK hb i k es hr
       refine ⟨max n m,?_⟩
       rw [qbS,qf0 (fun l s => qeJ (Nat.le_max_left n m) l s) (fun s => qea (Nat.le_max_left n m) s) i k e _ _ hn]
       exact qeg (fun l s => qeJ (Nat.le_max_right n m) l s) (fun s => qea (Nat.le_max_right n m) s) i k es _ _ hm
     | _ => exact ⟨n,by rw [qbS,hn]; exact hr⟩
theorem qnq (hb : ∀ {s : St} {r : AExit × St},qby pure (call L) b s = some r → ∃ n,qbe pure (qcy L n) n b s = some r) (hc : ∀ {s : St} {r : AExit × St},qby pure (call L) c s = some r → ∃ n,qbe pure (qcy L n) n c s = some r)
  (k : RangeK) (s s1 : St) (es : List (AVal × AVal)) {r : AExit × St} (hr : qda (qcR pure (call L)) k (qby pure (call L) b) (qby pure (call L) c) s s1 es = some r) :
  ∃ n,qda (qcR pure (qcy L n)) k (qbe pure (qcy L n) n b) (qbe pure (qcy L n) n c) s s1 es = some r := by
 unfold qda at hr
 obtain ⟨x,hx,rfl⟩ := Option.map_eq_some_iff.1 hr
 cases hy : qbS (qcR pure (call L)) s1.h.length k (qby pure (call L) b) es ⟨upd s1.tm (some k.it) (.ptr (some (s1.h.length,0))),qkD (opd s1.tm k.m) s1.h⟩ with
 | none => rw [hy] at hx; cases hx
 | some y =>
   rw [hy] at hx
   obtain ⟨n,hn⟩ := qiK hb _ k es hy
   obtain ⟨q,s2⟩ := y
   cases q with
   | normal =>
     obtain ⟨m,hm⟩ := hc hx
     refine ⟨max n m,?_⟩
     unfold qda
     rw [qeg (fun l s => qeJ (Nat.le_max_left n m) l s) (fun s => qea (Nat.le_max_left n m) s) _ k es _ _ hn]
     dsimp only
     rw [qea (Nat.le_max_right n m) _ _ hm]
     rfl
   | _ =>
     refine ⟨n,?_⟩
     unfold qda
     rw [hn]
     dsimp only at hx ⊢
     rw [hx]
     rfl
end
theorem qqw : ∀ (c : ACode) {s : St} {r : AExit × St},qby pure (call L) c s = some r → ∃ n,qbe pure (qcy L n) n c s = some r := by
 intro c
 induction c with
 | skip => intro s r hr; exact ⟨0,hr⟩
 | ops l => intro s r hr; exact qg9 l hr
 | kops l => intro s r hr; exact qqy l hr
 | mdraw k l ns => intro s r hr; exact ⟨0,hr⟩
 | draw l cs =>
   intro s r hr
   rw [qby] at hr
   unfold qgL at hr
   cases hx : qdM pure (call L) l s.tm [] s.h with
   | none => rw [hx] at hr; cases hr
   | some x =>
     rw [hx] at hr
     obtain ⟨n,hn⟩ := qqx l hx
     exact ⟨n,by rw [qbe]; unfold qgL; rw [hn]; exact hr⟩
 | seq a b iha ihb =>
   intro s r hr
   rw [qby] at hr
   cases hx : qby pure (call L) a s with
   | none => rw [hx] at hr; cases hr
   | some x =>
     rw [hx] at hr
     obtain ⟨n,hn⟩ := iha hx
     obtain ⟨e,s'⟩ := x
     cases e with
     | normal =>
       obtain ⟨m,hm⟩ := ihb hr
       refine ⟨max n m,?_⟩
       rw [qbe,qdf (qc6 L (Nat.le_max_left n m)) (Nat.le_max_left n m) _ _ _ hn]
       exact qdf (qc6 L (Nat.le_max_right n m)) (Nat.le_max_right n m) _ _ _ hm
     | _ => exact ⟨n,by rw [qbe,hn]; exact hr⟩
 | cond c a b iha ihb =>
   intro s r hr
   rw [qby] at hr
   split at hr
   ·rename_i t ht
    cases t with
    | true =>
      obtain ⟨n,hn⟩ := iha hr
      exact ⟨n,by rw [qbe,ht]; exact hn⟩
    | false =>
      obtain ⟨n,hn⟩ := ihb hr
      exact ⟨n,by rw [qbe,ht]; exact hn⟩
   ·cases hr
 | block id c ih =>
   intro s r hr
   rw [qby] at hr
   cases hx : qby pure (call L) c s with
   | none => rw [hx] at hr; cases hr
   | some x =>
     rw [hx] at hr
     obtain ⟨n,hn⟩ := ih hx
     exact ⟨n,by rw [qbe,hn]; exact hr⟩
 | loop c ih =>
   intro s r hr
   rw [qby] at hr
   obtain ⟨k,hk⟩ := qdP.1 hr
   obtain ⟨n,hn⟩ := qpq c (fun s => s) (fun hx => ih hx) k s hk
   exact ⟨n,by rw [qbe]; exact hn⟩
 | gloop kp c ih =>
   intro s r hr
   rw [qby] at hr
   obtain ⟨k,hk⟩ := qdP.1 hr
   obtain ⟨n,hn⟩ := qpq c (fun s1 => gc s.h.length kp s1) (fun hx => ih hx) k s hk
   exact ⟨n,by rw [qbe]; exact hn⟩
 | view c ih =>
   intro s r hr
   obtain ⟨n,hn⟩ := ih hr
   exact ⟨n,hn⟩
 | freeze t c ih =>
   intro s r hr
   obtain ⟨n,hn⟩ := ih hr
   exact ⟨n,hn⟩
 | range k b c ihb ihc =>
   intro s r hr
   rw [qby,qe1] at hr
   cases hx : qcR pure (call L) k.pre s with
   | none => rw [hx] at hr; cases hr
   | some x =>
     rw [hx] at hr
     obtain ⟨n,hn⟩ := qg9 _ hx
     obtain ⟨q,s1⟩ := x
     cases q with
     | normal =>
       dsimp only at hr
       split at hr
       ·rename_i es hes
        have h1 := (qdh (qcu _ _)).1 hr
        obtain ⟨m,hm⟩ := qq7 (fun n es' => qc0 k.str es es' → qda (qcR pure (qcy L n)) k (qbe pure (qcy L n) n b) (qbe pure (qcy L n) n c) s s1 es' = some r)
         (fun n m a hnm h ho => qfr (fun l s => qeJ hnm l s) (fun s => qea hnm s) (fun s => qea hnm s) k s s1 a r (h ho)) (es :: qfH es)
         (fun a _ => by
          by_cases ho : qc0 k.str es a
          ·obtain ⟨n,hn⟩ := qnq ihb ihc k s s1 a (h1 a ho)
           exact ⟨n,fun _ => hn⟩
          ·exact ⟨0,fun h => absurd h ho⟩)
        refine ⟨max n m,?_⟩
        rw [qbe,qe1,qeJ (Nat.le_max_left n m) _ _ _ hn]
        dsimp only
        rw [hes]
        dsimp only
        refine (qdh (qcu _ _)).2 fun es' he => ?_
        refine qfr (fun l s => qeJ (Nat.le_max_right n m) l s) (fun s => qea (Nat.le_max_right n m) s) (fun s => qea (Nat.le_max_right n m) s) k s s1 es' r (hm es' ?_ he)
        unfold qc0 at he
        split at he
        ·rw [he]; simp
        ·exact List.mem_cons_of_mem _ (qhL es es' he)
       ·cases hr
     | _ => cases hr
 | frame kp c ih =>
   intro s r hr
   rw [qby] at hr
   obtain ⟨x,hx,rfl⟩ := Option.map_eq_some_iff.1 hr
   obtain ⟨n,hn⟩ := ih hx
   exact ⟨n,by rw [qbe,hn]; rfl⟩
 | exit id => intro s r hr; exact ⟨0,hr⟩
 | ret => intro s r hr; exact ⟨0,hr⟩
 | stuck => intro s r hr; exact ⟨0,hr⟩
end
theorem qbr {L : Lib} {f : Nat} {fn : AFn} (hs : L.summ f = none) (hf : L.fns f = some fn) {a : List AVal} {h : Heap} {r : ARes × Heap}
  (hr : qaQ fn.results (qby L.pure (call L) fn.body ⟨qet a,h⟩) = some r) : call L f a h = some r := by
 cases hx : qby L.pure (call L) fn.body ⟨qet a,h⟩ with
 | none => rw [hx] at hr; cases hr
 | some x =>
   rw [hx] at hr
   obtain ⟨n,hn⟩ := qqw _ hx
   refine qdY.2 ⟨n + 1,?_⟩
   rw [qcy,hs]
   dsimp only
   rw [hf]
   dsimp only
   rw [hn]
   exact hr
theorem qhg {L : Lib} {f : Nat} {s : List AVal → Heap → Option (ARes × Heap)} (hs : L.summ f = some s) {a : List AVal} {h : Heap} {r : ARes × Heap} (hr : s a h = some r) : call L f a h = some r :=
 qdY.2 ⟨1,by rw [qcy,hs]; exact hr⟩
end Go.Abs
