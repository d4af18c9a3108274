/-
  The abstract machine without bounds: calls and loops as limits of the bounded ones; each is what its body says.
-/
import Derived.Test.YtciacognbcgfiaaDoorAbsA
set_option linter.unusedVariables false
namespace Go.Abs
def Le {α : Type} (x y : Option α) : Prop := ∀ r, x = some r → y = some r
theorem Le.refl {α : Type} (x : Option α) : Le x x := fun _ h => h
theorem Le.trans {α : Type} {x y z : Option α} (h : Le x y) (h' : Le y z) : Le x z := fun r e => h' r (h r e)
theorem Le.none {α : Type} (y : Option α) : Le (Option.none : Option α) y := fun _ h => by cases h
open Classical in
noncomputable def lim {α : Type} (f : Nat → Option α) : Option α := if h : ∃ n, (f n).isSome = true then f (Classical.choose h) else none
theorem mono_le {α : Type} {f : Nat → Option α} (hm : ∀ n, Le (f n) (f (n + 1))) : ∀ {a b : Nat}, a ≤ b → Le (f a) (f b) := by
  intro a b hab
  induction hab with
  | refl => exact Le.refl _
  | step _ ih => exact ih.trans (hm _)
theorem lim_some {α : Type} {f : Nat → Option α} (hm : ∀ n, Le (f n) (f (n + 1))) {r : α} : lim f = some r ↔ ∃ n, f n = some r := by
  constructor
  · intro h
    unfold lim at h
    split at h
    · exact ⟨_, h⟩
    · cases h
  · rintro ⟨n, hn⟩
    have hx : ∃ n, (f n).isSome = true := ⟨n, by rw [hn]; rfl⟩
    unfold lim
    rw [dif_pos hx]
    have h1 := Classical.choose_spec hx
    obtain ⟨r', hr'⟩ := Option.isSome_iff_exists.1 h1
    rw [hr']
    have a := mono_le hm (Nat.le_max_left n (Classical.choose hx)) r hn
    have b := mono_le hm (Nat.le_max_right n (Classical.choose hx)) r' hr'
    rw [a] at b
    injection b with b
    rw [b]
/-! ### More rounds, and calls that answer more, give the same answers -/
theorem loopN_succ (body : St → Option (AExit × St)) : ∀ n s, Le (loopN body n s) (loopN body (n + 1) s) := by
  intro n
  induction n with
  | zero => intro s r h; cases h
  | succ n ih =>
    intro s r h
    rw [loopN] at h ⊢
    split
    · rename_i s' hb
      rw [hb] at h
      exact ih s' r h
    · rename_i r' hr'
      split at h
      · rename_i s' hs'
        exact absurd hs' (hr' s')
      · exact h
theorem loopN_mono {b1 b2 : St → Option (AExit × St)} (hb : ∀ s, Le (b1 s) (b2 s)) : ∀ {n m : Nat}, n ≤ m → ∀ s, Le (loopN b1 n s) (loopN b2 m s) := by
  intro n m hnm s
  refine Le.trans ?_ (mono_le (f := fun k => loopN b2 k s) (fun k => loopN_succ b2 k s) hnm)
  clear hnm
  induction n generalizing s with
  | zero => intro r h; cases h
  | succ n ih =>
    intro r h
    rw [loopN] at h ⊢
    cases hx : b1 s with
    | none => rw [hx] at h; cases h
    | some x =>
      rw [hb s x hx]
      rw [hx] at h
      obtain ⟨e, s'⟩ := x
      cases e with
      | normal => exact ih s' r h
      | _ => exact h
section
variable {pure : Nat → Bool} {c1 c2 : CallT}
theorem rCall_mono (hc : ∀ f a h, Le (c1 f a h) (c2 f a h)) (f : Nat) (a : List AVal) (h : Heap) : Le (rCall c1 f a h) (rCall c2 f a h) := by
  intro r hr
  unfold rCall at hr ⊢
  split
  · rename_i hp
    rw [if_pos hp] at hr
    cases hx : c1 f (a.map (ren fun i => posOf i (rootsOf a h) 0)) (subHeap (rootsOf a h) h) with
    | none => rw [hx] at hr; cases hr
    | some x => rw [hc _ _ _ x hx]; rw [hx] at hr; exact hr
  · rename_i hp
    rw [if_neg hp] at hr
    cases hr
theorem doCall_mono (hc : ∀ f a h, Le (c1 f a h) (c2 f a h)) (f : Nat) (a : List AVal) (h : Heap) : Le (doCall pure c1 f a h) (doCall pure c2 f a h) := by
  intro r hr
  unfold doCall at hr ⊢
  split
  · rename_i hp
    rw [if_pos hp] at hr
    cases hx : c1 f (a.map wipe) [] with
    | none => rw [hx] at hr; cases hr
    | some x => rw [hc _ _ _ x hx]; rw [hx] at hr; exact hr
  · rename_i hp
    rw [if_neg hp] at hr
    exact rCall_mono hc _ _ _ _ hr
theorem qCall_mono (hc : ∀ f a h, Le (c1 f a h) (c2 f a h)) (g : Nat) (xs : List AVal) (h : Heap) : Le (qCall pure c1 g xs h) (qCall pure c2 g xs h) := by
  intro r hr
  unfold qCall at hr ⊢
  split
  · rename_i hc'
    rw [if_pos hc'] at hr
    unfold onlyVal at hr ⊢
    split at hr
    · rename_i v h' hd
      rw [doCall_mono hc _ _ _ _ hd]
      exact hr
    · cases hr
  · rename_i hc'
    rw [if_neg hc'] at hr
    cases hr
theorem vCall_mono (hc : ∀ f a h, Le (c1 f a h) (c2 f a h)) (f : Nat) (a : List AVal) (h : Heap) : Le (vCall c1 f a h) (vCall c2 f a h) := by
  intro r hr
  unfold vCall at hr ⊢
  split
  · rename_i hp
    rw [if_pos hp] at hr
    cases hx : c1 f (a.map (lookV h)) [] with
    | none => rw [hx] at hr; cases hr
    | some x => rw [hc _ _ _ x hx]; rw [hx] at hr; exact hr
  · rename_i hp
    rw [if_neg hp] at hr
    cases hr
theorem aOp_mono (hc : ∀ f a h, Le (c1 f a h) (c2 f a h)) (o : AOp) (tm : Tmps) (h : Heap) : Le (aOp pure c1 o tm h) (aOp pure c2 o tm h) := by
  intro r hr
  cases o with
  | vcall f args => exact vCall_mono hc _ _ _ _ hr
  | hcall f args =>
    simp only [aOp] at hr ⊢
    split
    · rename_i hf
      rw [hf] at hr
      exact hc _ _ _ _ hr
    · rename_i hf
      split at hr
      · rename_i hf'
        exact absurd hf' (hf _ _ _)
      · cases hr
  | call f args =>
    simp only [aOp] at hr ⊢
    split
    · rename_i hf
      rw [hf] at hr
      exact doCall_mono hc _ _ _ _ hr
    · rename_i hf
      split at hr
      · rename_i hf'
        exact absurd hf' (hf _ _ _)
      · cases hr
  | pcallV f args =>
    simp only [aOp] at hr ⊢
    split
    · rename_i hf
      rw [hf] at hr
      exact qCall_mono hc _ _ _ _ hr
    · rename_i hf
      split at hr
      · rename_i hf'
        exact absurd hf' (hf _ _ _)
      · cases hr
  | pcall f args =>
    simp only [aOp] at hr ⊢
    split
    · rename_i hc'
      rw [if_pos hc'] at hr
      unfold onlyVal at hr ⊢
      split at hr
      · rename_i v h' hd
        rw [doCall_mono hc _ _ _ _ hd]
        exact hr
      · cases hr
    · rename_i hc'
      rw [if_neg hc'] at hr
      cases hr
  | _ => exact hr
theorem aOps_mono (hc : ∀ f a h, Le (c1 f a h) (c2 f a h)) : ∀ (l : List Step) (s : St), Le (aOps pure c1 l s) (aOps pure c2 l s) := by
  intro l
  induction l with
  | nil => intro s; exact Le.refl _
  | cons o rest ih =>
    intro s r hr
    rw [aOps] at hr ⊢
    split
    · rename_i hw
      rw [hw] at hr
      dsimp only at hr
      cases hx : aOp pure c1 o.op s.tm s.h with
      | none => rw [hx] at hr; cases hr
      | some x =>
        rw [aOp_mono hc _ _ _ x hx]
        rw [hx] at hr
        obtain ⟨v, h⟩ := x
        cases v with
        | val v => exact ih _ r hr
        | panic v => exact hr
    · rename_i hw
      rw [hw] at hr
      exact ih _ r hr
    · rename_i hw
      rw [hw] at hr
      cases hr
theorem kCall_mono (hc : ∀ f a h, Le (c1 f a h) (c2 f a h)) (f : Nat) (a : List AVal) (h : Heap) : Le (kCall c1 f a h) (kCall c2 f a h) := by
  intro r hr
  unfold kCall at hr ⊢
  split
  · rename_i hp
    rw [if_pos hp] at hr
    cases hx : c1 f (a.map wipe) [] with
    | none => rw [hx] at hr; cases hr
    | some x => rw [hc _ _ _ x hx]; rw [hx] at hr; exact hr
  · rename_i hp
    rw [if_neg hp] at hr
    cases hr
theorem aOpK_mono (hc : ∀ f a h, Le (c1 f a h) (c2 f a h)) (o : AOp) (tm : Tmps) (h : Heap) : Le (aOpK pure c1 o tm h) (aOpK pure c2 o tm h) := by
  intro r hr
  cases o with
  | pcall f args => exact kCall_mono hc _ _ _ _ hr
  | append sz bytes x y =>
    simp only [aOpK] at hr ⊢
    split
    · rename_i hq
      rw [if_pos hq] at hr
      exact hr
    · rename_i hq
      rw [if_neg hq] at hr
      exact aOp_mono hc _ tm h r hr
  | _ => simp only [aOpK] at hr ⊢; exact aOp_mono hc _ tm h r hr
theorem aOpsK_mono (hc : ∀ f a h, Le (c1 f a h) (c2 f a h)) : ∀ (l : List Step) (s : St), Le (aOpsK pure c1 l s) (aOpsK pure c2 l s) := by
  intro l
  induction l with
  | nil => intro s; exact Le.refl _
  | cons o rest ih =>
    intro s r hr
    rw [aOpsK] at hr ⊢
    split
    · rename_i hw
      rw [hw] at hr
      dsimp only at hr
      cases hx : aOpK pure c1 o.op s.tm s.h with
      | none => rw [hx] at hr; cases hr
      | some x =>
        rw [aOpK_mono hc _ _ _ x hx]
        rw [hx] at hr
        obtain ⟨v, h⟩ := x
        cases v with
        | val v => exact ih _ r hr
        | panic v => exact hr
    · rename_i hw
      rw [hw] at hr
      exact ih _ r hr
    · rename_i hw
      rw [hw] at hr
      cases hr
theorem aOpsH_mono (hc : ∀ f a h, Le (c1 f a h) (c2 f a h)) : ∀ (l : List Step) (tm : Tmps) (hs : List Heap) (h : Heap), Le (aOpsH pure c1 l tm hs h) (aOpsH pure c2 l tm hs h) := by
  intro l
  induction l with
  | nil => intro tm hs h; exact Le.refl _
  | cons o rest ih =>
    intro tm hs h r hr
    rw [aOpsH] at hr ⊢
    split
    · rename_i hw
      rw [hw] at hr
      dsimp only at hr
      cases hx : aOp pure c1 o.op tm h with
      | none => rw [hx] at hr; cases hr
      | some x =>
        rw [aOp_mono hc _ _ _ x hx]
        rw [hx] at hr
        obtain ⟨v, h'⟩ := x
        cases v with
        | val v => exact ih _ _ _ r hr
        | panic v => exact hr
    · rename_i hw
      rw [hw] at hr
      exact ih _ _ _ r hr
    · rename_i hw
      rw [hw] at hr
      cases hr
/-! Loops over maps and strings. -/
section
variable {o1 o2 : List Step → St → Option (AExit × St)} {b1 b2 c1' c2' : St → Option (AExit × St)}
theorem blockOf_mono {id : Nat} {x y : Option (AExit × St)} (h : Le x y) : Le (blockOf id x) (blockOf id y) := by
  intro r hr
  cases x with
  | none => cases hr
  | some x => rw [h x rfl]; exact hr
theorem rangeRound_mono (ho : ∀ l s, Le (o1 l s) (o2 l s)) (hb : ∀ s, Le (b1 s) (b2 s)) (n : Nat) (k : RangeK) (e : AVal × AVal) (s : St) : Le (rangeRound o1 n k b1 e s) (rangeRound o2 n k b2 e s) := by
  intro r hr
  unfold rangeRound at hr ⊢
  split
  case isFalse h0 => rw [if_neg h0] at hr; cases hr
  rename_i h0
  rw [if_pos h0] at hr
  cases hx : o1 k.r1 ⟨upd s.tm (some k.dn) (.tuple [.bool true, e.1, e.2]), s.h⟩ with
  | none => rw [hx] at hr; cases hr
  | some x =>
    rw [ho _ _ x hx]
    rw [hx] at hr
    obtain ⟨q, s1⟩ := x
    cases q with
    | normal =>
      dsimp only at hr ⊢
      split
      case isFalse h1 => rw [if_neg h1] at hr; cases hr
      rename_i h1
      rw [if_pos h1] at hr
      split
      · rename_i hq
        rw [hq] at hr
        refine blockOf_mono (id := k.id2) ?_ r hr
        intro r2 hr2
        unfold thenR at hr2 ⊢
        cases hy : o1 k.r2 ⟨upd s1.tm k.de (.tuple [e.1, e.2]), s1.h⟩ with
        | none => rw [hy] at hr2; cases hr2
        | some y =>
          rw [ho _ _ y hy]
          rw [hy] at hr2
          obtain ⟨q2, s2⟩ := y
          cases q2 with
          | normal => exact hb _ r2 hr2
          | _ => exact hr2
      · rename_i hq
        split at hr
        · rename_i hq'
          exact absurd hq' hq
        · cases hr
    | _ => cases hr
theorem rangeEnd_mono (ho : ∀ l s, Le (o1 l s) (o2 l s)) (n : Nat) (k : RangeK) (s : St) : Le (rangeEnd o1 n k s) (rangeEnd o2 n k s) := by
  intro r hr
  unfold rangeEnd at hr ⊢
  split
  case isFalse h0 => rw [if_neg h0] at hr; cases hr
  rename_i h0
  rw [if_pos h0] at hr
  cases hx : o1 k.r1 ⟨upd s.tm (some k.dn) (.tuple [.bool false]), s.h⟩ with
  | none => rw [hx] at hr; cases hr
  | some x =>
    rw [ho _ _ x hx]
    rw [hx] at hr
    exact hr
theorem rangeRun_mono (ho : ∀ l s, Le (o1 l s) (o2 l s)) (hb : ∀ s, Le (b1 s) (b2 s)) (n : Nat) (k : RangeK) : ∀ (es : List (AVal × AVal)) (s : St), Le (rangeRun o1 n k b1 es s) (rangeRun o2 n k b2 es s)
  | [], s => rangeEnd_mono ho n k _
  | e :: es, s => by
    intro r hr
    rw [rangeRun] at hr ⊢
    cases hx : rangeRound o1 n k b1 e (gc (n + 1) k.kr s) with
    | none => rw [hx] at hr; cases hr
    | some x =>
      rw [rangeRound_mono ho hb n k e _ x hx]
      rw [hx] at hr
      obtain ⟨q, s1⟩ := x
      cases q with
      | normal => exact rangeRun_mono ho hb n k es s1 r hr
      | _ => exact hr
theorem agreed_some {O : List (AVal × AVal) → Prop} (hO : ∃ es, O es) {f : List (AVal × AVal) → Option (AExit × St)} {r : AExit × St} : agreed O f = some r ↔ ∀ es, O es → f es = some r := by
  constructor
  · intro h
    unfold agreed at h
    split at h
    · rename_i hx
      injection h with h
      rw [← h]
      exact Classical.choose_spec hx
    · cases h
  · intro h
    have hx : ∃ r, ∀ es, O es → f es = some r := ⟨r, h⟩
    unfold agreed
    rw [dif_pos hx]
    obtain ⟨es, he⟩ := hO
    have h1 := Classical.choose_spec hx es he
    rw [h es he] at h1
    exact h1.symm
theorem inOrder_self (str : Bool) (es : List (AVal × AVal)) : ∃ es', inOrder str es es' := ⟨es, by unfold inOrder; split <;> first | rfl | exact .refl _⟩
/-- One order: the rounds, and what is behind. -/
def rangeOne (ops : List Step → St → Option (AExit × St)) (k : RangeK) (runB runC : St → Option (AExit × St)) (s s1 : St) (es : List (AVal × AVal)) : Option (AExit × St) :=
  (match rangeRun ops s1.h.length k runB es ⟨upd s1.tm (some k.it) (.ptr (some (s1.h.length, 0))), hide (opd s1.tm k.m) s1.h⟩ with
    | some (.normal, s2) => runC ⟨s2.tm, unhide (opd s1.tm k.m) s1.h s2.h⟩
    | some (e, s2) => some (e, ⟨s2.tm, unhide (opd s1.tm k.m) s1.h s2.h⟩)
    | none => none).map (gcE s.h.length k.keep)
theorem rangeA_eq (ops : List Step → St → Option (AExit × St)) (k : RangeK) (runB runC : St → Option (AExit × St)) (s : St) : rangeA ops k runB runC s = match ops k.pre s with
  | some (.normal, s1) => (match entriesOf k.str (opd s1.tm k.m) s1.h with
    | some es => agreed (inOrder k.str es) (rangeOne ops k runB runC s s1)
    | none => none)
  | _ => none := rfl
theorem rangeOne_mono (ho : ∀ l s, Le (o1 l s) (o2 l s)) (hb : ∀ s, Le (b1 s) (b2 s)) (hc : ∀ s, Le (c1' s) (c2' s)) (k : RangeK) (s s1 : St) (es : List (AVal × AVal)) : Le (rangeOne o1 k b1 c1' s s1 es) (rangeOne o2 k b2 c2' s s1 es) := by
  intro r hr
  unfold rangeOne at hr ⊢
  obtain ⟨x, hx, rfl⟩ := Option.map_eq_some_iff.1 hr
  refine Option.map_eq_some_iff.2 ⟨x, ?_, rfl⟩
  cases hy : rangeRun o1 s1.h.length k b1 es ⟨upd s1.tm (some k.it) (.ptr (some (s1.h.length, 0))), hide (opd s1.tm k.m) s1.h⟩ with
  | none => rw [hy] at hx; cases hx
  | some y =>
    rw [rangeRun_mono ho hb _ k _ _ y hy]
    rw [hy] at hx
    obtain ⟨q, s2⟩ := y
    cases q with
    | normal => exact hc _ x hx
    | _ => exact hx
theorem rangeA_mono (ho : ∀ l s, Le (o1 l s) (o2 l s)) (hb : ∀ s, Le (b1 s) (b2 s)) (hc : ∀ s, Le (c1' s) (c2' s)) (k : RangeK) (s : St) : Le (rangeA o1 k b1 c1' s) (rangeA o2 k b2 c2' s) := by
  intro r hr
  rw [rangeA_eq] at hr ⊢
  cases hx : o1 k.pre s with
  | none => rw [hx] at hr; cases hr
  | some x =>
    rw [ho _ _ x hx]
    rw [hx] at hr
    obtain ⟨q, s1⟩ := x
    cases q with
    | normal =>
      dsimp only at hr ⊢
      split
      · rename_i es hes
        rw [hes] at hr
        have h1 := (agreed_some (inOrder_self _ _)).1 hr
        exact (agreed_some (inOrder_self _ _)).2 fun es' he => rangeOne_mono ho hb hc k s s1 es' r (h1 es' he)
      · rename_i hes
        rw [hes] at hr
        cases hr
    | _ => cases hr
end
theorem aDraw_mono (hc : ∀ f a h, Le (c1 f a h) (c2 f a h)) (l : List Step) (cs : List (Nat × Nat × Nat)) (s : St) : Le (aDraw pure c1 l cs s) (aDraw pure c2 l cs s) := by
  intro r hr
  unfold aDraw at hr ⊢
  cases hx : aOpsH pure c1 l s.tm [] s.h with
  | none => rw [hx] at hr; cases hr
  | some x => rw [aOpsH_mono hc _ _ _ _ x hx]; rw [hx] at hr; exact hr
/-- Code, with bounds. -/
theorem aCodeN_mono (hc : ∀ f a h, Le (c1 f a h) (c2 f a h)) {n m : Nat} (hnm : n ≤ m) : ∀ (c : ACode) (s : St), Le (aCodeN pure c1 n c s) (aCodeN pure c2 m c s) := by
  intro c
  induction c with
  | skip => intro s; exact Le.refl _
  | ops l => intro s; exact aOps_mono hc l s
  | draw l cs => intro s; exact aDraw_mono hc l cs s
  | kops l => intro s; exact aOpsK_mono hc l s
  | mdraw k l ns => intro s; exact Le.refl _
  | seq a b iha ihb =>
    intro s r hr
    rw [aCodeN] at hr ⊢
    cases hx : aCodeN pure c1 n a s with
    | none => rw [hx] at hr; cases hr
    | some x =>
      rw [iha s x hx]
      rw [hx] at hr
      obtain ⟨e, s'⟩ := x
      cases e with
      | normal => exact ihb _ r hr
      | _ => exact hr
  | cond c a b iha ihb =>
    intro s r hr
    rw [aCodeN] at hr ⊢
    split
    · rename_i t ht
      rw [ht] at hr
      cases t with
      | true => exact iha s r hr
      | false => exact ihb s r hr
    · rename_i ht
      split at hr
      · rename_i t ht'
        exact absurd ht' (ht t)
      · cases hr
  | block id c ih =>
    intro s r hr
    rw [aCodeN] at hr ⊢
    cases hx : aCodeN pure c1 n c s with
    | none => rw [hx] at hr; cases hr
    | some x => rw [ih s x hx]; rw [hx] at hr; exact hr
  | loop c ih => intro s; exact loopN_mono ih hnm s
  | gloop k c ih => intro s; exact loopN_mono (fun s1 => ih _) hnm s
  | freeze t c ih => intro s; exact ih _
  | view c ih => intro s; exact ih _
  | range k b c ihb ihc => intro s; exact rangeA_mono (fun l s => aOps_mono hc l s) ihb ihc k s
  | frame k c ih =>
    intro s r hr
    rw [aCodeN] at hr ⊢
    obtain ⟨x, hx, rfl⟩ := Option.map_eq_some_iff.1 hr
    rw [ih s x hx]
    rfl
  | exit id => intro s; exact Le.refl _
  | ret => intro s; exact Le.refl _
  | stuck => intro s; exact Le.refl _
end
theorem endFn_mono {rs : List ARVar} {x y : Option (AExit × St)} (h : Le x y) : Le (endFn rs x) (endFn rs y) := by
  intro r hr
  cases x with
  | none => cases hr
  | some x => rw [h x rfl]; exact hr
theorem callN_succ (L : Lib) : ∀ n f a h, Le (callN L n f a h) (callN L (n + 1) f a h) := by
  intro n
  induction n with
  | zero => intro f a h r hr; cases hr
  | succ n ih =>
    intro f a h r hr
    rw [callN] at hr ⊢
    split
    · rename_i s hs
      rw [hs] at hr
      exact hr
    · rename_i hs
      rw [hs] at hr
      dsimp only at hr
      split
      · rename_i fn hfn
        rw [hfn] at hr
        exact endFn_mono (aCodeN_mono ih (Nat.le_succ n) _ _) r hr
      · rename_i hfn
        rw [hfn] at hr
        cases hr
theorem callN_le (L : Lib) {n m : Nat} (h : n ≤ m) (f : Nat) (a : List AVal) (hp : Heap) : Le (callN L n f a hp) (callN L m f a hp) :=
  mono_le (f := fun k => callN L k f a hp) (fun k => callN_succ L k f a hp) h
/-! ### Without bounds -/
noncomputable def call (L : Lib) : CallT := fun f a h => lim fun n => callN L n f a h
theorem call_some {L : Lib} {f : Nat} {a : List AVal} {h : Heap} {r : ARes × Heap} : call L f a h = some r ↔ ∃ n, callN L n f a h = some r :=
  lim_some fun n => callN_succ L n f a h
noncomputable def loopA (body : St → Option (AExit × St)) (s : St) : Option (AExit × St) := lim fun n => loopN body n s
theorem loopA_some {body : St → Option (AExit × St)} {s : St} {r : AExit × St} : loopA body s = some r ↔ ∃ n, loopN body n s = some r := lim_some fun n => loopN_succ body n s
theorem loopN_loopA (body : St → Option (AExit × St)) (n : Nat) (s : St) : Le (loopN body n s) (loopA body s) := fun _ hr => loopA_some.2 ⟨n, hr⟩
theorem loopA_eq (body : St → Option (AExit × St)) (s : St) : loopA body s = match body s with | some (.normal, s') => loopA body s' | r => r := by
  have key : ∀ r, loopA body s = some r ↔ (match body s with | some (.normal, s') => loopA body s' | r => r) = some r := by
    intro r
    constructor
    · intro h
      obtain ⟨n, hn⟩ := loopA_some.1 h
      cases n with
      | zero => cases hn
      | succ n =>
        rw [loopN] at hn
        split at hn
        · rename_i s' hs'
          rw [hs']
          exact loopN_loopA _ _ _ _ hn
        · rename_i x hx
          split
          · rename_i s' hs'
            exact absurd hs' (hx s')
          · exact hn
    · intro h
      split at h
      · rename_i s' hs'
        obtain ⟨n, hn⟩ := loopA_some.1 h
        exact loopA_some.2 ⟨n + 1, by rw [loopN, hs']; exact hn⟩
      · rename_i x hx
        refine loopA_some.2 ⟨1, ?_⟩
        rw [loopN]
        split
        · rename_i s' hs'
          exact absurd hs' (hx s')
        · exact h
  cases hx : loopA body s with
  | some r => exact ((key r).1 hx).symm
  | none =>
    cases hy : (match body s with | some (.normal, s') => loopA body s' | r => r) with
    | none => rfl
    | some r => rw [(key r).2 hy] at hx; cases hx
noncomputable def aCode (pure : Nat → Bool) (call : CallT) : ACode → St → Option (AExit × St)
  | .skip, s => some (.normal, s)
  | .ops l, s => aOps pure call l s
  | .draw l cs, s => aDraw pure call l cs s
  | .kops l, s => aOpsK pure call l s
  | .mdraw k l ns, s => aMix k l ns s
  | .seq a b, s =>
    (match aCode pure call a s with
    | some (.normal, s') => aCode pure call b s'
    | r => r)
  | .cond c a b, s => (match opd s.tm c with | .bool t => if t then aCode pure call a s else aCode pure call b s | _ => none)
  | .block id c, s =>
    (match aCode pure call c s with
    | some (.exit id', s') => if id' = id then some (.normal, s') else some (.exit id', s')
    | r => r)
  | .loop c, s => loopA (aCode pure call c) s
  | .gloop k c, s => loopA (fun s1 => aCode pure call c (gc s.h.length k s1)) s
  | .frame k c, s => (aCode pure call c s).map (gcE s.h.length k)
  | .freeze t c, s => aCode pure call c (freezeS t s)
  | .view c, s => aCode pure call c (viewS s)
  | .range k b c, s => rangeA (aOps pure call) k (aCode pure call b) (aCode pure call c) s
  | .exit id, s => some (.exit id, s)
  | .ret, s => some (.ret, s)
  | .stuck, _ => none
/-! ### What is found without bounds is found with some -/
section
variable {pure : Nat → Bool} {L : Lib}
theorem doCall_fin {f : Nat} {a : List AVal} {h : Heap} {r : ARes × Heap} (hr : doCall pure (call L) f a h = some r) : ∃ n, doCall pure (callN L n) f a h = some r := by
  unfold doCall at hr
  split at hr
  · rename_i hp
    cases hx : call L f (a.map wipe) [] with
    | none => rw [hx] at hr; cases hr
    | some x =>
      rw [hx] at hr
      obtain ⟨n, hn⟩ := call_some.1 hx
      refine ⟨n, ?_⟩
      unfold doCall
      rw [if_pos hp, hn]
      exact hr
  · rename_i hp
    unfold rCall at hr
    split at hr
    · rename_i hq
      cases hx : call L f (a.map (ren fun i => posOf i (rootsOf a h) 0)) (subHeap (rootsOf a h) h) with
      | none => rw [hx] at hr; cases hr
      | some x =>
        rw [hx] at hr
        obtain ⟨n, hn⟩ := call_some.1 hx
        refine ⟨n, ?_⟩
        unfold doCall rCall
        rw [if_neg hp, if_pos hq, hn]
        exact hr
    · cases hr
theorem aOp_fin {o : AOp} {tm : Tmps} {h : Heap} {r : ARes × Heap} (hr : aOp pure (call L) o tm h = some r) : ∃ n, aOp pure (callN L n) o tm h = some r := by
  cases o with
  | vcall f args =>
    simp only [aOp] at hr ⊢
    unfold vCall at hr
    split at hr
    · rename_i hp
      cases hx : call L f ((args.map (opd tm)).map (lookV h)) [] with
      | none => rw [hx] at hr; cases hr
      | some x =>
        rw [hx] at hr
        obtain ⟨n, hn⟩ := call_some.1 hx
        refine ⟨n, ?_⟩
        unfold vCall
        rw [if_pos hp, hn]
        exact hr
    · cases hr
  | hcall f args =>
    simp only [aOp] at hr ⊢
    split at hr
    · rename_i hf
      exact call_some.1 hr
    · cases hr
  | call f args =>
    simp only [aOp] at hr ⊢
    split at hr
    · rename_i hf
      exact doCall_fin hr
    · cases hr
  | pcallV f args =>
    simp only [aOp] at hr ⊢
    split at hr
    · rename_i hf
      unfold qCall at hr
      split at hr
      · rename_i hc'
        unfold onlyVal at hr
        split at hr
        · rename_i v h' hd
          obtain ⟨n, hn⟩ := doCall_fin hd
          refine ⟨n, ?_⟩
          unfold qCall
          rw [if_pos hc', hn]
          exact hr
        · cases hr
      · cases hr
    · cases hr
  | pcall f args =>
    simp only [aOp] at hr ⊢
    split at hr
    · rename_i hc'
      unfold onlyVal at hr
      split at hr
      · rename_i v h' hd
        obtain ⟨n, hn⟩ := doCall_fin hd
        refine ⟨n, ?_⟩
        rw [if_pos hc', hn]
        exact hr
      · cases hr
    · cases hr
  | _ => exact ⟨0, hr⟩
theorem aOps_fin : ∀ (l : List Step) {s : St} {r : AExit × St}, aOps pure (call L) l s = some r → ∃ n, aOps pure (callN L n) l s = some r := by
  intro l
  induction l with
  | nil => intro s r hr; exact ⟨0, hr⟩
  | cons o rest ih =>
    intro s r hr
    rw [aOps] at hr
    split at hr
    · rename_i hw
      cases hx : aOp pure (call L) o.op s.tm s.h with
      | none => rw [hx] at hr; cases hr
      | some x =>
        rw [hx] at hr
        obtain ⟨n, hn⟩ := aOp_fin hx
        obtain ⟨v, h⟩ := x
        cases v with
        | val v =>
          obtain ⟨m, hm⟩ := ih hr
          refine ⟨max n m, ?_⟩
          rw [aOps, hw]
          dsimp only
          rw [aOp_mono (callN_le L (Nat.le_max_left n m)) _ _ _ _ hn]
          exact aOps_mono (callN_le L (Nat.le_max_right n m)) _ _ _ hm
        | panic v =>
          refine ⟨n, ?_⟩
          rw [aOps, hw]
          dsimp only
          rw [hn]
          exact hr
    · rename_i hw
      obtain ⟨m, hm⟩ := ih hr
      exact ⟨m, by rw [aOps, hw]; exact hm⟩
    · cases hr
theorem aOpK_fin {o : AOp} {tm : Tmps} {h : Heap} {r : ARes × Heap} (hr : aOpK pure (call L) o tm h = some r) : ∃ n, aOpK pure (callN L n) o tm h = some r := by
  cases o with
  | pcall f args =>
    simp only [aOpK] at hr ⊢
    unfold kCall at hr
    split at hr
    · rename_i hp
      cases hx : call L f ((args.map (opd tm)).map wipe) [] with
      | none => rw [hx] at hr; cases hr
      | some x =>
        rw [hx] at hr
        obtain ⟨n, hn⟩ := call_some.1 hx
        refine ⟨n, ?_⟩
        unfold kCall
        rw [if_pos hp, hn]
        exact hr
    · cases hr
  | append sz bytes x y =>
    simp only [aOpK] at hr ⊢
    split at hr
    · rename_i hq
      refine ⟨0, ?_⟩
      rw [if_pos hq]
      exact hr
    · rename_i hq
      obtain ⟨n, hn⟩ := aOp_fin hr
      refine ⟨n, ?_⟩
      rw [if_neg hq]
      exact hn
  | _ => simp only [aOpK] at hr ⊢; exact aOp_fin hr
theorem aOpsK_fin : ∀ (l : List Step) {s : St} {r : AExit × St}, aOpsK pure (call L) l s = some r → ∃ n, aOpsK pure (callN L n) l s = some r := by
  intro l
  induction l with
  | nil => intro s r hr; exact ⟨0, hr⟩
  | cons o rest ih =>
    intro s r hr
    rw [aOpsK] at hr
    split at hr
    · rename_i hw
      cases hx : aOpK pure (call L) o.op s.tm s.h with
      | none => rw [hx] at hr; cases hr
      | some x =>
        rw [hx] at hr
        obtain ⟨n, hn⟩ := aOpK_fin hx
        obtain ⟨v, h⟩ := x
        cases v with
        | val v =>
          obtain ⟨m, hm⟩ := ih hr
          refine ⟨max n m, ?_⟩
          rw [aOpsK, hw]
          dsimp only
          rw [aOpK_mono (callN_le L (Nat.le_max_left n m)) _ _ _ _ hn]
          exact aOpsK_mono (callN_le L (Nat.le_max_right n m)) _ _ _ hm
        | panic v =>
          refine ⟨n, ?_⟩
          rw [aOpsK, hw]
          dsimp only
          rw [hn]
          exact hr
    · rename_i hw
      obtain ⟨m, hm⟩ := ih hr
      exact ⟨m, by rw [aOpsK, hw]; exact hm⟩
    · cases hr
theorem aOpsH_fin : ∀ (l : List Step) {tm : Tmps} {hs : List Heap} {h : Heap} {r : Tmps × List Heap × Heap}, aOpsH pure (call L) l tm hs h = some r → ∃ n, aOpsH pure (callN L n) l tm hs h = some r := by
  intro l
  induction l with
  | nil => intro tm hs h r hr; exact ⟨0, hr⟩
  | cons o rest ih =>
    intro tm hs h r hr
    rw [aOpsH] at hr
    split at hr
    · rename_i hw
      cases hx : aOp pure (call L) o.op tm h with
      | none => rw [hx] at hr; cases hr
      | some x =>
        rw [hx] at hr
        obtain ⟨n, hn⟩ := aOp_fin hx
        obtain ⟨v, h'⟩ := x
        cases v with
        | val v =>
          obtain ⟨m, hm⟩ := ih hr
          refine ⟨max n m, ?_⟩
          rw [aOpsH, hw]
          dsimp only
          rw [aOp_mono (callN_le L (Nat.le_max_left n m)) _ _ _ _ hn]
          exact aOpsH_mono (callN_le L (Nat.le_max_right n m)) _ _ _ _ _ hm
        | panic v => cases hr
    · rename_i hw
      obtain ⟨m, hm⟩ := ih hr
      exact ⟨m, by rw [aOpsH, hw]; exact hm⟩
    · cases hr
theorem loop_fin (c : ACode) (g : St → St) (ih : ∀ {s : St} {r : AExit × St}, aCode pure (call L) c s = some r → ∃ n, aCodeN pure (callN L n) n c s = some r) {r : AExit × St} :
    ∀ k s, loopN (fun s1 => aCode pure (call L) c (g s1)) k s = some r → ∃ n, loopN (fun s1 => aCodeN pure (callN L n) n c (g s1)) n s = some r := by
  intro k
  induction k with
  | zero => intro s h; cases h
  | succ k ihk =>
    intro s h
    rw [loopN] at h
    cases hx : aCode pure (call L) c (g s) with
    | none => rw [hx] at h; cases h
    | some x =>
      rw [hx] at h
      obtain ⟨n, hn⟩ := ih hx
      obtain ⟨e, s'⟩ := x
      cases e with
      | normal =>
        obtain ⟨m, hm⟩ := ihk s' h
        refine ⟨max n m + 1, ?_⟩
        rw [loopN, aCodeN_mono (callN_le L (Nat.le_trans (Nat.le_max_left n m) (Nat.le_succ _))) (Nat.le_trans (Nat.le_max_left n m) (Nat.le_succ _)) _ _ _ hn]
        exact loopN_mono (fun s => aCodeN_mono (callN_le L (Nat.le_trans (Nat.le_max_right n m) (Nat.le_succ _))) (Nat.le_trans (Nat.le_max_right n m) (Nat.le_succ _)) _ _) (Nat.le_max_right n m) _ _ hm
      | _ =>
        refine ⟨n + 1, ?_⟩
        rw [loopN, aCodeN_mono (callN_le L (Nat.le_succ n)) (Nat.le_succ n) _ _ _ hn]
        exact h
/-- All orders of a list. -/
def putAll (x : AVal × AVal) : List (AVal × AVal) → List (List (AVal × AVal))
  | [] => [[x]]
  | y :: ys => (x :: y :: ys) :: (putAll x ys).map (y :: ·)
def allOrders : List (AVal × AVal) → List (List (AVal × AVal))
  | [] => [[]]
  | x :: xs => (allOrders xs).flatMap (putAll x)
theorem mem_putAll (x : AVal × AVal) : ∀ l r : List (AVal × AVal), l ++ x :: r ∈ putAll x (l ++ r)
  | [], [] => by simp [putAll]
  | [], y :: ys => by simp [putAll]
  | y :: l, r => by
    simp only [List.cons_append, putAll, List.mem_cons, List.mem_map]
    exact .inr ⟨_, mem_putAll x l r, rfl⟩
theorem mem_allOrders : ∀ (es es' : List (AVal × AVal)), es'.Perm es → es' ∈ allOrders es
  | [], es', h => by rw [h.eq_nil]; simp [allOrders]
  | x :: xs, es', h => by
    obtain ⟨l, r, rfl⟩ := List.append_of_mem (h.mem_iff.2 (List.mem_cons_self ..))
    have h1 : (l ++ r).Perm xs := by
      have := (List.perm_middle (a := x) (l₁ := l) (l₂ := r)).symm.trans h
      exact this.cons_inv
    simp only [allOrders, List.mem_flatMap]
    exact ⟨_, mem_allOrders xs _ h1, mem_putAll x l r⟩
/-- What is found for each of finitely many is found for all at once. -/
theorem fin_all {α : Type} (Q : Nat → α → Prop) (hm : ∀ n m a, n ≤ m → Q n a → Q m a) : ∀ (l : List α), (∀ a ∈ l, ∃ n, Q n a) → ∃ n, ∀ a ∈ l, Q n a
  | [], _ => ⟨0, fun a ha => by cases ha⟩
  | a :: l, h => by
    obtain ⟨n, hn⟩ := h a (by simp)
    obtain ⟨m, hm'⟩ := fin_all Q hm l fun b hb => h b (by simp [hb])
    refine ⟨max n m, fun b hb => ?_⟩
    rcases List.mem_cons.1 hb with rfl | hb
    · exact hm _ _ _ (Nat.le_max_left n m) hn
    · exact hm _ _ _ (Nat.le_max_right n m) (hm' b hb)
section
variable {b c : ACode}
theorem opsN_le {n m : Nat} (h : n ≤ m) (l : List Step) (s : St) : Le (aOps pure (callN L n) l s) (aOps pure (callN L m) l s) := aOps_mono (callN_le L h) l s
theorem codeN_le {n m : Nat} (h : n ≤ m) (s : St) : Le (aCodeN pure (callN L n) n b s) (aCodeN pure (callN L m) m b s) := aCodeN_mono (callN_le L h) h b s
theorem rangeRound_fin (hb : ∀ {s : St} {r : AExit × St}, aCode pure (call L) b s = some r → ∃ n, aCodeN pure (callN L n) n b s = some r) (i : Nat) (k : RangeK) (e : AVal × AVal) {s : St} {r : AExit × St}
    (hr : rangeRound (aOps pure (call L)) i k (aCode pure (call L) b) e s = some r) : ∃ n, rangeRound (aOps pure (callN L n)) i k (aCodeN pure (callN L n) n b) e s = some r := by
  unfold rangeRound at hr
  split at hr
  case isFalse => cases hr
  rename_i g0
  cases hx : aOps pure (call L) k.r1 ⟨upd s.tm (some k.dn) (.tuple [.bool true, e.1, e.2]), s.h⟩ with
  | none => rw [hx] at hr; cases hr
  | some x =>
    rw [hx] at hr
    obtain ⟨n1, hn1⟩ := aOps_fin _ hx
    obtain ⟨q, s1⟩ := x
    cases q with
    | normal =>
      dsimp only at hr
      split at hr
      case isFalse => cases hr
      rename_i g1
      split at hr
      · rename_i hq
        unfold thenR at hr
        cases hy : aOps pure (call L) k.r2 ⟨upd s1.tm k.de (.tuple [e.1, e.2]), s1.h⟩ with
        | none => rw [hy] at hr; cases hr
        | some y =>
          rw [hy] at hr
          obtain ⟨n2, hn2⟩ := aOps_fin _ hy
          obtain ⟨q2, s2⟩ := y
          cases q2 with
          | normal =>
            dsimp only at hr
            cases hz : aCode pure (call L) b s2 with
            | none => rw [hz] at hr; cases hr
            | some z =>
              obtain ⟨n3, hn3⟩ := hb hz
              rw [hz] at hr
              refine ⟨max n1 (max n2 n3), ?_⟩
              unfold rangeRound thenR
              rw [if_pos g0, opsN_le (Nat.le_max_left _ _) _ _ _ hn1]
              dsimp only
              rw [if_pos g1, hq]
              dsimp only
              rw [opsN_le (Nat.le_trans (Nat.le_max_left n2 n3) (Nat.le_max_right _ _)) _ _ _ hn2]
              dsimp only
              rw [codeN_le (Nat.le_trans (Nat.le_max_right n2 n3) (Nat.le_max_right _ _)) _ _ hn3]
              exact hr
          | _ =>
            refine ⟨max n1 n2, ?_⟩
            unfold rangeRound thenR
            rw [if_pos g0, opsN_le (Nat.le_max_left _ _) _ _ _ hn1]
            dsimp only
            rw [if_pos g1, hq]
            dsimp only
            rw [opsN_le (Nat.le_max_right _ _) _ _ _ hn2]
            exact hr
      · cases hr
    | _ => cases hr
theorem rangeEnd_fin (i : Nat) (k : RangeK) {s : St} {r : AExit × St} (hr : rangeEnd (aOps pure (call L)) i k s = some r) : ∃ n, rangeEnd (aOps pure (callN L n)) i k s = some r := by
  unfold rangeEnd at hr
  split at hr
  case isFalse => cases hr
  rename_i g0
  cases hx : aOps pure (call L) k.r1 ⟨upd s.tm (some k.dn) (.tuple [.bool false]), s.h⟩ with
  | none => rw [hx] at hr; cases hr
  | some x =>
    rw [hx] at hr
    obtain ⟨n1, hn1⟩ := aOps_fin _ hx
    exact ⟨n1, by unfold rangeEnd; rw [if_pos g0, hn1]; exact hr⟩
theorem rangeRun_fin (hb : ∀ {s : St} {r : AExit × St}, aCode pure (call L) b s = some r → ∃ n, aCodeN pure (callN L n) n b s = some r) (i : Nat) (k : RangeK) : ∀ (es : List (AVal × AVal)) {s : St} {r : AExit × St},
    rangeRun (aOps pure (call L)) i k (aCode pure (call L) b) es s = some r → ∃ n, rangeRun (aOps pure (callN L n)) i k (aCodeN pure (callN L n) n b) es s = some r
  | [], s, r, hr => rangeEnd_fin i k hr
  | e :: es, s, r, hr => by
    rw [rangeRun] at hr
    cases hx : rangeRound (aOps pure (call L)) i k (aCode pure (call L) b) e (gc (i + 1) k.kr s) with
    | none => rw [hx] at hr; cases hr
    | some x =>
      rw [hx] at hr
      obtain ⟨n, hn⟩ := rangeRound_fin hb i k e hx
      obtain ⟨q, s1⟩ := x
      cases q with
      | normal =>
        obtain ⟨m, hm⟩ := rangeRun_fin hb i k es hr
        refine ⟨max n m, ?_⟩
        rw [rangeRun, rangeRound_mono (fun l s => opsN_le (Nat.le_max_left n m) l s) (fun s => codeN_le (Nat.le_max_left n m) s) i k e _ _ hn]
        exact rangeRun_mono (fun l s => opsN_le (Nat.le_max_right n m) l s) (fun s => codeN_le (Nat.le_max_right n m) s) i k es _ _ hm
      | _ => exact ⟨n, by rw [rangeRun, hn]; exact hr⟩
theorem rangeOne_fin (hb : ∀ {s : St} {r : AExit × St}, aCode pure (call L) b s = some r → ∃ n, aCodeN pure (callN L n) n b s = some r) (hc : ∀ {s : St} {r : AExit × St}, aCode pure (call L) c s = some r → ∃ n, aCodeN pure (callN L n) n c s = some r)
    (k : RangeK) (s s1 : St) (es : List (AVal × AVal)) {r : AExit × St} (hr : rangeOne (aOps pure (call L)) k (aCode pure (call L) b) (aCode pure (call L) c) s s1 es = some r) :
    ∃ n, rangeOne (aOps pure (callN L n)) k (aCodeN pure (callN L n) n b) (aCodeN pure (callN L n) n c) s s1 es = some r := by
  unfold rangeOne at hr
  obtain ⟨x, hx, rfl⟩ := Option.map_eq_some_iff.1 hr
  cases hy : rangeRun (aOps pure (call L)) s1.h.length k (aCode pure (call L) b) es ⟨upd s1.tm (some k.it) (.ptr (some (s1.h.length, 0))), hide (opd s1.tm k.m) s1.h⟩ with
  | none => rw [hy] at hx; cases hx
  | some y =>
    rw [hy] at hx
    obtain ⟨n, hn⟩ := rangeRun_fin hb _ k es hy
    obtain ⟨q, s2⟩ := y
    cases q with
    | normal =>
      obtain ⟨m, hm⟩ := hc hx
      refine ⟨max n m, ?_⟩
      unfold rangeOne
      rw [rangeRun_mono (fun l s => opsN_le (Nat.le_max_left n m) l s) (fun s => codeN_le (Nat.le_max_left n m) s) _ k es _ _ hn]
      dsimp only
      rw [codeN_le (Nat.le_max_right n m) _ _ hm]
      rfl
    | _ =>
      refine ⟨n, ?_⟩
      unfold rangeOne
      rw [hn]
      dsimp only at hx ⊢
      rw [hx]
      rfl
end
theorem aCode_fin : ∀ (c : ACode) {s : St} {r : AExit × St}, aCode pure (call L) c s = some r → ∃ n, aCodeN pure (callN L n) n c s = some r := by
  intro c
  induction c with
  | skip => intro s r hr; exact ⟨0, hr⟩
  | ops l => intro s r hr; exact aOps_fin l hr
  | kops l => intro s r hr; exact aOpsK_fin l hr
  | mdraw k l ns => intro s r hr; exact ⟨0, hr⟩
  | draw l cs =>
    intro s r hr
    rw [aCode] at hr
    unfold aDraw at hr
    cases hx : aOpsH pure (call L) l s.tm [] s.h with
    | none => rw [hx] at hr; cases hr
    | some x =>
      rw [hx] at hr
      obtain ⟨n, hn⟩ := aOpsH_fin l hx
      exact ⟨n, by rw [aCodeN]; unfold aDraw; rw [hn]; exact hr⟩
  | seq a b iha ihb =>
    intro s r hr
    rw [aCode] at hr
    cases hx : aCode pure (call L) a s with
    | none => rw [hx] at hr; cases hr
    | some x =>
      rw [hx] at hr
      obtain ⟨n, hn⟩ := iha hx
      obtain ⟨e, s'⟩ := x
      cases e with
      | normal =>
        obtain ⟨m, hm⟩ := ihb hr
        refine ⟨max n m, ?_⟩
        rw [aCodeN, aCodeN_mono (callN_le L (Nat.le_max_left n m)) (Nat.le_max_left n m) _ _ _ hn]
        exact aCodeN_mono (callN_le L (Nat.le_max_right n m)) (Nat.le_max_right n m) _ _ _ hm
      | _ => exact ⟨n, by rw [aCodeN, hn]; exact hr⟩
  | cond c a b iha ihb =>
    intro s r hr
    rw [aCode] at hr
    split at hr
    · rename_i t ht
      cases t with
      | true =>
        obtain ⟨n, hn⟩ := iha hr
        exact ⟨n, by rw [aCodeN, ht]; exact hn⟩
      | false =>
        obtain ⟨n, hn⟩ := ihb hr
        exact ⟨n, by rw [aCodeN, ht]; exact hn⟩
    · cases hr
  | block id c ih =>
    intro s r hr
    rw [aCode] at hr
    cases hx : aCode pure (call L) c s with
    | none => rw [hx] at hr; cases hr
    | some x =>
      rw [hx] at hr
      obtain ⟨n, hn⟩ := ih hx
      exact ⟨n, by rw [aCodeN, hn]; exact hr⟩
  | loop c ih =>
    intro s r hr
    rw [aCode] at hr
    obtain ⟨k, hk⟩ := loopA_some.1 hr
    obtain ⟨n, hn⟩ := loop_fin c (fun s => s) (fun hx => ih hx) k s hk
    exact ⟨n, by rw [aCodeN]; exact hn⟩
  | gloop kp c ih =>
    intro s r hr
    rw [aCode] at hr
    obtain ⟨k, hk⟩ := loopA_some.1 hr
    obtain ⟨n, hn⟩ := loop_fin c (fun s1 => gc s.h.length kp s1) (fun hx => ih hx) k s hk
    exact ⟨n, by rw [aCodeN]; exact hn⟩
  | view c ih =>
    intro s r hr
    obtain ⟨n, hn⟩ := ih hr
    exact ⟨n, hn⟩
  | freeze t c ih =>
    intro s r hr
    obtain ⟨n, hn⟩ := ih hr
    exact ⟨n, hn⟩
  | range k b c ihb ihc =>
    intro s r hr
    rw [aCode, rangeA_eq] at hr
    cases hx : aOps pure (call L) k.pre s with
    | none => rw [hx] at hr; cases hr
    | some x =>
      rw [hx] at hr
      obtain ⟨n, hn⟩ := aOps_fin _ hx
      obtain ⟨q, s1⟩ := x
      cases q with
      | normal =>
        dsimp only at hr
        split at hr
        · rename_i es hes
          have h1 := (agreed_some (inOrder_self _ _)).1 hr
          obtain ⟨m, hm⟩ := fin_all (fun n es' => inOrder k.str es es' → rangeOne (aOps pure (callN L n)) k (aCodeN pure (callN L n) n b) (aCodeN pure (callN L n) n c) s s1 es' = some r)
            (fun n m a hnm h ho => rangeOne_mono (fun l s => opsN_le hnm l s) (fun s => codeN_le hnm s) (fun s => codeN_le hnm s) k s s1 a r (h ho)) (es :: allOrders es)
            (fun a _ => by
              by_cases ho : inOrder k.str es a
              · obtain ⟨n, hn⟩ := rangeOne_fin ihb ihc k s s1 a (h1 a ho)
                exact ⟨n, fun _ => hn⟩
              · exact ⟨0, fun h => absurd h ho⟩)
          refine ⟨max n m, ?_⟩
          rw [aCodeN, rangeA_eq, opsN_le (Nat.le_max_left n m) _ _ _ hn]
          dsimp only
          rw [hes]
          dsimp only
          refine (agreed_some (inOrder_self _ _)).2 fun es' he => ?_
          refine rangeOne_mono (fun l s => opsN_le (Nat.le_max_right n m) l s) (fun s => codeN_le (Nat.le_max_right n m) s) (fun s => codeN_le (Nat.le_max_right n m) s) k s s1 es' r (hm es' ?_ he)
          unfold inOrder at he
          split at he
          · rw [he]; simp
          · exact List.mem_cons_of_mem _ (mem_allOrders es es' he)
        · cases hr
      | _ => cases hr
  | frame kp c ih =>
    intro s r hr
    rw [aCode] at hr
    obtain ⟨x, hx, rfl⟩ := Option.map_eq_some_iff.1 hr
    obtain ⟨n, hn⟩ := ih hx
    exact ⟨n, by rw [aCodeN, hn]; rfl⟩
  | exit id => intro s r hr; exact ⟨0, hr⟩
  | ret => intro s r hr; exact ⟨0, hr⟩
  | stuck => intro s r hr; exact ⟨0, hr⟩
end
theorem call_of {L : Lib} {f : Nat} {fn : AFn} (hs : L.summ f = none) (hf : L.fns f = some fn) {a : List AVal} {h : Heap} {r : ARes × Heap}
    (hr : endFn fn.results (aCode L.pure (call L) fn.body ⟨initTm a, h⟩) = some r) : call L f a h = some r := by
  cases hx : aCode L.pure (call L) fn.body ⟨initTm a, h⟩ with
  | none => rw [hx] at hr; cases hr
  | some x =>
    rw [hx] at hr
    obtain ⟨n, hn⟩ := aCode_fin _ hx
    refine call_some.2 ⟨n + 1, ?_⟩
    rw [callN, hs]
    dsimp only
    rw [hf]
    dsimp only
    rw [hn]
    exact hr
theorem call_summ {L : Lib} {f : Nat} {s : List AVal → Heap → Option (ARes × Heap)} (hs : L.summ f = some s) {a : List AVal} {h : Heap} {r : ARes × Heap} (hr : s a h = some r) : call L f a h = some r :=
  call_some.2 ⟨1, by rw [callN, hs]; exact hr⟩
end Go.Abs
