/-
  Functions that are given by what they do: what is asked of them. Conditions: none.
-/
import Derived.Test.YtlielgleabghlaaDoorAbsN
import Derived.Below

set_option linter.unusedVariables false
namespace Go.Abs
open Go.RowKit
variable {E : Env} {G : Ghost} {h : Heap} {w w' : World}

theorem post_below (hi : Inv E G h w) (hb : Below w.heap.size w w') : Post E G h w G h w' := by
  have hc : ∀ b o v, G.fix b o = some v → w'.cell? ⟨b, o, none⟩ = some v := by
    intro b o v e
    have h1 := hi.fix b o v e
    have h2 : b < w.heap.size := hi.fix_lt (b := b) (by rw [e]; simp)
    have h3 := hb.block b h2
    unfold World.cell? at h1 ⊢
    rw [h3]
    exact h1
  refine ⟨.refl G, ⟨hc, hi.one, fun id o e => ?_, hi.sep, hi.dom⟩, hb.size, fun b hlt _ => hb.block b hlt, fun _ _ e => .inl e, fun _ e => .inl e, hb.os, hb.tape, hb.output⟩
  exact (hi.obj id o e).keep (.refl G) (fun b ho => hb.block b (hi.owns_lt e ho)) (fun _ _ _ => rfl) (fun _ => rfl)

/-- Nothing is said of it. -/
theorem summ_none (E : Env) (f : FuncId) : SummOk E f (fun _ _ => none) := by
  intro G h w args vs r h' hr
  cases hr

theorem repL_one {c : AVal} {vs : Array Value} (h : RepL E G [c] vs.toList) : ∃ x, vs = #[x] ∧ Rep E G c x := by
  have hl := h.len
  obtain ⟨l⟩ := vs
  match l, hl with
  | [x], _ => exact ⟨x, rfl, h.rep 0 c x rfl rfl⟩
theorem repL_two {c d : AVal} {vs : Array Value} (h : RepL E G [c, d] vs.toList) : ∃ x y, vs = #[x, y] ∧ Rep E G c x ∧ Rep E G d y := by
  have hl := h.len
  obtain ⟨l⟩ := vs
  match l, hl with
  | [x, y], _ => exact ⟨x, y, rfl, h.rep 0 c x rfl rfl, h.rep 1 d y rfl rfl⟩
theorem rep_str {s : ByteArray} {x : Value} (h : Rep E G (.str s) x) : x = .string s := by cases h; rfl
theorem rep_intv {k : IntKind} {n : Int} {x : Value} (h : Rep E G (.int k n) x) : x = .int k n := by cases h; rfl

/-- Two strings in, an answer without names out. -/
theorem summ_str2 {f : FuncId} {s : List AVal → Heap → Option (ARes × Heap)} (F : ByteArray → ByteArray → Int)
    (hs : ∀ args h r, s args h = some r → ∃ a b, args = [.str a, .str b] ∧ r = (.val (.int .i64 (F a b)), h))
    (hc : ∀ a b w, Calls E.P f #[.string a, .string b] w fun e w' => e = .returned (.int .i64 (F a b)) ∧ w' = w) : SummOk E f s := by
  intro G h w args vs r h' hr ha hi hg
  obtain ⟨a, b, rfl, hx⟩ := hs args h _ hr
  injection hx with h1 h2
  subst h1 h2
  obtain ⟨x, y, rfl, hx, hy⟩ := repL_two ha
  rw [rep_str hx, rep_str hy]
  refine (hc a b w).mono fun e w' ⟨he, hw⟩ => ?_
  subst he hw
  exact ⟨G, .refl hi, _, rfl, .int _ _⟩

/-- The same, where the heap may grow. -/
theorem calls_int_below {f : FuncId} {vs : Array Value} {n : Int} {h : Heap} (hi : Inv E G h w)
    (hc : Calls E.P f vs w fun e w' => e = .returned (.int .i64 n) ∧ Below w.heap.size w w') :
    Calls E.P f vs w fun e w' => ∃ G', Post E G h w G' h w' ∧ RepRes E G' (.val (.int .i64 n)) e :=
  hc.mono fun e w' ⟨he, hb⟩ => ⟨G, post_below hi hb, _, he, .int _ _⟩
end Go.Abs
