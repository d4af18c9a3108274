/-
  Loops that carry a state, and regions in all orders: the rules. Conditions: none.
-/
import Derived.Test.YtciacognbcgfiaaDoorCoreF

set_option linter.unusedVariables false
set_option linter.unusedSimpArgs false
namespace Go.Abs
def foldE {α σ ε : Type} (step : Nat → σ → α → Except ε σ) : List α → Nat → σ → Except ε σ
  | [], _, s => .ok s
  | x :: xs, i, s => match step i s x with | .ok s' => foldE step xs (i + 1) s' | .error e => .error e
theorem loopF_foldE {pure : Nat → Bool} {call : CallT} {b : Nat} {keep fk : List Nat} {id : Nat} {body : ACode} {α σ ε : Type} (xs : List α) (step : Nat → σ → α → Except ε σ) (C : σ → Nat → St) (T : σ → St) (Ret : ε → St → Prop) (Inv : σ → Nat → Prop) (s0 : σ) (hI : Inv s0 0)
    (h0 : ∀ (i : Nat) (hi : i < xs.length) (s s' : σ), Inv s i → step i s xs[i] = .ok s' → roundF pure call b keep fk body (C s i) = some (.normal, C s' (i + 1)) ∧ Inv s' (i + 1))
    (h1 : ∀ (i : Nat) (hi : i < xs.length) (s : σ) (e : ε), Inv s i → step i s xs[i] = .error e → ∃ R, Ret e R ∧ roundF pure call b keep fk body (C s i) = some (.ret, R))
    (hend : ∀ s, Inv s xs.length → roundF pure call b keep fk body (C s xs.length) = some (.exit id, T s)) :
    (∀ s, foldE step xs 0 s0 = .ok s → Inv s xs.length ∧ loopF pure call b keep fk id body (C s0 0) = some (.normal, T s)) ∧
    (∀ e, foldE step xs 0 s0 = .error e → ∃ R, Ret e R ∧ loopF pure call b keep fk id body (C s0 0) = some (.ret, R)) := by
  have key : ∀ k i s, i + k = xs.length → Inv s i →
      match foldE step (xs.drop i) i s with
      | .ok s' => Inv s' xs.length ∧ loopF pure call b keep fk id body (C s i) = some (.normal, T s')
      | .error e => ∃ R, Ret e R ∧ loopF pure call b keep fk id body (C s i) = some (.ret, R) := by
    intro k
    induction k with
    | zero =>
      intro i s hi hs
      rw [Nat.add_zero] at hi
      subst hi
      rw [List.drop_length]
      exact ⟨hs, loopF_exit (hend s hs)⟩
    | succ k ih =>
      intro i s hi hs
      have hlt : i < xs.length := by omega
      rw [List.drop_eq_getElem_cons hlt, foldE]
      cases hq : step i s xs[i] with
      | ok s' =>
        obtain ⟨h2, h3⟩ := h0 i hlt s s' hs hq
        rw [loopF_next h2]
        exact ih (i + 1) s' (by omega) h3
      | error e =>
        obtain ⟨R, h2, h3⟩ := h1 i hlt s e hs hq
        exact ⟨R, h2, loopF_ret h3⟩
  have := key xs.length 0 s0 (by omega) hI
  rw [List.drop_zero] at this
  exact ⟨fun s hs => by rw [hs] at this; exact this, fun e he => by rw [he] at this; exact this⟩
theorem foldE_foldl {α σ ε : Type} (step : σ → α → σ) : ∀ (xs : List α) (i : Nat) (s : σ), foldE (fun _ s x => (.ok (step s x) : Except ε σ)) xs i s = .ok (xs.foldl step s)
  | [], _, _ => rfl
  | x :: xs, i, s => by rw [foldE]; exact foldE_foldl step xs (i + 1) _
/-- A loop that never leaves early. -/
theorem loopF_fold {pure : Nat → Bool} {call : CallT} {b : Nat} {keep fk : List Nat} {id : Nat} {body : ACode} {α σ : Type} (xs : List α) (step : σ → α → σ) (C : σ → Nat → St) (T : σ → St) (Inv : σ → Nat → Prop) (s0 : σ) (hI : Inv s0 0)
    (h0 : ∀ (i : Nat) (hi : i < xs.length) (s : σ), Inv s i → roundF pure call b keep fk body (C s i) = some (.normal, C (step s xs[i]) (i + 1)) ∧ Inv (step s xs[i]) (i + 1))
    (hend : ∀ s, Inv s xs.length → roundF pure call b keep fk body (C s xs.length) = some (.exit id, T s)) :
    Inv (xs.foldl step s0) xs.length ∧ loopF pure call b keep fk id body (C s0 0) = some (.normal, T (xs.foldl step s0)) := by
  have := loopF_foldE (pure := pure) (call := call) (b := b) (keep := keep) (fk := fk) (id := id) (body := body) (ε := Unit) xs (fun _ s x => .ok (step s x)) C T (fun _ _ => False) Inv s0 hI
    (by
      intro i hi s s' hs hq
      injection hq with hq
      subst hq
      exact h0 i hi s hs)
    (by intro i hi s e _ hq; cases hq) hend
  exact this.1 _ (foldE_foldl step xs 0 s0)
theorem mix_of {keep : List Nat} {l : List Step} {needs : List (List Nat)} {s : St} {r : AExit × St} (hne : runsL l needs ≠ []) (h : ∀ σ ∈ runsL l needs, (aOps (fun _ => false) noCall σ s).map (gcE s.h.length keep) = some r) : aMix keep l needs s = some r := by
  unfold aMix
  have he : ∃ r, ∀ σ ∈ runsL l needs, (aOps (fun _ => false) noCall σ s).map (gcE s.h.length keep) = some r := ⟨r, h⟩
  rw [dif_pos he]
  obtain ⟨σ, hσ⟩ := List.exists_mem_of_ne_nil _ hne
  have h1 := Classical.choose_spec he σ hσ
  rw [h σ hσ] at h1
  injection h1 with h1
  rw [h1]
end Go.Abs
