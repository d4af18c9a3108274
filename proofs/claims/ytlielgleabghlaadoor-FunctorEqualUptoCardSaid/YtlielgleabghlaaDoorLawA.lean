/-
  Plain laws: searching a list in order, sameness of types, matching. Conditions: none.
-/
import Derived.Test.YtlielgleabghlaaDoorSigY
import Derived.Laws.Strings

set_option linter.unusedVariables false
set_option linter.unusedSimpArgs false
namespace Go.Abs

/-! ### The order of strings -/
theorem less_irrefl : ∀ x : List UInt8, Op.bytesLess x x = false
  | [] => rfl
  | a :: x => by simp [Op.bytesLess, less_irrefl x]
theorem less_trans : ∀ {x y z : List UInt8}, Op.bytesLess x y = true → Op.bytesLess y z = true → Op.bytesLess x z = true
  | _, _, [], _, h => by simp [Op.bytesLess] at h
  | _, [], _ :: _, h, _ => by simp [Op.bytesLess] at h
  | [], _ :: _, _ :: _, _, _ => rfl
  | a :: x, b :: y, c :: z, h1, h2 => by
    simp only [Op.bytesLess, Bool.or_eq_true, decide_eq_true_eq, Bool.and_eq_true, beq_iff_eq] at h1 h2 ⊢
    rcases h1 with h1 | ⟨rfl, h1⟩
    · rcases h2 with h2 | ⟨rfl, h2⟩
      · exact .inl (UInt8.lt_trans h1 h2)
      · exact .inl h1
    · rcases h2 with h2 | ⟨rfl, h2⟩
      · exact .inl h2
      · exact .inr ⟨rfl, less_trans h1 h2⟩
theorem less_total : ∀ {x y : List UInt8}, x ≠ y → Op.bytesLess x y = false → Op.bytesLess y x = true
  | [], [], h, _ => absurd rfl h
  | [], _ :: _, _, h => by simp [Op.bytesLess] at h
  | _ :: _, [], _, _ => rfl
  | a :: x, b :: y, h1, h2 => by
    simp only [Op.bytesLess, Bool.or_eq_false_iff, decide_eq_false_iff_not, Bool.and_eq_false_iff, beq_eq_false_iff_ne, Bool.or_eq_true, decide_eq_true_eq, Bool.and_eq_true, beq_iff_eq] at h2 ⊢
    by_cases hab : a = b
    · subst hab
      right
      refine ⟨rfl, less_total (fun hx => h1 (by rw [hx])) ?_⟩
      rcases h2.2 with h3 | h3
      · exact absurd rfl h3
      · exact h3
    · left
      have h4 : a.toNat ≠ b.toNat := fun hx => hab (UInt8.toNat_inj.1 hx)
      have h5 : ¬ a.toNat < b.toNat := fun hx => h2.1 (UInt8.lt_iff_toNat_lt.2 hx)
      exact UInt8.lt_iff_toNat_lt.2 (by omega)
theorem toList_inj {a b : ByteArray} (h : a.toList = b.toList) : a = b := by
  rw [ByteArray.toList_eq, ByteArray.toList_eq] at h
  exact ByteArray.ext (Array.toList_inj.mp h)
def ltB (a b : ByteArray) : Bool := Op.bytesLess a.toList b.toList
theorem ltB_irrefl (a : ByteArray) : ltB a a = false := less_irrefl _
theorem ltB_trans {a b c : ByteArray} (h1 : ltB a b = true) (h2 : ltB b c = true) : ltB a c = true := less_trans h1 h2
theorem ltB_total {a b : ByteArray} (h : a ≠ b) (h2 : ltB a b = false) : ltB b a = true := less_total (fun hx => h (toList_inj hx)) h2
theorem ltB_ne {a b : ByteArray} (h : ltB a b = true) : a ≠ b := fun hx => by rw [hx, ltB_irrefl] at h; cases h
theorem ltB_asymm {a b : ByteArray} (h : ltB a b = true) : ltB b a = false := by
  cases hx : ltB b a with
  | false => rfl
  | true => have := ltB_trans h hx; rw [ltB_irrefl] at this; cases this
theorem cmpB_neg {a b : ByteArray} : cmpB a b < 0 ↔ ltB a b = true := by
  unfold cmpB ltB
  by_cases h : a = b
  · rw [if_pos h, h, less_irrefl]
    simp
  · rw [if_neg h]
    split
    · rename_i h2
      simp [h2]
    · rename_i h2
      simp [h2]
theorem cmpB_zero {a b : ByteArray} : (cmpB a b == 0) = decide (a = b) := by
  unfold cmpB
  by_cases h : a = b
  · simp [h]
  · rw [if_neg h]
    split <;> simp [h]

/-! ### Searching -/
/-- What the search returns: everything before is less, everything from there on is not. -/
theorem bloop_spec {α : Type} (cmp : α → Int) (xs : List α) (hm : ∀ (i j : Nat) (x y : α), xs[i]? = some x → xs[j]? = some y → i ≤ j → cmp y < 0 → cmp x < 0) :
    ∀ (n i j : Nat), j - i = n → i ≤ j → j ≤ xs.length → (∀ (k : Nat) (x : α), k < i → xs[k]? = some x → cmp x < 0) → (∀ (k : Nat) (x : α), j ≤ k → xs[k]? = some x → ¬ cmp x < 0) →
      i ≤ bloop cmp xs i j ∧ bloop cmp xs i j ≤ j ∧ (∀ (k : Nat) (x : α), k < bloop cmp xs i j → xs[k]? = some x → cmp x < 0) ∧ ∀ (k : Nat) (x : α), bloop cmp xs i j ≤ k → xs[k]? = some x → ¬ cmp x < 0 := by
  intro n
  induction n using Nat.strongRecOn with
  | ind n ih =>
    intro i j hn hij hj h1 h2
    rw [bloop]
    by_cases hlt : i < j
    · rw [dif_pos hlt]
      have hmid : (i + j) / 2 < xs.length := by omega
      rw [List.getElem?_eq_getElem hmid]
      dsimp only
      have hget : xs[(i + j) / 2]? = some xs[(i + j) / 2] := List.getElem?_eq_getElem hmid
      split
      · rename_i hc
        have := ih (j - ((i + j) / 2 + 1)) (by omega) ((i + j) / 2 + 1) j rfl (by omega) hj (fun k x hk hx => hm k _ x _ hx hget (by omega) hc) h2
        exact ⟨by omega, this.2⟩
      · rename_i hc
        have := ih ((i + j) / 2 - i) (by omega) i ((i + j) / 2) rfl (by omega) (by omega) h1 (fun k x hk hx hneg => hc (hm _ k _ x hget hx hk hneg))
        exact ⟨this.1, by omega, this.2.2⟩
    · rw [dif_neg hlt]
      have hij' : i = j := by omega
      exact ⟨Nat.le_refl _, hij, h1, fun k x hk hx => h2 k x (by omega) hx⟩

/-- Names in order. -/
def InOrder {α : Type} (nm : α → ByteArray) (xs : List α) : Prop := xs.Pairwise fun x y => ltB (nm x) (nm y) = true

theorem order_mono {α : Type} {nm : α → ByteArray} {xs : List α} (h : InOrder nm xs) (n : ByteArray) (i j : Nat) (x y : α) (hx : xs[i]? = some x) (hy : xs[j]? = some y) (hij : i ≤ j) (hc : cmpB (nm y) n < 0) : cmpB (nm x) n < 0 := by
  rcases Nat.lt_or_eq_of_le hij with hlt | rfl
  · obtain ⟨hi, rfl⟩ := List.getElem?_eq_some_iff.1 hx
    obtain ⟨hj, rfl⟩ := List.getElem?_eq_some_iff.1 hy
    exact cmpB_neg.2 (ltB_trans (List.pairwise_iff_getElem.1 h i j hi hj hlt) (cmpB_neg.1 hc))
  · rw [hx] at hy
    injection hy with hy
    rw [hy]
    exact hc

/-- An element of a list in order is found. -/
theorem search_found {α : Type} {nm : α → ByteArray} {xs : List α} (h : InOrder nm xs) {x : α} (hx : x ∈ xs) :
    bfound (fun y => cmpB (nm y) (nm x)) xs = true ∧ xs[bloop (fun y => cmpB (nm y) (nm x)) xs 0 xs.length]? = some x := by
  obtain ⟨k, hk⟩ := List.getElem?_of_mem hx
  obtain ⟨_, h2, h3, h4⟩ := bloop_spec (fun y => cmpB (nm y) (nm x)) xs (order_mono h (nm x)) xs.length 0 xs.length (by omega) (by omega) (Nat.le_refl _) (fun k _ hk => by omega) (fun k _ hk hg => by
    rw [List.getElem?_eq_none (by omega)] at hg
    cases hg)
  generalize hb : bloop (fun y => cmpB (nm y) (nm x)) xs 0 xs.length = b at *
  have hself : ¬ cmpB (nm x) (nm x) < 0 := by rw [cmpB_neg, ltB_irrefl]; simp
  have hbk : b = k := by
    rcases Nat.lt_trichotomy b k with hlt | he | hgt
    · have hkl := (List.getElem?_eq_some_iff.1 hk).1
      have hbl : b < xs.length := by omega
      have h5 := h4 b xs[b] (Nat.le_refl _) (List.getElem?_eq_getElem hbl)
      obtain ⟨_, rfl⟩ := List.getElem?_eq_some_iff.1 hk
      exact absurd (cmpB_neg.2 (List.pairwise_iff_getElem.1 h b k hbl hkl hlt)) h5
    · exact he
    · exact absurd (h3 k x hgt hk) hself
  subst hbk
  refine ⟨?_, hk⟩
  unfold bfound
  rw [hb, hk]
  simp only []
  rw [cmpB_zero]
  simp
/-- What is found bears the name. -/
theorem search_name {α : Type} {nm : α → ByteArray} {xs : List α} {n : ByteArray} (h : bfound (fun y => cmpB (nm y) n) xs = true) : ∃ x, xs[bloop (fun y => cmpB (nm y) n) xs 0 xs.length]? = some x ∧ x ∈ xs ∧ nm x = n := by
  unfold bfound at h
  split at h
  · rename_i x hx
    rw [cmpB_zero] at h
    exact ⟨x, hx, List.mem_of_getElem? hx, by simpa using h⟩
  · cases h

theorem find_found {l : List DataSig} (h : InOrder (·.name) l) {d : DataSig} (hd : d ∈ l) : find l d.name = (d, true) := by
  obtain ⟨h1, h2⟩ := search_found h hd
  unfold find
  rw [if_pos h1, h2]
  rfl
theorem find_name {l : List DataSig} {n : ByteArray} (h : (find l n).2 = true) : (find l n).1 ∈ l ∧ (find l n).1.name = n := by
  unfold find at h ⊢
  split at h
  · rename_i hb
    obtain ⟨x, h1, h2, h3⟩ := search_name (nm := fun d : DataSig => d.name) hb
    rw [if_pos hb, h1]
    exact ⟨h2, h3⟩
  · cases h

/-! ### Sameness -/
theorem eqF_iff {α : Type} {p : α → α → Bool} : ∀ {xs ys : List α}, eqF p xs ys = true ↔ All2 (fun x y => p x y = true) xs ys
  | [], [] => ⟨fun _ => .nil, fun _ => rfl⟩
  | [], _ :: _ => ⟨fun h => by simp [eqF] at h, fun h => by cases h⟩
  | _ :: _, [] => ⟨fun h => by simp [eqF] at h, fun h => by cases h⟩
  | x :: xs, y :: ys => by
    have ih := @eqF_iff α p xs ys
    unfold eqF at ih ⊢
    simp only [Bool.and_eq_true, beq_iff_eq] at ih
    simp only [List.length_cons, List.zip_cons_cons, List.all_cons, Bool.and_eq_true, beq_iff_eq, Nat.add_right_cancel_iff]
    exact ⟨fun ⟨a, b, c⟩ => .cons b (ih.1 ⟨a, c⟩), fun h => by cases h with | cons h hs => exact ⟨(ih.2 hs).1, h, (ih.2 hs).2⟩⟩

/-- Sameness of types, as a relation. -/
theorem sameType_iff {k : Int} {n : ByteArray} {v : Int} {as : List Ty} {b : Ty} : sameType (.mk k n v as) b = true ↔ k = b.kind ∧ (k = 0 → v = b.var) ∧ (k = 1 ∨ k = 5 → n = b.name) ∧ All2 (fun x y => sameType x y = true) as b.args := by
  rw [sameType_mk]
  simp only [Bool.and_eq_true, beq_iff_eq, Bool.or_eq_true, bne_iff_ne, ne_eq, decide_eq_true_eq, eqF_iff]
  constructor
  · rintro ⟨⟨⟨h1, h2⟩, h3⟩, h4⟩
    refine ⟨h1, fun h => h2.elim (fun hx => absurd h hx) id, fun h => ?_, h4⟩
    rcases h3 with h3 | h3
    · rcases h with h | h
      · exact absurd h h3.1
      · exact absurd h h3.2
    · exact h3
  · rintro ⟨h1, h2, h3, h4⟩
    refine ⟨⟨⟨h1, ?_⟩, ?_⟩, h4⟩
    · by_cases h : k = 0
      · exact .inr (h2 h)
      · exact .inl h
    · by_cases h : k = 1 ∨ k = 5
      · exact .inr (h3 h)
      · exact .inl ⟨fun hx => h (.inl hx), fun hx => h (.inr hx)⟩
theorem same_refl (a : Ty) : sameType a a = true := by
  induction a using Ty.ind with
  | h k n v as ih => exact sameType_iff.2 ⟨rfl, fun _ => rfl, fun _ => rfl, All2.refl ih⟩
theorem same_symm {a : Ty} : ∀ {b : Ty}, sameType a b = true → sameType b a = true := by
  induction a using Ty.ind with
  | h k n v as ih =>
    intro b hb
    cases b with
    | mk k' n' v' bs =>
      obtain ⟨h1, h2, h3, h4⟩ := sameType_iff.1 hb
      simp only [Ty.kind_mk, Ty.var_mk, Ty.name_mk, Ty.args_mk] at h1 h2 h3 h4
      subst h1
      exact sameType_iff.2 ⟨rfl, fun h => (h2 h).symm, fun h => (h3 h).symm, h4.flip.imp fun y _ x hx h => ih x hx h⟩
theorem same_trans {a : Ty} : ∀ {b c : Ty}, sameType a b = true → sameType b c = true → sameType a c = true := by
  induction a using Ty.ind with
  | h k n v as ih =>
    intro b c hb hc
    cases b with
    | mk k' n' v' bs =>
      obtain ⟨h1, h2, h3, h4⟩ := sameType_iff.1 hb
      obtain ⟨g1, g2, g3, g4⟩ := sameType_iff.1 hc
      simp only [Ty.kind_mk, Ty.var_mk, Ty.name_mk, Ty.args_mk] at h1 h2 h3 h4
      subst h1
      exact sameType_iff.2 ⟨g1, fun h => (h2 h).trans (g2 h), fun h => (h3 h).trans (g3 h), h4.trans g4 fun x hx y _ z _ h h' => ih x hx h h'⟩

/-! ### Matching -/
/-- What a map of variables makes of a type matches another one. -/
def Mat (σ : Int → Ty) : Ty → Ty → Prop
  | .mk k n v as, b => (k = 0 → sameType (σ v) b = true) ∧ (k ≠ 0 → k = b.kind ∧ (k = 1 ∨ k = 5 → n = b.name) ∧ mats as b.args)
 where mats : List Ty → List Ty → Prop
  | [], [] => True
  | a :: as, b :: bs => Mat σ a b ∧ mats as bs
  | _, _ => False
theorem mats_all (σ : Int → Ty) : ∀ as bs : List Ty, Mat.mats σ as bs ↔ All2 (Mat σ) as bs
  | [], [] => by simp only [Mat.mats]; exact ⟨fun _ => .nil, fun _ => trivial⟩
  | [], _ :: _ => by simp only [Mat.mats]; exact ⟨fun h => h.elim, fun h => by cases h⟩
  | _ :: _, [] => by simp only [Mat.mats]; exact ⟨fun h => h.elim, fun h => by cases h⟩
  | a :: as, b :: bs => by
    simp only [Mat.mats, mats_all σ as bs]
    exact ⟨fun ⟨h, hs⟩ => .cons h hs, fun h => by cases h with | cons h hs => exact ⟨h, hs⟩⟩
theorem Mat_iff {σ : Int → Ty} {k : Int} {n : ByteArray} {v : Int} {as : List Ty} {b : Ty} : Mat σ (.mk k n v as) b ↔ (k = 0 → sameType (σ v) b = true) ∧ (k ≠ 0 → k = b.kind ∧ (k = 1 ∨ k = 5 → n = b.name) ∧ All2 (Mat σ) as b.args) := by
  rw [Mat, mats_all]

/-- The map's types are what the variables stand for. -/
def Agrees (σ : Int → Ty) (m : Mt) : Prop := ∀ v t, findM v m = some t → sameType (σ v) t = true

theorem findM_ins {v w : Int} {t : Ty} : ∀ {m : Mt}, findM w m = none → findM v (insM w t m) = if v = w then some t else findM v m
  | [], _ => by simp [insM, findM]
  | p :: m, hn => by
    have hn' : w ≠ p.1 ∧ findM w m = none := by
      unfold findM at hn
      split at hn
      · cases hn
      · rename_i h
        exact ⟨h, hn⟩
    unfold insM
    split
    · simp [findM]
    · simp only [findM]
      rw [findM_ins hn'.2]
      by_cases h1 : v = p.1
      · have h2 : v ≠ w := fun h => hn'.1 (by rw [← h, h1])
        simp [h1, h2]
        intro h3
        exact absurd h3.symm hn'.1
      · simp [h1]

theorem Agrees.ins {σ : Int → Ty} {m : Mt} {v : Int} {t : Ty} (hn : findM v m = none) : Agrees σ (insM v t m) ↔ Agrees σ m ∧ sameType (σ v) t = true := by
  constructor
  · intro h
    refine ⟨fun w u hw => h w u ?_, h v t (by rw [findM_ins hn, if_pos rfl])⟩
    rw [findM_ins hn]
    split
    · rename_i he
      rw [he, hn] at hw
      cases hw
    · exact hw
  · rintro ⟨h1, h2⟩ w u hw
    rw [findM_ins hn] at hw
    split at hw
    · rename_i he
      injection hw with hw
      rw [he, ← hw]
      exact h2
    · exact h1 w u hw

/-- A match is a map of variables that agrees with what was found; and the other way about. -/
theorem inst_iff (a : Ty) : ∀ (b : Ty) (m : Mt),
    (∀ σ, (inst a b m).1 = true → Agrees σ (inst a b m).2 → Agrees σ m ∧ Mat σ a b) ∧ (∀ σ, Agrees σ m → Mat σ a b → (inst a b m).1 = true ∧ Agrees σ (inst a b m).2) := by
  induction a using Ty.ind with
  | h k n v as ih =>
    intro b m
    simp only [inst_eq, Mat_iff]
    by_cases h0 : k = 0
    · subst h0
      simp only [if_true, ne_eq, not_true_eq_false, false_implies, true_implies, and_true]
      cases hf : findM v m with
      | some was =>
        refine ⟨fun σ h1 h2 => ⟨h2, same_trans (h2 v was hf) h1⟩, fun σ h1 h2 => ⟨same_trans (same_symm (h1 v was hf)) h2, h1⟩⟩
      | none => exact ⟨fun σ _ h2 => (Agrees.ins hf).1 h2, fun σ h1 h2 => ⟨rfl, (Agrees.ins hf).2 ⟨h1, h2⟩⟩⟩
    · have key : ∀ (as bs : List Ty) (m : Mt), (∀ a ∈ as, ∀ (b : Ty) (m : Mt), (∀ σ, (inst a b m).1 = true → Agrees σ (inst a b m).2 → Agrees σ m ∧ Mat σ a b) ∧ (∀ σ, Agrees σ m → Mat σ a b → (inst a b m).1 = true ∧ Agrees σ (inst a b m).2)) → as.length = bs.length →
          (∀ σ, (inst.insts as bs m).1 = true → Agrees σ (inst.insts as bs m).2 → Agrees σ m ∧ All2 (Mat σ) as bs) ∧ (∀ σ, Agrees σ m → All2 (Mat σ) as bs → (inst.insts as bs m).1 = true ∧ Agrees σ (inst.insts as bs m).2) := by
        intro as
        induction as with
        | nil =>
          intro bs m _ hl
          have : bs = [] := List.eq_nil_of_length_eq_zero hl.symm
          subst this
          rw [insts_nil]
          exact ⟨fun σ _ h => ⟨h, .nil⟩, fun σ h _ => ⟨rfl, h⟩⟩
        | cons a as ihl =>
          intro bs m hih hl
          cases bs with
          | nil => cases hl
          | cons b bs =>
            have h1 := hih a (by simp) b m
            rw [insts_cons]
            generalize inst a b m = q at h1
            obtain ⟨r, m'⟩ := q
            have h2 := ihl bs m' (fun x hx => hih x (by simp [hx])) (by simpa using hl)
            cases r with
            | true =>
              refine ⟨fun σ g1 g2 => ?_, fun σ g1 g2 => ?_⟩
              · obtain ⟨g3, g4⟩ := h2.1 σ g1 g2
                obtain ⟨g5, g6⟩ := h1.1 σ rfl g3
                exact ⟨g5, .cons g6 g4⟩
              · cases g2 with
                | cons g3 g4 => exact h2.2 σ (h1.2 σ g1 g3).2 g4
            | false =>
              refine ⟨(fun σ g1 _ => by cases g1), fun σ g1 g2 => ?_⟩
              cases g2 with
              | cons g3 g4 => have := (h1.2 σ g1 g3).1; cases this
      rw [if_neg h0]
      by_cases h1 : k = b.kind
      · by_cases h2 : (k = 1 ∨ k = 5) ∧ n ≠ b.name
        · rw [if_neg (by simpa using h1), if_pos h2]
          exact ⟨(fun σ h _ => by cases h), fun σ _ h => absurd ((h.2 h0).2.1 h2.1) h2.2⟩
        · rw [if_neg (by simpa using h1), if_neg h2]
          have hn : k = 1 ∨ k = 5 → n = b.name := fun h => by
            by_cases hx : n = b.name
            · exact hx
            · exact absurd ⟨h, hx⟩ h2
          by_cases h3 : as.length = b.args.length
          · rw [if_neg (by simpa using h3)]
            have h4 := key as b.args m ih h3
            refine ⟨fun σ g1 g2 => ?_, fun σ g1 g2 => h4.2 σ g1 (g2.2 h0).2.2⟩
            obtain ⟨g3, g4⟩ := h4.1 σ g1 g2
            exact ⟨g3, fun h => absurd h h0, fun _ => ⟨h1, hn, g4⟩⟩
          · rw [if_pos (by simpa using h3)]
            exact ⟨(fun σ h _ => by cases h), fun σ _ h => absurd (h.2 h0).2.2.length h3⟩
      · rw [if_pos (by simpa using h1)]
        exact ⟨(fun σ h _ => by cases h), fun σ _ h => absurd (h.2 h0).1 h1⟩
/-- A map that agrees. -/
def pickM (m : Mt) (v : Int) : Ty := (findM v m).getD (.mk 0 ⟨#[]⟩ v [])
theorem pickM_agrees (m : Mt) : Agrees (pickM m) m := fun v t h => by
  unfold pickM
  rw [h]
  exact same_refl t

/-! ### Maps one after the other -/
def app (τ : Int → Ty) : Ty → Ty
  | .mk k n v as => if k = 0 then τ v else .mk k n v (apps as)
 where apps : List Ty → List Ty
  | [] => []
  | a :: as => app τ a :: apps as
theorem apps_map (τ : Int → Ty) : ∀ as, app.apps τ as = as.map (app τ)
  | [] => by rw [app.apps]; rfl
  | a :: as => by rw [app.apps, apps_map τ as]; rfl
theorem app_eq (τ : Int → Ty) (k : Int) (n : ByteArray) (v : Int) (as : List Ty) : app τ (.mk k n v as) = if k = 0 then τ v else .mk k n v (as.map (app τ)) := by rw [app, apps_map]
theorem app_mat (τ : Int → Ty) (x : Ty) : ∀ {b c : Ty}, sameType x b = true → Mat τ b c → sameType (app τ x) c = true := by
  induction x using Ty.ind with
  | h k n v as ih =>
    intro b c hb hc
    cases b with
    | mk k' n' v' bs =>
      obtain ⟨h1, h2, h3, h4⟩ := sameType_iff.1 hb
      simp only [Ty.kind_mk, Ty.var_mk, Ty.name_mk, Ty.args_mk] at h1 h2 h3 h4
      subst h1
      obtain ⟨g1, g2⟩ := Mat_iff.1 hc
      rw [app_eq]
      by_cases h0 : k = 0
      · rw [if_pos h0, h2 h0]
        exact g1 h0
      · rw [if_neg h0]
        obtain ⟨g3, g4, g5⟩ := g2 h0
        exact sameType_iff.2 ⟨g3, fun h => absurd h h0, fun h => (h3 h).trans (g4 h), All2.map_left _ (h4.trans g5 fun x hx y _ z _ h h' => ih x hx h h')⟩
theorem mat_trans {σ τ : Int → Ty} (a : Ty) : ∀ {b c : Ty}, Mat σ a b → Mat τ b c → Mat (fun v => app τ (σ v)) a c := by
  induction a using Ty.ind with
  | h k n v as ih =>
    intro b c hb hc
    obtain ⟨h1, h2⟩ := Mat_iff.1 hb
    refine Mat_iff.2 ⟨fun h0 => app_mat τ _ (h1 h0) hc, fun h0 => ?_⟩
    obtain ⟨h3, h4, h5⟩ := h2 h0
    cases b with
    | mk k' n' v' bs =>
      simp only [Ty.kind_mk, Ty.name_mk, Ty.args_mk] at h3 h4 h5
      subst h3
      obtain ⟨g3, g4, g5⟩ := (Mat_iff.1 hc).2 h0
      exact ⟨g3, fun h => (h4 h).trans (g4 h), h5.trans g5 fun x hx y _ z _ h h' => ih x hx h h'⟩

/-! ### Generality -/
theorem agrees_nil (σ : Int → Ty) : Agrees σ [] := fun v t h => by cases h
/-- A scheme is as general as another one if its variables can be mapped so, each requirement with variables of its own. -/
theorem general_of {a b : Scheme} (σ : Int → Ty) (h : Mat σ a.type b.type) (hp : ∀ p ∈ a.preds, ∃ q ∈ b.preds, q.cls = p.cls ∧ ∃ ρ : Int → Ty, Mat ρ a.type b.type ∧ Mat ρ p.type q.type) : generalB a b = true := by
  unfold generalB
  obtain ⟨h1, h2⟩ := (inst_iff a.type b.type []).2 σ (agrees_nil σ) h
  rw [h1, Bool.true_and, List.all_eq_true]
  intro p hpm
  obtain ⟨q, hq, hc, ρ, g1, g2⟩ := hp p hpm
  rw [List.any_eq_true]
  refine ⟨q, hq, ?_⟩
  obtain ⟨_, g3⟩ := (inst_iff a.type b.type []).2 ρ (agrees_nil ρ) g1
  unfold trial
  rw [if_pos hc]
  exact ((inst_iff p.type q.type _).2 ρ g3 g2).1
theorem general_to {a b : Scheme} (h : generalB a b = true) : (∃ σ, Mat σ a.type b.type) ∧ ∀ p ∈ a.preds, ∃ q ∈ b.preds, q.cls = p.cls ∧ ∃ ρ : Int → Ty, Mat ρ a.type b.type ∧ Mat ρ p.type q.type := by
  unfold generalB at h
  rw [Bool.and_eq_true, List.all_eq_true] at h
  obtain ⟨h1, h2⟩ := h
  refine ⟨⟨_, ((inst_iff a.type b.type []).1 _ h1 (pickM_agrees _)).2⟩, fun p hp => ?_⟩
  obtain ⟨q, hq, hqt⟩ := List.any_eq_true.1 (h2 p hp)
  unfold trial at hqt
  split at hqt
  · rename_i hc
    have g1 := (inst_iff p.type q.type _).1 _ hqt (pickM_agrees _)
    exact ⟨q, hq, hc, _, ((inst_iff a.type b.type []).1 _ h1 g1.1).2, g1.2⟩
  · cases hqt
theorem general_trans {a b c : Scheme} (h1 : generalB a b = true) (h2 : generalB b c = true) : generalB a c = true := by
  obtain ⟨⟨σ, g1⟩, g2⟩ := general_to h1
  obtain ⟨⟨τ, k1⟩, k2⟩ := general_to h2
  refine general_of _ (mat_trans a.type g1 k1) fun p hp => ?_
  obtain ⟨q, hq, hc, ρ, g3, g4⟩ := g2 p hp
  obtain ⟨r, hr, hc', ρ', k3, k4⟩ := k2 q hq
  exact ⟨r, hr, hc'.trans hc, _, mat_trans a.type g3 k3, mat_trans p.type g4 k4⟩

/-- Variables have no arguments. -/
inductive TyWf : Ty → Prop
  | mk {k : Int} {n : ByteArray} {v : Int} {as : List Ty} (h0 : k = 0 → as = []) (ha : ∀ a ∈ as, TyWf a) : TyWf (.mk k n v as)
theorem mat_self {a : Ty} (h : TyWf a) : Mat (fun v => .mk 0 ⟨#[]⟩ v []) a a := by
  induction a using Ty.ind with
  | h k n v as ih =>
    cases h with
    | mk h0 ha =>
      refine Mat_iff.2 ⟨fun h => ?_, fun h => ⟨rfl, fun _ => rfl, All2.refl fun x hx => ih x hx (ha x hx)⟩⟩
      subst h
      rw [h0 rfl]
      exact sameType_iff.2 ⟨rfl, fun _ => rfl, fun h => by omega, .nil⟩
def WfScheme (s : Scheme) : Prop := TyWf s.type ∧ ∀ p ∈ s.preds, TyWf p.type
theorem general_self {s : Scheme} (h : WfScheme s) : generalB s s = true :=
  general_of _ (mat_self h.1) fun p hp => ⟨p, hp, rfl, _, mat_self h.1, mat_self (h.2 p hp)⟩
end Go.Abs
