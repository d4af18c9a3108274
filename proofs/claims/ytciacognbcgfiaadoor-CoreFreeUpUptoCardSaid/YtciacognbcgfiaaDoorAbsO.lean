/-
  New names say the same. Conditions: none.
-/
import Derived.Test.YtciacognbcgfiaaDoorJ
set_option linter.unusedVariables false
namespace Go.Abs
variable {E : Env} {G : Ghost} {w : World}
structure RenOk (G G' : Ghost) (ρ : Nat → Option Nat) : Prop where
  fix : ∀ b o v, G.fix b o = some v → G'.fix b o = some v
  blk : ∀ i j, ρ i = some j → G'.blk j = G.blk i
  tl : ∀ i j n, ρ i = some j → G'.tl j n = G.tl i n
theorem Rep.renC {G' : Ghost} {ρ : Nat → Option Nat} (hρ : RenOk G G' ρ) {a : AVal} {v : Value} (h : Rep E G a v) : Rep E G' (renC ρ a) v := by
  unfold Abs.renC
  split
  · rename_i hd
    exact h.data hρ.fix hd
  · split
    · rename_i xs id _
      split
      · rename_i hd
        cases h with
        | list sz vs hn hcap hsz ha hl hr ho =>
          have hlist : Rep E G' (.list xs none) (.slice _ _ _) := Rep.data hρ.fix (Rep.list (own := none) sz vs hn hcap hsz ha hl hr trivial) (by simp [isData, hd])
          split
          · rename_i j hj
            cases hlist with
            | list sz' vs' hn' hcap' hsz' ha' hl' hr' ho' =>
              obtain ⟨b, hA, ht⟩ := ho
              refine .list sz vs hn hcap hsz (fun hx => ?_) hl (fun i c v e e' => ?_) ⟨b, hA, ?_⟩
              · obtain ⟨b, o, e, hff⟩ := ha hx
                exact ⟨b, o, e, fun i v hv => hρ.fix _ _ _ (hff i v hv)⟩
              · refine (hr i c v e e').data hρ.fix ?_
                have hm : c ∈ xs.flatMap acells := List.mem_of_getElem? e
                obtain ⟨x, hx, hcx⟩ := List.mem_flatMap.1 hm
                obtain ⟨k, hk⟩ := List.getElem?_of_mem hx
                exact isData_cells (isDataL_get hd hk) hcx
              · rw [hρ.tl _ _ _ hj]
                exact ht
          · exact hlist
      · exact .junk v
    · rename_i id off _
      split
      · rename_i j hj
        cases h with
        | ptr hb => exact .ptr (by rw [hρ.blk _ _ hj]; exact hb)
      · exact .junk v
    · rename_i id off len _
      split
      · rename_i j hj
        cases h with
        | ref hb hcap => exact .ref (by rw [hρ.blk _ _ hj]; exact hb) hcap
      · exact .junk v
    · rename_i id n _
      split
      · rename_i j hj
        cases h with
        | vec hb ht hn => exact .vec (by rw [hρ.blk _ _ hj]; exact hb) (by rw [hρ.tl _ _ _ hj]; exact ht) hn
      · exact .junk v
    · rename_i id _
      split
      · rename_i j hj
        cases h with
        | map hb => exact .map (by rw [hρ.blk _ _ hj]; exact hb)
      · exact .junk v
    · exact .junk v
theorem Rep.ren {G' : Ghost} {ρ : Nat → Option Nat} (hρ : RenOk G G' ρ) {a : AVal} {v : Value} (h : Rep E G a v) : Rep E G' (ren ρ a) v := by
  unfold Abs.ren
  split
  · rename_i hd
    exact h.data hρ.fix hd
  · split
    · rename_i cs _
      cases h with
      | agg hl hr =>
        refine .agg (by simpa using hl) fun i c v e e' => ?_
        rw [List.getElem?_map] at e
        obtain ⟨c0, hc0, rfl⟩ := Option.map_eq_some_iff.1 e
        exact (hr i c0 v hc0 e').renC hρ
    · rename_i cs _
      cases h with
      | tuple hl hr =>
        refine .tuple (by simpa using hl) fun i c v e e' => ?_
        rw [List.getElem?_map] at e
        obtain ⟨c0, hc0, rfl⟩ := Option.map_eq_some_iff.1 e
        exact (hr i c0 v hc0 e').renC hρ
    · rename_i f a b _
      cases h with
      | func hk hla hlb ha hb =>
        refine .func hk (by simpa using hla) (by simpa using hlb) (fun i c v e e' => ?_) (fun i c v e e' => ?_)
        · rw [List.getElem?_map] at e
          obtain ⟨c0, hc0, rfl⟩ := Option.map_eq_some_iff.1 e
          exact (ha i c0 v hc0 e').renC hρ
        · rw [List.getElem?_map] at e
          obtain ⟨c0, hc0, rfl⟩ := Option.map_eq_some_iff.1 e
          exact (hb i c0 v hc0 e').renC hρ
    · exact h.renC hρ
/-! ### The names -/
theorem newIds_ok (n : Nat) : ∀ (l acc : List Nat), acc.Nodup → (∀ i ∈ acc, n ≤ i) → (newIds n l acc).Nodup ∧ ∀ i ∈ newIds n l acc, n ≤ i
  | [], acc, h1, h2 => ⟨h1, h2⟩
  | i :: l, acc, h1, h2 => by
    rw [newIds]
    split
    · rename_i hi
      refine newIds_ok n l _ ?_ ?_
      · rw [List.nodup_append]
        exact ⟨h1, by simp, fun a ha b hb => by rw [List.mem_singleton.1 hb]; exact fun hx => hi.2 (hx ▸ ha)⟩
      · intro j hj
        rcases List.mem_append.1 hj with h | h
        · exact h2 j h
        · rw [List.mem_singleton.1 h]; exact hi.1
    · exact newIds_ok n l acc h1 h2
theorem newOf_ok (k : Nat) (r : ARes) (h2 : Heap) : (newOf k r h2).Nodup ∧ ∀ i ∈ newOf k r h2, k ≤ i := by
  unfold newOf
  exact newIds_ok k _ [] .nil (fun i hi => by cases hi)
theorem posOf_some {i : Nat} : ∀ {l : List Nat} {k j : Nat}, posOf i l k = some j → k ≤ j ∧ l[j - k]? = some i
  | [], k, j, h => by cases h
  | x :: xs, k, j, h => by
    rw [posOf] at h
    split at h
    · rename_i hx
      injection h with h
      subst h
      exact ⟨Nat.le_refl _, by simp [hx]⟩
    · obtain ⟨h1, h2⟩ := posOf_some h
      refine ⟨by omega, ?_⟩
      have : j - k = (j - (k + 1)) + 1 := by omega
      rw [this, List.getElem?_cons_succ]
      exact h2
theorem keyEq_ren (ρ : Nat → Option Nat) {a b : AVal} {r : Bool} (h : keyEq a b = some r) : keyEq (ren ρ a) (ren ρ b) = some r := by
  unfold keyEq at h
  split at h
  · simpa [ren, isData, keyEq] using h
  · simpa [ren, isData, keyEq] using h
  · simpa [ren, isData, keyEq] using h
  · cases h
theorem renO_ok {G' : Ghost} {ρ : Nat → Option Nat} (hρ : RenOk G G' ρ) (hfix : ∀ b o, G'.fix b o = G.fix b o) {i j : Nat} (hb : G'.blk j = G.blk i) (ht : ∀ m, G'.tl j m = G.tl i m) {o : AObj} (h : ObjOk E G w i o) : ObjOk E G' w j (renO ρ o) := by
  cases o with
  | gone => trivial
  | box cs =>
    obtain ⟨b, vs, t, h1, h2, h3, h4⟩ := h
    refine ⟨b, vs, t, by rw [hb]; exact h1, h2, ⟨by simpa using h3.len, fun k c v e e' => ?_⟩, fun o => by rw [hfix]; exact h4 o⟩
    rw [List.getElem?_map] at e
    obtain ⟨c0, hc0, rfl⟩ := Option.map_eq_some_iff.1 e
    exact (h3.rep k c0 v hc0 e').ren hρ
  | map es =>
    obtain ⟨b, vs, clk, es', h1, h2, hp, hkd, h3, hst, h4⟩ := h
    refine ⟨b, vs, clk, es'.map fun e => (ren ρ e.1, ren ρ e.2), by rw [hb]; exact h1, h2, hp.map _, ?_, ⟨by simpa using h3.len, fun k c v e e' => ?_⟩, hst, fun o => by rw [hfix]; exact h4 o⟩
    · unfold Keyed
      rw [List.pairwise_map]
      exact List.Pairwise.imp (fun {a b} hab => keyEq_ren ρ hab) hkd
    rw [List.getElem?_map] at e
    obtain ⟨c0, hc0, rfl⟩ := Option.map_eq_some_iff.1 e
    exact ⟨(h3.rep k c0 v hc0 e').1.ren hρ, (h3.rep k c0 v hc0 e').2.ren hρ⟩
  | tail n sz =>
    obtain ⟨b, cap, vs, t, h1, h2, h3, h4, h5, h6⟩ := h
    exact ⟨b, cap, vs, t, by rw [ht]; exact h1, h2, h3, h4, fun o ho => by rw [hfix]; exact h5 o ho, fun m hm => by rw [ht]; exact h6 m hm⟩
  | vec cs sz =>
    obtain ⟨b, cap, vs, t, h1, h2, h3, h4, h5, h6, h7⟩ := h
    refine ⟨b, cap, vs, t, by rw [hb]; exact h1, h2, h3, by simpa using h4, ?_, fun o => by rw [hfix]; exact h6 o, fun m x e => by rw [ht] at e; exact h7 m x e⟩
    rw [List.length_map]
    exact ⟨by simpa using h5.len, fun k c v e e' => by
      rw [List.getElem?_map] at e
      obtain ⟨c0, hc0, rfl⟩ := Option.map_eq_some_iff.1 e
      exact (h5.rep k c0 v hc0 e').ren hρ⟩
theorem owns_ren {G' : Ghost} {ρ : Nat → Option Nat} {i j b : Nat} (hb : G'.blk j = G.blk i) (ht : ∀ m, G'.tl j m = G.tl i m) {o : AObj} : Owns G' j (renO ρ o) b ↔ Owns G i o b := by
  cases o with
  | gone => exact Iff.rfl
  | box cs => simp only [renO, Owns, hb]
  | map es => simp only [renO, Owns, hb]
  | tail n sz => simp only [renO, Owns, ht]
  | vec cs sz => simp only [renO, Owns, hb]
/-! ### The objects that a call sees -/
theorem posOf_none {i : Nat} : ∀ {l : List Nat} {k : Nat}, posOf i l k = none → i ∉ l
  | [], k, h => by simp
  | x :: xs, k, h => by
    rw [posOf] at h
    split at h
    · cases h
    · rename_i hx
      have := posOf_none h
      simp only [List.mem_cons, not_or]
      exact ⟨fun e => hx e.symm, this⟩
theorem posOf_get {l : List Nat} (hnd : l.Nodup) {i j : Nat} (e : l[j]? = some i) : posOf i l 0 = some j := by
  cases hp : posOf i l 0 with
  | none => exact absurd (List.mem_of_getElem? e) (posOf_none hp)
  | some q =>
    have h2 := (posOf_some hp).2
    rw [Nat.sub_zero] at h2
    obtain ⟨hq, eq⟩ := List.getElem?_eq_some_iff.1 h2
    obtain ⟨hj, ej⟩ := List.getElem?_eq_some_iff.1 e
    have := (List.getElem_inj hnd).1 (eq.trans ej.symm)
    rw [this]
theorem posOf_zero {l : List Nat} {i j : Nat} (h : posOf i l 0 = some j) : l[j]? = some i := by simpa using (posOf_some h).2
def subG (l : List Nat) (G : Ghost) : Ghost where
  fix := G.fix
  blk j := match l[j]? with | some i => G.blk i | none => none
  tl j := match l[j]? with | some i => G.tl i | none => fun _ => none
theorem subG_ok (l : List Nat) (G : Ghost) : RenOk G (subG l G) (fun i => posOf i l 0) where
  fix b o v h := h
  blk i j h := by simp only [subG, posOf_zero h]
  tl i j n h := by simp only [subG, posOf_zero h]
def backG (l nl : List Nat) (n : Nat) (G G2 : Ghost) : Ghost where
  fix := G2.fix
  blk i := if i < n then (match posOf i l 0 with | some j => G2.blk j | none => G.blk i) else match nl[i - n]? with | some j => G2.blk j | none => none
  tl i := if i < n then (match posOf i l 0 with | some j => G2.tl j | none => G.tl i) else match nl[i - n]? with | some j => G2.tl j | none => fun _ => none
theorem backRen_some {l nl : List Nat} {n i j : Nat} (hall : ∀ i ∈ l, i < n) (hnd : l.Nodup) (h : backRen l nl n j = some i) : (i < n ∧ posOf i l 0 = some j) ∨ (n ≤ i ∧ nl[i - n]? = some j) := by
  unfold backRen at h
  split at h
  · exact .inl ⟨hall i (List.mem_of_getElem? h), posOf_get hnd h⟩
  · obtain ⟨p, hp, rfl⟩ := Option.map_eq_some_iff.1 h
    refine .inr ⟨by omega, ?_⟩
    rw [Nat.add_sub_cancel_left]
    exact posOf_zero hp
theorem backG_old {l nl : List Nat} {n : Nat} {G G2 : Ghost} {i j : Nat} (hi : i < n) (hj : posOf i l 0 = some j) : (backG l nl n G G2).blk i = G2.blk j ∧ ∀ m, (backG l nl n G G2).tl i m = G2.tl j m := by
  simp only [backG, if_pos hi, hj]
  exact ⟨trivial, fun _ => trivial⟩
theorem backG_new {l nl : List Nat} {n : Nat} {G G2 : Ghost} {i j : Nat} (hi : n ≤ i) (hj : nl[i - n]? = some j) : (backG l nl n G G2).blk i = G2.blk j ∧ ∀ m, (backG l nl n G G2).tl i m = G2.tl j m := by
  simp only [backG, if_neg (Nat.not_lt.2 hi), hj]
  exact ⟨trivial, fun _ => trivial⟩
theorem backG_oth {l nl : List Nat} {n : Nat} {G G2 : Ghost} {i : Nat} (hi : i < n) (hj : posOf i l 0 = none) : (backG l nl n G G2).blk i = G.blk i ∧ ∀ m, (backG l nl n G G2).tl i m = G.tl i m := by
  simp only [backG, if_pos hi, hj]
  exact ⟨trivial, fun _ => trivial⟩
theorem backG_ok {l nl : List Nat} {n : Nat} (hall : ∀ i ∈ l, i < n) (hnd : l.Nodup) (G G2 : Ghost) : RenOk G2 (backG l nl n G G2) (backRen l nl n) where
  fix b o v h := h
  blk j i h := by
    rcases backRen_some hall hnd h with ⟨h1, h2⟩ | ⟨h1, h2⟩
    · exact (backG_old h1 h2).1
    · exact (backG_new h1 h2).1
  tl j i m h := by
    rcases backRen_some hall hnd h with ⟨h1, h2⟩ | ⟨h1, h2⟩
    · exact (backG_old h1 h2).2 m
    · exact (backG_new h1 h2).2 m
theorem backG_le {l nl : List Nat} {n : Nat} {G G2 : Ghost} (hdom : ∀ i, n ≤ i → G.blk i = none ∧ ∀ m, G.tl i m = none) (hle : (subG l G).le G2) : G.le (backG l nl n G G2) where
  fix b o v h := hle.fix b o v h
  blk i b h := by
    have hi : i < n := by
      rcases Nat.lt_or_ge i n with hx | hx
      · exact hx
      · rw [(hdom i hx).1] at h
        cases h
    cases hj : posOf i l 0 with
    | some j =>
      rw [(backG_old hi hj).1]
      exact hle.blk j b (by simp only [subG, posOf_zero hj]; exact h)
    | none => rw [(backG_oth hi hj).1]; exact h
  tl i m x h := by
    have hi : i < n := by
      rcases Nat.lt_or_ge i n with hx | hx
      · exact hx
      · rw [(hdom i hx).2 m] at h
        cases h
    cases hj : posOf i l 0 with
    | some j =>
      rw [(backG_old hi hj).2 m]
      exact hle.tl j m x (by simp only [subG, posOf_zero hj]; exact h)
    | none => rw [(backG_oth hi hj).2 m]; exact h
theorem rootsOf_nodup (args : List AVal) (h : Heap) : (rootsOf args h).Nodup := by
  have g : ∀ (l : List Nat), l.Nodup → (grow h l).Nodup := fun l hl => (newIds_ok 0 _ l hl (fun _ _ => Nat.zero_le _)).1
  exact g _ (g _ (g _ (newIds_ok 0 _ [] List.nodup_nil (fun _ _ => Nat.zero_le _)).1))
theorem subHeap_get {l : List Nat} {h : Heap} {j : Nat} {o : AObj} (e : (subHeap l h)[j]? = some o) : ∃ i, l[j]? = some i ∧ (o = .gone ∨ ∃ o0, h[i]? = some o0 ∧ o = renO (fun i => posOf i l 0) o0) := by
  unfold subHeap at e
  rw [List.getElem?_map] at e
  obtain ⟨i, hi, rfl⟩ := Option.map_eq_some_iff.1 e
  refine ⟨i, hi, ?_⟩
  cases hx : h[i]? with
  | none => exact .inl rfl
  | some o0 => exact .inr ⟨o0, rfl, rfl⟩
theorem Inv.sub {h : Heap} (hi : Inv E G h w) {l : List Nat} (hnd : l.Nodup) : Inv E (subG l G) (subHeap l h) w where
  fix := hi.fix
  one := hi.one
  tab := hi.tab
  obj j o e := by
    obtain ⟨i, h1, rfl | ⟨o0, h2, rfl⟩⟩ := subHeap_get e
    · trivial
    · exact renO_ok (subG_ok l G) (fun _ _ => rfl) (by simp only [subG, h1]) (fun m => by simp only [subG, h1]) (hi.obj i o0 h2)
  sep j o j' o' b e e' ho ho' := by
    obtain ⟨i, h1, rfl | ⟨o0, h2, rfl⟩⟩ := subHeap_get e
    · exact ho.elim
    · obtain ⟨i', h1', rfl | ⟨o0', h2', rfl⟩⟩ := subHeap_get e'
      · exact ho'.elim
      · have a1 := (owns_ren (G := G) (i := i) (by simp only [subG, h1]) (fun m => by simp only [subG, h1])).1 ho
        have a2 := (owns_ren (G := G) (i := i') (by simp only [subG, h1']) (fun m => by simp only [subG, h1'])).1 ho'
        have := hi.sep i o0 i' o0' b h2 h2' a1 a2
        subst this
        have p1 := posOf_get hnd h1
        rw [posOf_get hnd h1'] at p1
        injection p1 with p1
        exact p1.symm
  dom j hj := by
    have : l[j]? = none := List.getElem?_eq_none (by simpa [subHeap] using hj)
    simp only [subG, this]
    exact ⟨trivial, fun _ => trivial⟩
theorem own_sub {h : Heap} {l : List Nat} {b : Nat} (ho : Own (subG l G) (subHeap l h) b) : ∃ (i j : Nat) (o0 : AObj), l[j]? = some i ∧ h[i]? = some o0 ∧ Owns G i o0 b := by
  obtain ⟨j, o, e, ho⟩ := ho
  obtain ⟨i, h1, rfl | ⟨o0, h2, rfl⟩⟩ := subHeap_get e
  · exact ho.elim
  · exact ⟨i, j, o0, h1, h2, (owns_ren (G := G) (i := i) (by simp only [subG, h1]) (fun m => by simp only [subG, h1])).1 ho⟩
theorem putBack_get {l nl : List Nat} {h h2 : Heap} {i : Nat} {o : AObj} (e : (putBack l nl h h2)[i]? = some o) :
    (i < h.length ∧ ∃ j, posOf i l 0 = some j ∧ (o = .gone ∨ ∃ o0, h2[j]? = some o0 ∧ o = renO (backRen l nl h.length) o0)) ∨ (i < h.length ∧ posOf i l 0 = none ∧ h[i]? = some o) ∨
      (h.length ≤ i ∧ ∃ j, nl[i - h.length]? = some j ∧ (o = .gone ∨ ∃ o0, h2[j]? = some o0 ∧ o = renO (backRen l nl h.length) o0)) := by
  unfold putBack at e
  by_cases hlt : i < h.length
  · rw [List.getElem?_append_left (by simpa using hlt), List.getElem?_map] at e
    obtain ⟨i', hi', rfl⟩ := Option.map_eq_some_iff.1 e
    have : i' = i := by
      rw [List.getElem?_range hlt] at hi'
      injection hi' with hi'
      exact hi'.symm
    subst this
    cases hp : posOf i' l 0 with
    | some j =>
      refine .inl ⟨hlt, j, rfl, ?_⟩
      dsimp only
      cases hx : h2[j]? with
      | none => exact .inl rfl
      | some o0 => exact .inr ⟨o0, rfl, rfl⟩
    | none =>
      refine .inr (.inl ⟨hlt, rfl, ?_⟩)
      dsimp only
      rw [List.getElem?_eq_getElem hlt]
      rfl
  · rw [List.getElem?_append_right (by simp; omega), List.length_map, List.length_range, List.getElem?_map] at e
    obtain ⟨j, hj, rfl⟩ := Option.map_eq_some_iff.1 e
    refine .inr (.inr ⟨by omega, j, hj, ?_⟩)
    cases hx : h2[j]? with
    | none => exact .inl rfl
    | some o0 => exact .inr ⟨o0, rfl, rfl⟩
theorem post_back {h : Heap} (hi : Inv E G h w) {l nl : List Nat} (hnd : l.Nodup) (hall : ∀ i ∈ l, i < h.length) (hnd2 : nl.Nodup) (hall2 : ∀ j ∈ nl, l.length ≤ j) {G2 : Ghost} {h2 : Heap} {w' : World} (hp : Post E (subG l G) (subHeap l h) w G2 h2 w') :
    Post E G h w (backG l nl h.length G G2) (putBack l nl h h2) w' := by
  have hle := backG_le (nl := nl) hi.dom hp.le
  have hsub : ∀ b, Own (subG l G) (subHeap l h) b → Own G h b := fun b ho => by
    obtain ⟨i, j, o0, _, h2, h3⟩ := own_sub ho
    exact ⟨i, o0, h2, h3⟩
  -- an object that is not seen keeps its block
  have hoth : ∀ {i : Nat} {o : AObj} {b : Nat}, posOf i l 0 = none → h[i]? = some o → Owns G i o b → b < w.heap.size ∧ ¬ Own (subG l G) (subHeap l h) b := by
    intro i o b hn e ho
    refine ⟨hi.own_lt ⟨i, o, e, ho⟩, fun hx => ?_⟩
    obtain ⟨i', j, o0, h1, h3, h4⟩ := own_sub hx
    have := hi.sep i o i' o0 b e h3 ho h4
    subst this
    rw [posOf_get hnd h1] at hn
    cases hn
  have hfx : ∀ b, b < w.heap.size → ¬ Own (subG l G) (subHeap l h) b → ∀ q, G2.fix b q = G.fix b q := by
    intro b hb hno q
    cases hx : G.fix b q with
    | some v => exact hp.le.fix b q v hx
    | none =>
      cases hy : G2.fix b q with
      | none => rfl
      | some v =>
        rcases hp.fixed b q (by rw [hy]; simp) with h1 | h1 | h1
        · exact absurd hx h1
        · exact absurd h1 hno
        · omega
  have hrk := backG_ok (nl := nl) hall hnd G G2
  -- whose a block is: of an object of the callee, or of one that it did not see
  have howns : ∀ {i : Nat} {o : AObj} {b : Nat}, (putBack l nl h h2)[i]? = some o → Owns (backG l nl h.length G G2) i o b →
      (∃ j o0, ((i < h.length ∧ posOf i l 0 = some j) ∨ (h.length ≤ i ∧ nl[i - h.length]? = some j)) ∧ h2[j]? = some o0 ∧ Owns G2 j o0 b) ∨ (posOf i l 0 = none ∧ h[i]? = some o ∧ Owns G i o b) := by
    intro i o b e ho
    obtain ⟨hlt, j, hj, rfl | ⟨o0, h3, rfl⟩⟩ | ⟨hlt, hn, h3⟩ | ⟨hge, j, hj, rfl | ⟨o0, h3, rfl⟩⟩ := putBack_get e
    · exact ho.elim
    · exact .inl ⟨j, o0, .inl ⟨hlt, hj⟩, h3, (owns_ren (G := G2) (i := j) (backG_old hlt hj).1 (backG_old hlt hj).2).1 ho⟩
    · refine .inr ⟨hn, h3, ?_⟩
      have h4 := backG_oth (l := l) (nl := nl) (n := h.length) (G := G) (G2 := G2) hlt hn
      cases o with
      | gone => exact ho.elim
      | box cs => simpa only [Owns, h4.1] using ho
      | map es => simpa only [Owns, h4.1] using ho
      | tail n sz => simpa only [Owns, h4.2] using ho
      | vec cs sz => simpa only [Owns, h4.1] using ho
    · exact ho.elim
    · exact .inl ⟨j, o0, .inr ⟨hge, hj⟩, h3, (owns_ren (G := G2) (i := j) (backG_new hge hj).1 (backG_new hge hj).2).1 ho⟩
  have hsame : ∀ {i i' j : Nat}, ((i < h.length ∧ posOf i l 0 = some j) ∨ (h.length ≤ i ∧ nl[i - h.length]? = some j)) → ((i' < h.length ∧ posOf i' l 0 = some j) ∨ (h.length ≤ i' ∧ nl[i' - h.length]? = some j)) → i = i' := by
    intro i i' j h3 h4
    rcases h3 with ⟨a1, a2⟩ | ⟨a1, a2⟩ <;> rcases h4 with ⟨b1, b2⟩ | ⟨b1, b2⟩
    · have p1 := posOf_zero a2
      rw [posOf_zero b2] at p1
      injection p1 with p1
      exact p1.symm
    · have p1 := (List.getElem?_eq_some_iff.1 (posOf_zero a2)).1
      have p2 := hall2 j (List.mem_of_getElem? b2)
      omega
    · have p1 := (List.getElem?_eq_some_iff.1 (posOf_zero b2)).1
      have p2 := hall2 j (List.mem_of_getElem? a2)
      omega
    · have p1 := posOf_get hnd2 a2
      rw [posOf_get hnd2 b2] at p1
      injection p1 with p1
      omega
  refine ⟨hle, ⟨hp.inv.fix, hp.inv.one, fun i o e => ?_, fun i o i' o' b e e' ho ho' => ?_, fun i hi' => ?_, hp.inv.tab⟩, hp.size, fun b hb hno => hp.block b hb (fun hx => hno (hsub b hx)), fun b q e => ?_, fun b ho => ?_, hp.os, hp.tape, hp.output⟩
  · obtain ⟨hlt, j, hj, rfl | ⟨o0, h3, rfl⟩⟩ | ⟨hlt, hn, h3⟩ | ⟨hge, j, hj, rfl | ⟨o0, h3, rfl⟩⟩ := putBack_get e
    · trivial
    · exact renO_ok hrk (fun _ _ => rfl) (backG_old hlt hj).1 (backG_old hlt hj).2 (hp.inv.obj j o0 h3)
    · exact (hi.obj i o h3).keep hle (fun b hb => hp.block b (hoth hn h3 hb).1 (hoth hn h3 hb).2) (fun b hb q => hfx b (hoth hn h3 hb).1 (hoth hn h3 hb).2 q) (fun m => (backG_oth hlt hn).2 m)
    · trivial
    · exact renO_ok hrk (fun _ _ => rfl) (backG_new hge hj).1 (backG_new hge hj).2 (hp.inv.obj j o0 h3)
  · rcases howns e ho with ⟨j, o0, a1, a2, a3⟩ | ⟨a1, a2, a3⟩
    · rcases howns e' ho' with ⟨j', o0', b1, b2, b3⟩ | ⟨b1, b2, b3⟩
      · have := hp.inv.sep j o0 j' o0' b a2 b2 a3 b3
        subst this
        exact hsame a1 b1
      · obtain ⟨c1, c2⟩ := hoth b1 b2 b3
        rcases hp.owned b ⟨j, o0, a2, a3⟩ with h5 | h5
        · exact absurd h5 c2
        · omega
    · obtain ⟨c1, c2⟩ := hoth a1 a2 a3
      rcases howns e' ho' with ⟨j', o0', b1, b2, b3⟩ | ⟨b1, b2, b3⟩
      · rcases hp.owned b ⟨j', o0', b2, b3⟩ with h5 | h5
        · exact absurd h5 c2
        · omega
      · exact hi.sep i o i' o' b a2 b2 a3 b3
  · have hlen : h.length + nl.length ≤ i := by simpa [putBack] using hi'
    have hx : nl[i - h.length]? = none := List.getElem?_eq_none (by omega)
    simp only [backG, if_neg (show ¬ i < h.length by omega), hx]
    exact ⟨trivial, fun _ => trivial⟩
  · rcases hp.fixed b q e with h5 | h5 | h5
    · exact .inl h5
    · exact .inr (.inl (hsub b h5))
    · exact .inr (.inr h5)
  · obtain ⟨i, o, e, ho⟩ := ho
    rcases howns e ho with ⟨j, o0, a1, a2, a3⟩ | ⟨a1, a2, a3⟩
    · rcases hp.owned b ⟨j, o0, a2, a3⟩ with h5 | h5
      · exact .inl (hsub b h5)
      · exact .inr h5
    · exact .inl ⟨i, o, a2, a3⟩
end Go.Abs
