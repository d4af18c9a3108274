/-
  Plain laws: what a valid specification is; Self, Through, Transitive. Conditions: none.
-/
import Derived.Test.YtlielgleabghlaaDoorLawA

set_option linter.unusedVariables false
set_option linter.unusedSimpArgs false
namespace Go.Abs

theorem firstErr_zero : ∀ {l : List Int}, firstErr l = 0 ↔ ∀ e ∈ l, e = 0
  | [] => by simp [firstErr]
  | e :: l => by
    unfold firstErr
    by_cases h : e = 0
    · rw [if_pos h, firstErr_zero]
      simp [h]
    · rw [if_neg h]
      simp [h]
theorem firstErr_map {α : Type} {f : α → Int} {xs : List α} : firstErr (xs.map f) = 0 ↔ ∀ x ∈ xs, f x = 0 := by
  rw [firstErr_zero]
  simp

theorem order_of {α : Type} (nm : α → ByteArray) : ∀ {xs : List α}, (∀ (i : Nat) (x y : α), xs[i]? = some x → xs[i + 1]? = some y → ltB (nm x) (nm y) = true) → InOrder nm xs
  | [], _ => .nil
  | [x], _ => List.pairwise_singleton _ _
  | x :: y :: xs, h => by
    have h1 := order_of nm (xs := y :: xs) fun i a b ha hb => h (i + 1) a b (by simpa using ha) (by simpa using hb)
    have h2 := h 0 x y rfl rfl
    refine List.pairwise_cons.2 ⟨fun z hz => ?_, h1⟩
    rcases List.mem_cons.1 hz with rfl | hz
    · exact h2
    · exact ltB_trans h2 ((List.pairwise_cons.1 h1).1 z hz)
theorem geB_false {a b : ByteArray} : geB a b = true ↔ ltB a b = false := by
  unfold geB ltB
  cases Op.bytesLess a.toList b.toList <;> simp

structure ValidSpec (ca : ByteArray → ByteArray → Bool) (s : SigSpec) : Prop where
  nd : s.datas.length ≤ 40
  nv : s.vals.length ≤ 40
  od : InOrder (·.name) s.datas
  ov : InOrder (·.name) s.vals
  data : ∀ d ∈ s.datas, dataError ca d = 0
  cut : ∀ v ∈ s.vals, cutB ca v.name = false
  scheme : ∀ v ∈ s.vals, schemeError ca v.scheme = 0
  kinds : kindsError s.datas s = 0

theorem range_mem {n i : Nat} (h : i < n) : i ∈ List.range n := List.mem_range.2 h

theorem check_iff {ca : ByteArray → ByteArray → Bool} {s : SigSpec} : check ca s = 0 ↔ ValidSpec ca s := by
  unfold check
  constructor
  · intro h
    split at h
    · cases h
    · rename_i h1
      split at h
      · cases h
      · rename_i h2
        split at h
        · rename_i h3
          exact absurd h h3
        · rename_i h3
          split at h
          · rename_i h4
            exact absurd h h4
          · rename_i h4
            have h3' := firstErr_map.1 (by simpa using h3)
            have h4' := firstErr_map.1 (by simpa using h4)
            refine ⟨by omega, by omega, order_of _ fun i x y hx hy => ?_, order_of _ fun i x y hx hy => ?_, fun d hd => ?_, fun v hv => ?_, fun v hv => ?_, h⟩
            · have hl := (List.getElem?_eq_some_iff.1 hy).1
              have := h3' (i + 1) (range_mem hl)
              simp only [dataAt, hx, hy] at this
              split at this
              · rename_i hne
                exact absurd this hne
              · split at this
                · cases this
                · rename_i hg
                  cases hq : ltB x.name y.name with
                  | true => rfl
                  | false => exact absurd (geB_false.2 hq) hg
            · have hl := (List.getElem?_eq_some_iff.1 hy).1
              have := h4' (i + 1) (range_mem hl)
              simp only [valAt, hx, hy] at this
              split at this
              · cases this
              · split at this
                · rename_i hne
                  exact absurd this hne
                · split at this
                  · cases this
                  · rename_i hg
                    cases hq : ltB x.name y.name with
                    | true => rfl
                    | false => exact absurd (geB_false.2 hq) hg
            · obtain ⟨i, hi⟩ := List.getElem?_of_mem hd
              have := h3' i (range_mem (List.getElem?_eq_some_iff.1 hi).1)
              simp only [dataAt, hi] at this
              split at this
              · rename_i hne
                exact absurd this hne
              · rename_i hne
                simpa using hne
            · obtain ⟨i, hi⟩ := List.getElem?_of_mem hv
              have := h4' i (range_mem (List.getElem?_eq_some_iff.1 hi).1)
              simp only [valAt, hi] at this
              split at this
              · cases this
              · rename_i hne
                simpa using hne
            · obtain ⟨i, hi⟩ := List.getElem?_of_mem hv
              have := h4' i (range_mem (List.getElem?_eq_some_iff.1 hi).1)
              simp only [valAt, hi] at this
              split at this
              · cases this
              · split at this
                · rename_i hne
                  exact absurd this hne
                · rename_i hne
                  simpa using hne
  · intro h
    have h1 : ¬ (s.datas.length : Int) > 40 := by have := h.nd; omega
    have h2 : ¬ (s.vals.length : Int) > 40 := by have := h.nv; omega
    have h3 : firstErr ((List.range s.datas.length).map (dataAt ca s.datas)) = 0 := firstErr_map.2 fun i hi => by
      have hi' := List.mem_range.1 hi
      unfold dataAt
      rw [List.getElem?_eq_getElem hi']
      dsimp only
      rw [if_neg (by simpa using h.data _ (List.getElem_mem hi'))]
      cases i with
      | zero => rfl
      | succ j =>
        have hj : j < s.datas.length := by omega
        dsimp only
        rw [List.getElem?_eq_getElem hj]
        dsimp only
        have := List.pairwise_iff_getElem.1 h.od j (j + 1) hj hi' (Nat.lt_succ_self _)
        rw [if_neg (fun hx => by rw [geB_false.1 hx] at this; cases this)]
    have h4 : firstErr ((List.range s.vals.length).map (valAt ca s.vals)) = 0 := firstErr_map.2 fun i hi => by
      have hi' := List.mem_range.1 hi
      unfold valAt
      rw [List.getElem?_eq_getElem hi']
      dsimp only
      rw [if_neg (by simpa using h.cut _ (List.getElem_mem hi')), if_neg (by simpa using h.scheme _ (List.getElem_mem hi'))]
      cases i with
      | zero => rfl
      | succ j =>
        have hj : j < s.vals.length := by omega
        dsimp only
        rw [List.getElem?_eq_getElem hj]
        dsimp only
        have := List.pairwise_iff_getElem.1 h.ov j (j + 1) hj hi' (Nat.lt_succ_self _)
        rw [if_neg (fun hx => by rw [geB_false.1 hx] at this; cases this)]
    rw [if_neg h1, if_neg h2, if_neg (by simpa using h3), if_neg (by simpa using h4)]
    exact h.kinds

theorem typeError_wf {t : Ty} : ∀ {vars deep : Int}, typeError t vars deep = 0 → TyWf t := by
  induction t using Ty.ind with
  | h k n v as ih =>
    intro vars deep h
    rw [typeError_eq] at h
    split at h
    · cases h
    · split at h
      · cases h
      · rename_i hk
        split at h
        · cases h
        · split at h
          · cases h
          · have h1 := firstErr_map.1 h
            refine .mk (fun h0 => ?_) fun a ha => ih a ha (h1 a ha)
            subst h0
            cases as with
            | nil => rfl
            | cons a as =>
              exfalso
              apply hk
              unfold kindBad
              simp
              omega
theorem schemeError_zero {ca : ByteArray → ByteArray → Bool} {s : Scheme} (h : schemeError ca s = 0) : (∀ p ∈ s.preds, cutB ca p.cls = false ∧ typeError p.type s.vars 1 = 0) ∧ typeError s.type s.vars 1 = 0 := by
  unfold schemeError at h
  split at h
  · cases h
  · split at h
    · rename_i h1
      refine ⟨fun p hp => ?_, h⟩
      have := firstErr_map.1 h1 p hp
      unfold predError at this
      split at this
      · cases this
      · rename_i hc
        exact ⟨by simpa using hc, this⟩
    · rename_i h1
      exact absurd h h1
theorem schemeError_wf {ca : ByteArray → ByteArray → Bool} {s : Scheme} (h : schemeError ca s = 0) : WfScheme s :=
  ⟨typeError_wf (schemeError_zero h).2, fun p hp => typeError_wf ((schemeError_zero h).1 p hp).2⟩

theorem filled_wf {l : List Ty} (hl : ∀ a ∈ l, TyWf a) {t : Ty} (ht : TyWf t) : TyWf (filled t l) := by
  induction t using Ty.ind with
  | h k n v as ih =>
    have ht' := ht
    cases ht with
    | mk h0 ha =>
      rw [filled_eq]
      split
      · split
        · cases hq : l[v.toNat]? with
          | none => exact ht'
          | some x => exact hl x (List.mem_of_getElem? hq)
        · exact ht'
      · rename_i hk
        refine .mk (fun h => absurd h hk) fun a ha' => ?_
        obtain ⟨x, hx, rfl⟩ := List.mem_map.1 ha'
        exact ih x hx (ha x hx)
theorem substAt_wf {n : ByteArray} {args : List Ty} {d : Ty} (ha : ∀ a ∈ args, TyWf a) (hd : TyWf d) : ∀ {l : List SigMap}, (∀ m ∈ l, TyWf m.type) → TyWf (substAt l n args d)
  | [], _ => hd
  | m :: l, h => by
    unfold substAt
    split
    · exact filled_wf ha (h m (by simp))
    · exact substAt_wf ha hd fun m hm => h m (by simp [hm])
theorem subst_wf {l : List SigMap} (hl : ∀ m ∈ l, TyWf m.type) {t : Ty} (ht : TyWf t) : TyWf (subst l t) := by
  induction t using Ty.ind with
  | h k n v as ih =>
    cases ht with
    | mk h0 ha =>
      have h1 : ∀ a ∈ as.map (subst l), TyWf a := fun a ha' => by
        obtain ⟨x, hx, rfl⟩ := List.mem_map.1 ha'
        exact ih x hx (ha x hx)
      have h2 : TyWf (.mk k n v (as.map (subst l))) := .mk (fun h => by rw [h0 h]; rfl) h1
      rw [subst_eq]
      split
      · exact substAt_wf h1 h2 hl
      · exact h2
theorem mapOf_wf (front : ByteArray) (d : DataSig) : TyWf (mapOf front d).type := by
  refine .mk (fun h => by cases h) fun a ha => ?_
  obtain ⟨i, _, rfl⟩ := List.mem_map.1 ha
  exact .mk (fun _ => rfl) fun a ha => by cases ha
theorem mapped_wf {l : List SigMap} (hl : ∀ m ∈ l, TyWf m.type) {s : Scheme} (hs : WfScheme s) : WfScheme (mapped s l) := by
  refine ⟨subst_wf hl hs.1, fun p hp => ?_⟩
  obtain ⟨q, hq, rfl⟩ := List.mem_map.1 hp
  exact subst_wf hl (hs.2 q hq)

theorem sameCon_refl (c : ConSig) : sameCon c c = true := by
  unfold sameCon
  simp only [decide_true, Bool.true_and]
  exact eqF_iff.2 (All2.refl fun x _ => same_refl x)
theorem sameCon_trans {a b c : ConSig} (h1 : sameCon a b = true) (h2 : sameCon b c = true) : sameCon a c = true := by
  unfold sameCon at *
  simp only [Bool.and_eq_true, decide_eq_true_eq, eqF_iff] at *
  exact ⟨h1.1.trans h2.1, h1.2.trans h2.2 fun _ _ _ _ _ _ h h' => same_trans h h'⟩

/-! ### Types of a match -/
theorem typeErrAt_zero {l : List DataSig} {d : DataSig} : typeErrAt l d = 0 ↔ (find l d.name).2 = true ∧ (find l d.name).1.params = d.params ∧ (0 < d.cons.length → eqF sameCon (find l d.name).1.cons d.cons = true) := by
  unfold typeErrAt
  constructor
  · intro h
    split at h
    · cases h
    · rename_i h1
      split at h
      · cases h
      · rename_i h2
        split at h
        · cases h
        · rename_i h3
          refine ⟨by simpa using h1, by simpa using h2, fun hl => ?_⟩
          cases hq : eqF sameCon (find l d.name).1.cons d.cons with
          | true => rfl
          | false => exact absurd ⟨hl, hq⟩ h3
  · rintro ⟨h1, h2, h3⟩
    rw [if_neg (by rw [h1]; simp), if_neg (by simpa using h2), if_neg (fun hx => by rw [h3 hx.1] at hx; cases hx.2)]
theorem typesR_zero {I S : SigSpec} {name : ByteArray} : (typesR I S name).2 = 0 ↔ ∀ d ∈ S.datas, typeErrAt I.datas d = 0 := by
  unfold typesR
  split
  · rename_i h
    exact ⟨fun _ => firstErr_map.1 h, fun _ => rfl⟩
  · rename_i h
    exact ⟨fun hx => absurd hx h, fun hx => absurd (firstErr_map.2 hx) h⟩
theorem typesR_fst {I S : SigSpec} {name : ByteArray} (h : (typesR I S name).2 = 0) : (typesR I S name).1 = S.datas.map (mapOf name) := by
  unfold typesR at h ⊢
  split
  · rfl
  · rename_i h1
    rw [if_neg h1] at h
    exact absurd h h1

/-- When a match succeeds. -/
structure Matches (ca : ByteArray → ByteArray → Bool) (I S : SigSpec) (name : ByteArray) : Prop where
  vi : ValidSpec ca I
  vs : ValidSpec ca S
  cut : cutB ca name = false
  types : ∀ d ∈ S.datas, (find I.datas d.name).2 = true ∧ (find I.datas d.name).1.params = d.params ∧ (0 < d.cons.length → eqF sameCon (find I.datas d.name).1.cons d.cons = true)
  vals : ∀ v ∈ S.vals, ∃ x ∈ I.vals, x.name = v.name ∧ generalB (mapped x.scheme (I.datas.map (mapOf name))) (mapped v.scheme (S.datas.map (mapOf name))) = true

theorem valErr_zero {I : SigSpec} (ho : InOrder (·.name) I.vals) {inner l : List SigMap} {v : ValSig} : valErr I inner l v = 0 ↔ ∃ x ∈ I.vals, x.name = v.name ∧ generalB (mapped x.scheme inner) (mapped v.scheme l) = true := by
  unfold valErr
  constructor
  · intro h
    split at h
    · rename_i hb
      obtain ⟨x, h1, h2, h3⟩ := search_name (nm := fun x : ValSig => x.name) hb
      rw [h1] at h
      dsimp only at h
      split at h
      · rename_i hg
        exact ⟨x, h2, h3, hg⟩
      · cases h
    · cases h
  · rintro ⟨x, h1, h2, h3⟩
    obtain ⟨h4, h5⟩ := search_found ho h1
    rw [← h2, if_pos h4, h5]
    dsimp only
    rw [if_pos h3]
theorem matchR_zero {ca : ByteArray → ByteArray → Bool} {I S : SigSpec} {name : ByteArray} : (matchR ca I S name).2 = 0 ↔ Matches ca I S name := by
  unfold matchR
  constructor
  · intro h
    split at h
    · rename_i h1
      exact absurd h h1
    · rename_i h1
      split at h
      · rename_i h2
        exact absurd h h2
      · rename_i h2
        split at h
        · cases h
        · rename_i h3
          split at h
          · rename_i h4
            exact absurd h h4
          · rename_i h4
            split at h
            · rename_i h5
              exact absurd h h5
            · rename_i h5
              have v1 := check_iff.1 (by simpa using h1)
              have v2 := check_iff.1 (by simpa using h2)
              have h4' : (typesR I S name).2 = 0 := by simpa using h4
              have h5' := firstErr_map.1 (by simpa using h5)
              rw [typesR_fst h4'] at h5'
              exact ⟨v1, v2, by simpa using h3, fun d hd => typeErrAt_zero.1 (typesR_zero.1 h4' d hd), fun v hv => (valErr_zero v1.ov).1 (h5' v hv)⟩
  · intro h
    have h4 : (typesR I S name).2 = 0 := typesR_zero.2 fun d hd => typeErrAt_zero.2 (h.types d hd)
    have h5 : firstErr (S.vals.map (valErr I (I.datas.map (mapOf name)) (typesR I S name).1)) = 0 := by
      rw [typesR_fst h4]
      exact firstErr_map.2 fun v hv => (valErr_zero h.vi.ov).2 (h.vals v hv)
    rw [if_neg (by simpa using check_iff.2 h.vi), if_neg (by simpa using check_iff.2 h.vs), if_neg (by rw [h.cut]; simp), if_neg (by simpa using h4), if_neg (by simpa using h5)]
theorem matchR_fst {ca : ByteArray → ByteArray → Bool} {I S : SigSpec} {name : ByteArray} (h : (matchR ca I S name).2 = 0) : (matchR ca I S name).1 = S.datas.map (mapOf name) := by
  have hm := matchR_zero.1 h
  have h4 : (typesR I S name).2 = 0 := typesR_zero.2 fun d hd => typeErrAt_zero.2 (hm.types d hd)
  have h5 : firstErr (S.vals.map (valErr I (I.datas.map (mapOf name)) (typesR I S name).1)) = 0 := by
    rw [typesR_fst h4]
    exact firstErr_map.2 fun v hv => (valErr_zero hm.vi.ov).2 (hm.vals v hv)
  unfold matchR
  rw [if_neg (by simpa using check_iff.2 hm.vi), if_neg (by simpa using check_iff.2 hm.vs), if_neg (by rw [hm.cut]; simp), if_neg (by simpa using h4), if_neg (by simpa using h5)]
  exact typesR_fst h4
theorem matchR_err {ca : ByteArray → ByteArray → Bool} {I S : SigSpec} {name : ByteArray} (h : (matchR ca I S name).2 ≠ 0) : (matchR ca I S name).1 = [] := by
  unfold matchR at h ⊢
  repeat' split
  all_goals first
    | rfl
    | (exfalso; apply h; repeat' (first | rw [if_neg ‹_›] | rw [if_pos ‹_›]))

/-! ### The laws -/
theorem match_self {ca : ByteArray → ByteArray → Bool} {s : SigSpec} {name : ByteArray} (hv : ValidSpec ca s) (hc : cutB ca name = false) : Matches ca s s name := by
  refine ⟨hv, hv, hc, fun d hd => ?_, fun v hvm => ⟨v, hvm, rfl, ?_⟩⟩
  · rw [find_found hv.od hd]
    exact ⟨rfl, rfl, fun _ => eqF_iff.2 (All2.refl fun c _ => sameCon_refl c)⟩
  · refine general_self (mapped_wf (fun m hm => ?_) (schemeError_wf (hv.scheme v hvm)))
    obtain ⟨d, _, rfl⟩ := List.mem_map.1 hm
    exact mapOf_wf name d
theorem match_trans {ca : ByteArray → ByteArray → Bool} {a b c : SigSpec} {name : ByteArray} (h1 : Matches ca a b name) (h2 : Matches ca b c name) : Matches ca a c name := by
  refine ⟨h1.vi, h2.vs, h1.cut, fun d hd => ?_, fun v hv => ?_⟩
  · obtain ⟨g1, g2, g3⟩ := h2.types d hd
    obtain ⟨m1, m2⟩ := find_name g1
    have k := h1.types _ m1
    rw [m2] at k
    obtain ⟨k1, k2, k3⟩ := k
    refine ⟨k1, k2.trans g2, fun hl => ?_⟩
    have e1 := eqF_iff.1 (g3 hl)
    have e2 := eqF_iff.1 (k3 (by rw [e1.length]; exact hl))
    exact eqF_iff.2 (e2.trans e1 fun _ _ _ _ _ _ h h' => sameCon_trans h h')
  · obtain ⟨x, hx, hn, hg⟩ := h2.vals v hv
    obtain ⟨y, hy, hn', hg'⟩ := h1.vals x hx
    exact ⟨y, hy, hn'.trans hn, general_trans hg' hg⟩
end Go.Abs
