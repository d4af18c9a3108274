/-
  Each operation but calls: what the abstract machine answers, the model answers. Conditions: none.
-/
import Derived.Test.YtlielgleabghlaaDoorAbsE
import Derived.Great.BuildSlice

set_option linter.unusedVariables false
namespace Go.Abs
variable {E : Env} {G : Ghost} {h : Heap} {w : World}

theorem cells_toArray (l : List Value) : l.toArray.toList = l := rfl

theorem loadN_run (hi : Inv E G h w) {av : AVal} {x : Value} (hx : Rep E G av x) {t : TypeId} {d : TypeDesc} {i : TypeInfo} (hd : E.P.underlying t = some d) (hn : E.P.info? t = some i) (ha : isAggD d = true)
    {cs : List AVal} (hr : readAt h av i.size = some cs) : ∃ v, (Instr.loadAt t x).run E.P w = .ok v w ∧ Rep E G (.agg cs) v := by
  obtain ⟨b, o, vs, rfl, hl, hrep, hc⟩ := readAt_sound hi hx hr
  have hlen : vs.length = i.size := by rw [hrep.len, hl]
  have hld := run_loadCells_list (P := E.P) w ⟨b, o, none⟩ vs (fun j v e => by rw [add_none]; exact hc j v e)
  rw [hlen] at hld
  refine ⟨.agg vs.toArray, ?_, .agg (by simpa using hrep.len) (fun i c v e e' => hrep.rep i c v e (by simpa using e'))⟩
  simp [Instr.loadAt, Instr.sureAddr, loadVar, run_isAggT hd, ha, run_sizeT hn, hld]

theorem load1_run (hi : Inv E G h w) {av : AVal} {x : Value} (hx : Rep E G av x) {t : TypeId} {d : TypeDesc} (hd : E.P.underlying t = some d) (ha : isAggD d = false)
    {c : AVal} (hr : aLoad1 h av = some c) : ∃ v, (Instr.loadAt t x).run E.P w = .ok v w ∧ Rep E G c v := by
  obtain ⟨b, o, v, rfl, hrep, hc⟩ := load1_sound hi hx hr
  exact ⟨v, by simp [Instr.loadAt, Instr.sureAddr, loadVar, run_isAggT hd, ha, hc], hrep⟩

theorem store_run (hi : Inv E G h w) {av vv : AVal} {x y : Value} (hx : Rep E G av x) (hy : Rep E G vv y) {t : TypeId} {i : TypeInfo} (hn : E.P.info? t = some i) {h' : Heap}
    (hs : aStore h i.size av vv = some h') : ∃ w', (Instr.storeAt t x y).run E.P w = .ok () w' ∧ Post E G h w G h' w' := by
  obtain ⟨b, o, w', rfl, hsz, hrun, hp⟩ := store_sound hi hx hy hs
  exact ⟨w', by simp [Instr.storeAt, Instr.sureAddr, storeVar, run_sizeT hn, hsz, hrun], hp⟩

theorem field_run {av : AVal} {x : Value} (hx : Rep E G av x) {s : TypeId} {fs : Array Field} {k : Nat} {f : Field} {i : TypeInfo} (hd : E.P.underlying s = some (.struct fs)) (hf : fs[k]? = some f)
    (hn : E.P.info? f.type = some i) (h0 : ¬ i.size = 0) {r : AVal} (hr : aField f.offset av = some r) : ∃ v, (Instr.fieldAt s x k).run E.P w = .ok v w ∧ Rep E G r v := by
  unfold aField at hr
  split at hr
  · injection hr with hr
    subst hr
    cases hx with
    | ptr hb => exact ⟨_, by simp [Instr.fieldAt, Instr.sureAddr, run_underlying hd, hf, fieldPlace, run_sizeT hn, h0, add_none], .ptr hb⟩
  · rename_i cells off
    injection hr with hr
    subst hr
    cases hx with
    | @vptr _ _ b o vs hl hff hrr => exact ⟨.pointer (some ⟨b, o + off + f.offset, none⟩), by simp [Instr.fieldAt, Instr.sureAddr, run_underlying hd, hf, fieldPlace, run_sizeT hn, h0, add_none], .vptr_at vs hl hff hrr (by omega)⟩
  · cases hr

theorem part1_run {cs : List AVal} {vs : Array Value} (hx : Rep E G (.agg cs) (.agg vs)) {t : TypeId} {d : TypeDesc} (hd : E.P.underlying t = some d) (ha : isAggD d = false) {off : Nat} {c : AVal}
    (hr : cs[off]? = some c) : ∃ v, (part t vs off).run E.P w = .ok v w ∧ Rep E G c v := by
  cases hx with
  | agg hl hrr =>
    have hlt : off < vs.size := by rw [hl]; exact (List.getElem?_eq_some_iff.1 hr).1
    have hv : vs[off]? = some vs[off] := Array.getElem?_eq_getElem hlt
    exact ⟨_, by simp [part, run_isAggT hd, ha, hv], hrr off c _ hr hv⟩

theorem partN_run {cs : List AVal} {vs : Array Value} (hx : Rep E G (.agg cs) (.agg vs)) {t : TypeId} {d : TypeDesc} {i : TypeInfo} (hd : E.P.underlying t = some d) (hn : E.P.info? t = some i) (ha : isAggD d = true) {off : Nat}
    (hr : off + i.size ≤ cs.length) : ∃ v, (part t vs off).run E.P w = .ok v w ∧ Rep E G (.agg ((cs.drop off).take i.size)) v := by
  cases hx with
  | agg hl hrr =>
    refine ⟨.agg (vs.extract off (off + i.size)), by simp [part, run_isAggT hd, ha, run_sizeT hn], .agg (by simp; omega) fun j c v e e' => ?_⟩
    rw [List.getElem?_take] at e
    split at e
    · rename_i hj
      rw [List.getElem?_drop] at e
      refine hrr (off + j) c v e ?_
      rw [Array.getElem?_extract] at e'
      split at e'
      · exact e'
      · cases e'
    · cases e

theorem fieldVal_run {av : AVal} {x : Value} (hx : Rep E G av x) {s : TypeId} {fs : Array Field} {k : Nat} {f : Field} (hd : E.P.underlying s = some (.struct fs)) (hf : fs[k]? = some f)
    {d : TypeDesc} {i : TypeInfo} (hdt : E.P.underlying f.type = some d) (hn : E.P.info? f.type = some i) {r : AVal}
    (hr : (if isAggD d = true then aPartN f.offset i.size av else aPart1 f.offset av) = some r) : ∃ v, (Instr.field s x k).run E.P w = .ok v w ∧ Rep E G r v := by
  split at hr
  · rename_i ha
    unfold aPartN at hr
    split at hr
    · split at hr
      · rename_i hle
        injection hr with hr
        subst hr
        cases hx with
        | agg hl hrr =>
          obtain ⟨v, h1, h2⟩ := partN_run (w := w) (Rep.agg hl hrr) hdt hn ha hle
          exact ⟨v, by simp [Instr.field, run_underlying hd, hf, asAgg, h1], h2⟩
      · cases hr
    · cases hr
  · rename_i ha
    unfold aPart1 at hr
    split at hr
    · cases hx with
      | agg hl hrr =>
        obtain ⟨v, h1, h2⟩ := part1_run (w := w) (Rep.agg hl hrr) hdt (by simpa using ha) hr
        exact ⟨v, by simp [Instr.field, run_underlying hd, hf, asAgg, h1], h2⟩
    · cases hr

theorem flatMap_get {α β : Type} {f : α → List β} {sz : Nat} : ∀ {xs : List α}, (∀ x ∈ xs, (f x).length = sz) → ∀ {i : Nat} {x : α}, xs[i]? = some x → ∀ {j : Nat} {c : β}, (f x)[j]? = some c → (xs.flatMap f)[i * sz + j]? = some c := by
  intro xs
  induction xs with
  | nil => intro _ i x e; simp at e
  | cons y ys ih =>
    intro hs i x e j c e'
    have hy := hs y (by simp)
    rw [List.flatMap_cons]
    cases i with
    | zero =>
      simp at e
      subst e
      rw [List.getElem?_append_left (by simp; exact (List.getElem?_eq_some_iff.1 e').1)]
      simpa using e'
    | succ i =>
      have h1 := ih (fun x hx => hs x (by simp [hx])) (i := i) (x := x) (by simpa using e) e'
      have h2 : (i + 1) * sz + j = (f y).length + (i * sz + j) := by rw [hy, Nat.succ_mul]; omega
      rw [h2, List.getElem?_append_right (by omega)]
      rw [show (f y).length + (i * sz + j) - (f y).length = i * sz + j by omega]
      exact h1

theorem flatMap_length {α β : Type} {f : α → List β} {sz : Nat} : ∀ {xs : List α}, (∀ x ∈ xs, (f x).length = sz) → (xs.flatMap f).length = xs.length * sz := by
  intro xs
  induction xs with
  | nil => intro _; simp
  | cons y ys ih =>
    intro hs
    rw [List.flatMap_cons, List.length_append, hs y (by simp), ih (fun x hx => hs x (by simp [hx])), List.length_cons, Nat.succ_mul]
    omega

theorem indexList_run {av iv : AVal} {x ix : Value} (hx : Rep E G av x) (hix : Rep E G iv ix) {t e : TypeId} {j : TypeInfo} (hd : E.P.underlying t = some (.slice e)) (hn : E.P.info? e = some j)
    {r : AVal} (hr : aIndexList j.size av iv = some r) : ∃ v, (Instr.indexAt t x ix).run E.P w = .ok v w ∧ Rep E G r v := by
  unfold aIndexList at hr
  split at hr
  · rename_i xs own k i
    split at hr
    · rename_i h0
      split at hr
      · rename_i v hv
        split at hr
        · rename_i hsz0
          injection hr with hr
          subst hr
          cases hix with
          | int k i =>
            cases hx with
            | list sz vs hlen hcap hsz ha hl hrr ho =>
              have hlt := (List.getElem?_eq_some_iff.1 hv).1
              have hne : xs ≠ [] := fun hx => by rw [hx] at hv; simp at hv
              obtain ⟨b, o, rfl, hfx⟩ := ha hne
              have hszj : sz = j.size := by rw [← hsz v (List.mem_of_getElem? hv)]; exact hsz0
              subst hszj
              have hii : i < (xs.length : Int) := by omega
              refine ⟨.pointer (some ⟨b, o + i.toNat * j.size, none⟩), ?_, ?_⟩
              · simp [Instr.indexAt, asIntOf, run_underlying hd, run_sizeT hn, hlen, h0, hii, add_none]
              · have hfl := flatMap_length (f := acells) hsz
                have hb : i.toNat * j.size + (acells v).length ≤ vs.length := by
                  rw [hl, hfl, hsz0, ← Nat.succ_mul]
                  exact Nat.mul_le_mul_right _ hlt
                have := Rep.vptr (E := E) (G := G) (cells := acells v) (off := 0) (b := b) (o := o + i.toNat * j.size) ((vs.drop (i.toNat * j.size)).take (acells v).length) (by simp; omega)
                  (fun q u e => by
                    rw [List.getElem?_take] at e
                    split at e
                    · rw [List.getElem?_drop] at e
                      rw [Nat.add_assoc]
                      exact hfx _ u e
                    · cases e)
                  (fun q c u e e' => by
                    rw [List.getElem?_take] at e'
                    split at e'
                    · rw [List.getElem?_drop] at e'
                      exact hrr _ c u (flatMap_get hsz hv e) e'
                    · cases e')
                simpa using this
        · cases hr
      · cases hr
    · cases hr
  · rename_i id off len k i
    split at hr
    · rename_i hc
      obtain ⟨hc1, hc2, hc3⟩ := hc
      injection hr with hr
      subst hr
      cases hix with
      | int k i =>
        cases hx with
        | ref hb hcap =>
          refine ⟨_, ?_, .ptr hb⟩
          simp [Instr.indexAt, asIntOf, run_underlying hd, run_sizeT hn, hc1, hc2, hc3, add_none]
    · cases hr
  · cases hr

theorem indexArr_run {av iv : AVal} {x ix : Value} (hx : Rep E G av x) (hix : Rep E G iv ix) {t e : TypeId} {n : Nat} {j : TypeInfo} (hd : E.P.underlying t = some (.array n e)) (hn : E.P.info? e = some j)
    {r : AVal} (hr : aIndexArr n j.size av iv = some r) : ∃ v, (Instr.indexAt t x ix).run E.P w = .ok v w ∧ Rep E G r v := by
  unfold aIndexArr at hr
  split at hr
  · rename_i cells off k i
    split at hr
    · rename_i hc
      injection hr with hr
      subst hr
      cases hix with
      | int k i =>
        cases hx with
        | @vptr _ _ b o vs hl hff hrr => exact ⟨.pointer (some ⟨b, o + off + i.toNat * j.size, none⟩), by simp [Instr.indexAt, asIntOf, run_underlying hd, run_sizeT hn, hc, add_none, Instr.sureAddr], .vptr_at vs hl hff hrr (by omega)⟩
    · cases hr
  · split at hr
    · rename_i hc
      injection hr with hr
      subst hr
      cases hix with
      | int k i =>
        cases hx with
        | ptr hb => exact ⟨_, by simp [Instr.indexAt, asIntOf, run_underlying hd, run_sizeT hn, hc, add_none, Instr.sureAddr], .ptr hb⟩
    · cases hr
  · cases hr

theorem indexStr_run {av iv : AVal} {x ix : Value} (hx : Rep E G av x) (hix : Rep E G iv ix) {t : TypeId} (hd : E.P.underlying t = some .string)
    {r : AVal} (hr : aIndexStr av iv = some r) : ∃ v, (Instr.index t x ix).run E.P w = .ok v w ∧ Rep E G r v := by
  unfold aIndexStr at hr
  split at hr
  · split at hr
    · rename_i h0
      obtain ⟨b, hb, rfl⟩ := Option.map_eq_some_iff.1 hr
      cases hix with
      | int k i =>
        cases hx with
        | str s => exact ⟨.int .u8 b.toNat, by simp [Instr.index, asIntOf, run_underlying hd, h0, hb], .int _ _⟩
    · cases hr
  · cases hr

theorem build_run (hg : GlobOk E G) {tm : Tmps} {a : Act} (ht : RelT E G tm a) {t : TypeId} {parts : Array (Nat × Operand)} {z : List AVal} {ps : List (Nat × Nat × Opd)} (hc : cBuild E t parts = .build z ps) {cs : List AVal}
    (hf : fillA z (ps.map fun p => (p.1, p.2.1, opd tm p.2.2)) = some cs) : ∃ v, (Instr.build t (parts.map fun (i, x) => (i, a.eval x))).run E.P w = .ok v w ∧ Rep E G (.agg cs) v := by
  have hl : (parts.map fun (i, x) => (i, a.eval x)).toList = parts.toList.map fun p => (p.1, a.eval p.2) := by simp
  unfold cBuild at hc
  split at hc
  · rename_i fs i hd hi
    split at hc
    · rename_i zv hzv
      split at hc
      · rename_i hall0
        obtain ⟨hkn, hall⟩ := hall0
        have hzr := (rep_ofValue E G zv).cells (known_ne hkn)
        split at hc
        · rename_i ps' hps
          injection hc with h1 h2
          subst h1 h2
          have hmap : ∀ fs : List Field, (fs.all fun f => (E.P.info? f.type).isSome) = true → ((fs.mapM fun f => (do pure (f.offset, ← sizeOf f.type) : Sem (Nat × Nat)))).run E.P w = .ok (fs.map fun f => (f.offset, (sizeOfT E f.type).getD 0)) w := by
            intro fs
            induction fs with
            | nil => intro _; simp
            | cons f fs ih =>
              intro hh
              simp only [List.all_cons, Bool.and_eq_true] at hh
              obtain ⟨j, hj⟩ := Option.isSome_iff_exists.1 hh.1
              have hone : (do pure (f.offset, ← sizeOf f.type) : Sem (Nat × Nat)).run E.P w = .ok (f.offset, j.size) w := by rw [Sem.run_bind, run_sizeT hj]; rfl
              rw [List.mapM_cons, Sem.run_bind, hone, Result.andThen_ok, Sem.run_bind, ih hh.2, Result.andThen_ok]
              simp [sizeOfT, hj]
          have hm := hmap fs.toList hall
          have hplace : (fun k => (fs.map fun f => (f.offset, (sizeOfT E f.type).getD 0))[k]?) = fieldPlaces E fs := by
            funext k
            simp only [fieldPlaces, Array.getElem?_map]
            cases hk : fs[k]? with
            | none => rfl
            | some f =>
              have hm : f ∈ fs.toList := by
                have := Array.mem_of_getElem? hk
                simpa using this
              obtain ⟨j, hj⟩ := Option.isSome_iff_exists.1 (List.all_eq_true.1 hall f hm)
              simp [sizeOfT, hj]
          · obtain ⟨cells', h1, h2⟩ := fill_sound hg ht (fieldPlaces E fs) parts.toList _ _ zv.cells cs hps hzr hf
            refine ⟨.agg cells', ?_, .agg (by simpa using h2.len) (fun i c v e e' => h2.rep i c v e (by simpa using e'))⟩
            have hm' : (fs.mapM fun f => (do pure (f.offset, ← sizeOf f.type) : Sem (Nat × Nat))).run E.P w = .ok (fs.map fun f => (f.offset, (sizeOfT E f.type).getD 0)) w := by
              rw [Array.mapM_eq_mapM_toList, Sem.run_map, hm, Result.andThen_ok]
              congr 1
              rw [← List.map_toArray, Array.toArray_toList]
            unfold Instr.build
            rw [Sem.run_bind, run_zeroT hi hzv, Result.andThen_ok, Sem.run_bind, run_underlying hd, Result.andThen_ok]
            simp only []
            rw [Sem.run_bind, hm', Result.andThen_ok, hplace, hl, h1]
            rfl
        · cases hc
      · cases hc
    · cases hc
  · rename_i n e i hd hi
    split at hc
    · rename_i zv j hzv hj
      split at hc
      · rename_i hkn
        have hzr := (rep_ofValue E G zv).cells (known_ne hkn)
        split at hc
        · rename_i ps' hps
          injection hc with h1 h2
          subst h1 h2
          obtain ⟨cells', h1, h2⟩ := fill_sound hg ht (fun k => some (k * j.size, j.size)) parts.toList _ _ zv.cells cs hps hzr hf
          refine ⟨.agg cells', ?_, .agg (by simpa using h2.len) (fun i c v e e' => h2.rep i c v e (by simpa using e'))⟩
          unfold Instr.build
          rw [Sem.run_bind, run_zeroT hi hzv, Result.andThen_ok, Sem.run_bind, run_underlying hd, Result.andThen_ok]
          simp only []
          rw [Sem.run_bind, run_sizeT hj, Result.andThen_ok, hl, h1]
          rfl
        · cases hc
      · cases hc
    · cases hc
  · cases hc

end Go.Abs
