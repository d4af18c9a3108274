/-
  Appends and literal slices: what the abstract machine answers, the model answers. Conditions: none.
-/
import Derived.Test.YtlielgleabghlaaDoorAbsF

set_option linter.unusedVariables false
namespace Go.Abs
variable {E : Env} {G : Ghost} {h : Heap} {w : World}

def Ghost.withTail (G : Ghost) (id n b cap sz : Nat) (vs : List Value) : Ghost :=
  { fix := (G.withRow b vs).fix, blk := G.blk, tl := fun i m => if i = id ∧ m = n then some (b, cap, sz) else G.tl i m }

/-- A list that may be appended to, in a new block. -/
theorem post_tail (hi : Inv E G h w) (id n sz cap : Nat) (vs : List Value) (cells : Array Value) (t : TypeId) (hv : ∀ (i : Nat) (v : Value), vs[i]? = some v → cells[i]? = some v) (h1 : ∀ v ∈ vs, v.oneCell' = true)
    (hcells : cells.size = cap * sz) (hlen : vs.length = n * sz) (hn : n ≤ cap) (h' : Heap) (hh : ∀ k o, h'[k]? = some o → (k = id ∧ o = .tail n sz) ∨ (k ≠ id ∧ h[k]? = some o))
    (hdom : ∀ k, h'.length ≤ k → h.length ≤ k ∧ k ≠ id) (hfresh : ∀ m, n ≤ m → G.tl id m = none) :
    Post E G h w (G.withTail id n w.heap.size cap sz vs) h' (w.alloc (.cells cells t)) := by
  have hrow := withRow_le hi vs
  have hle : G.le (G.withTail id n w.heap.size cap sz vs) := ⟨hrow.fix, fun _ _ e => e, fun i m x e => by
    have hne : ¬ (i = id ∧ m = n) := fun hx => by
      rw [hx.1, hx.2, hfresh n (Nat.le_refl _)] at e; cases e
    simpa [Ghost.withTail, hne] using e⟩
  have hir := inv_row hi vs cells t hv h1
  have hold : ∀ k o, k ≠ id → ∀ b, Owns (G.withTail id n w.heap.size cap sz vs) k o b → Owns G k o b := by
    intro k o hne b hw
    cases o with
    | gone => exact hw
    | box cs => exact hw
    | map cs => exact hw
    | tail n' sz' => obtain ⟨cap', e⟩ := hw; exact ⟨cap', by simpa [Ghost.withTail, hne] using e⟩
  have hnew : ∀ b, Owns (G.withTail id n w.heap.size cap sz vs) id (.tail n sz) b → b = w.heap.size := by
    rintro b ⟨cap', e⟩
    simp [Ghost.withTail] at e
    exact e.1.symm
  refine ⟨hle, ⟨hir.fix, hir.one, fun k o e => ?_, fun k1 o1 k2 o2 b e1 e2 h1 h2 => ?_, fun k e => ?_⟩, by simp, fun b hb _ => heap_alloc_old w _ b hb, fun b o e => ?_, ?_, rfl, rfl, rfl⟩
  · rcases hh k o e with ⟨rfl, rfl⟩ | ⟨hne, e'⟩
    · refine ⟨w.heap.size, cap, cells, t, by simp [Ghost.withTail], heap_alloc_new w _, hcells, hn, fun q hq => ?_, fun m hm => ?_⟩
      · simp [Ghost.withTail, Ghost.withRow]
        omega
      · have : ¬ m = n := by omega
        simp [Ghost.withTail, this]
        exact hfresh m (by omega)
    · refine (hi.obj k o e').keep hle (fun b hb => heap_alloc_old w _ b (hi.owns_lt e' hb)) (fun b hb q => ?_) (fun m => ?_)
      · have : b ≠ w.heap.size := Nat.ne_of_lt (hi.owns_lt e' hb)
        simp [Ghost.withTail, Ghost.withRow, this]
      · simp [Ghost.withTail, hne]
  · rcases hh k1 o1 e1 with ⟨rfl, rfl⟩ | ⟨hn1, f1⟩ <;> rcases hh k2 o2 e2 with ⟨rfl, rfl⟩ | ⟨hn2, f2⟩
    · rfl
    · have := hnew b h1
      have := hi.owns_lt f2 (hold _ _ hn2 _ h2)
      omega
    · have := hnew b h2
      have := hi.owns_lt f1 (hold _ _ hn1 _ h1)
      omega
    · exact hi.sep k1 o1 k2 o2 b f1 f2 (hold _ _ hn1 _ h1) (hold _ _ hn2 _ h2)
  · obtain ⟨h3, h4⟩ := hdom k e
    exact ⟨(hi.dom k h3).1, fun m => by simp [Ghost.withTail, h4]; exact (hi.dom k h3).2 m⟩
  · by_cases hb : b = w.heap.size
    · exact .inr (.inr (by omega))
    · simp [Ghost.withTail, Ghost.withRow, hb] at e
      exact .inl (by simpa using e)
  · rintro b ⟨k, o, e, hw⟩
    rcases hh k o e with ⟨rfl, rfl⟩ | ⟨hne, e'⟩
    · exact .inr (by rw [hnew b hw]; exact Nat.le_refl _)
    · exact .inl ⟨k, o, e', hold _ _ hne _ hw⟩

/-- A list's cells, read. -/
structure Cells (E : Env) (G : Ghost) (xs : List AVal) (A : Option Addr) (sz : Nat) (vs : List Value) : Prop where
  size : ∀ x ∈ xs, (acells x).length = sz
  at_ : xs ≠ [] → ∃ b o, A = some ⟨b, o, none⟩ ∧ ∀ (i : Nat) (v : Value), vs[i]? = some v → G.fix b (o + i) = some v
  rep : RepL E G (xs.flatMap acells) vs

theorem Cells.length {xs : List AVal} {A : Option Addr} {sz : Nat} {vs : List Value} (hc : Cells E G xs A sz vs) : vs.length = xs.length * sz := by
  rw [hc.rep.len, flatMap_length hc.size]

theorem Cells.one (hi : Inv E G h w) {xs : List AVal} {A : Option Addr} {sz : Nat} {vs : List Value} (hc : Cells E G xs A sz vs) : ∀ v ∈ vs, v.oneCell' = true := by
  intro v hv
  obtain ⟨i, hiv⟩ := List.getElem?_of_mem hv
  have hne : xs ≠ [] := fun hx => by
    have := hc.length
    rw [hx] at this
    simp at this
    rw [this] at hiv
    simp at hiv
  obtain ⟨b, o, _, hf⟩ := hc.at_ hne
  exact hi.one _ _ _ (hf i v hiv)

theorem Cells.read (hi : Inv E G h w) {xs : List AVal} {a : Addr} {sz : Nat} {vs : List Value} (hc : Cells E G xs (some a) sz vs) : ∀ (j : Nat) (v : Value), vs[j]? = some v → w.cell? (a.add j) = some v := by
  intro j v e
  have hne : xs ≠ [] := fun hx => by
    have := hc.length
    rw [hx] at this
    simp at this
    rw [this] at e
    simp at e
  obtain ⟨b, o, ha, hf⟩ := hc.at_ hne
  injection ha with ha
  subst ha
  rw [add_none]
  exact hi.fix _ _ _ (hf j v e)

theorem Cells.append {G' : Ghost} (hle : G.le G') {xs ys : List AVal} {A A' : Option Addr} {sz : Nat} {vs us : List Value} (hx : Cells E G xs A sz vs) (hy : Cells E G ys A' sz us) {b : Nat}
    (hf : ∀ (i : Nat) (v : Value), (vs ++ us)[i]? = some v → G'.fix b i = some v) : Cells E G' (xs ++ ys) (some ⟨b, 0, none⟩) sz (vs ++ us) := by
  refine ⟨fun x hx' => ?_, fun _ => ⟨b, 0, rfl, fun i v e => by rw [Nat.zero_add]; exact hf i v e⟩, ?_⟩
  · rcases List.mem_append.1 hx' with h1 | h1
    · exact hx.size x h1
    · exact hy.size x h1
  · rw [List.flatMap_append]
    exact (hx.rep.append hy.rep).mono hle

theorem append_room_run {P : Program} (w : World) (t ty e : TypeId) (i : TypeInfo) (ht : P.underlying t = some (.slice e)) (hi : P.info? e = some i)
    (g sLen sCap : Nat) (cur : Array Value) (t' : TypeId) (hg : w.heap[g]? = some (.cells cur t' (0, 0)))
    (a : Addr) (m c : Nat) (news : List Value) (hl : news.length = m * i.size) (hnews : ∀ (j : Nat) (u : Value), news[j]? = some u → w.cell? (a.add j) = some u) (h1 : ∀ u ∈ news, u.oneCell' = true)
    (hroom : sLen + m ≤ sCap) (hfit : sLen * i.size + news.length ≤ cur.size) :
    (Builtin.append_ #[t, t] ty #[.slice (some ⟨g, 0, none⟩) sLen sCap, .slice (some a) m c]).run P w =
      .ok (.slice (some ⟨g, 0, none⟩) (sLen + m) sCap) (w.setRow g (cur.toList.take (sLen * i.size) ++ news ++ cur.toList.drop (sLen * i.size + news.length)).toArray) := by
  have hf := run_firstCells_some (P := P) w i.size m a m c news hl hnews
  have hst := run_storeCells_at P g (sLen * i.size) t' news 0 cur w hg (by simpa using hfit) h1
  simp only [Nat.add_zero] at hst
  simp [Builtin.append_, run_underlying ht, sizeOf, typeInfo, hi, Builtin.lenOf, hroom, hf, Addr.add_lit, hst]

theorem size_small {n b : Nat} (hn : n ≤ maxLenA) (hb : b ≤ 2 ^ 12) : n * b ≤ 140737488355328 := by
  have h1 : n * b ≤ 2 ^ 30 * 2 ^ 12 := Nat.mul_le_mul hn hb
  omega

theorem append_get {vs us : List Value} {rest : Array Value} {i : Nat} {v : Value} (e : (vs ++ us)[i]? = some v) : (vs.toArray ++ us.toArray ++ rest)[i]? = some v := by
  have hlt := (List.getElem?_eq_some_iff.1 e).1
  have : (vs.toArray ++ us.toArray ++ rest)[i]? = (vs ++ us ++ rest.toList)[i]? := by
    rw [← Array.getElem?_toList]
    simp
  rw [this, List.getElem?_append_left hlt]
  exact e

theorem append_run (hi : Inv E G h w) {t e : TypeId} (ty : TypeId) {i : TypeInfo} {z : Value} (htu : E.P.underlying t = some (.slice e)) (hn : E.P.info? e = some i) (hz : i.zero = some z) (hzs : z.cells.size = i.size)
    (hs0 : 0 < i.size) (hb0 : 0 < i.bytes) (hb1 : i.bytes ≤ 2 ^ 12) {ax ay r : AVal} {x y : Value} (hx : Rep E G ax x) (hy : Rep E G ay y) {h' : Heap} (hr : aAppend h i.size i.bytes ax ay = some (r, h')) :
    ∃ v w' G', (Builtin.append_ #[t, t] ty #[x, y]).run E.P w = .ok v w' ∧ Post E G h w G' h' w' ∧ Rep E G' r v := by
  unfold aAppend at hr
  split at hr
  · rename_i xs own ys own2
    cases hx with
    | @list _ _ A n cap sx vs hnl hcap hsz ha hl hrr ho =>
    cases hy with
    | @list _ _ A' m cap' sy us hml hcap' hsz' ha' hl' hrr' ho' =>
    have hcx : Cells E G xs A sx vs := ⟨hsz, ha, ⟨hl, hrr⟩⟩
    have hcy : Cells E G ys A' sy us := ⟨hsz', ha', ⟨hl', hrr'⟩⟩
    split at hr
    · rename_i hys
      simp only [Option.some.injEq, Prod.mk.injEq] at hr
      obtain ⟨hr1, hr2⟩ := hr
      subst hr1 hr2
      subst hys
      have hm0 : m = 0 := by rw [hml]; rfl
      subst hm0
      refine ⟨.slice A n cap, w, G, ?_, Post.refl hi, .list sx vs hnl hcap hsz ha hl hrr ho⟩
      cases A with
      | none => cases A' <;> simp [Builtin.append_, run_underlying htu, run_sizeT hn, Builtin.lenOf, hcap, Builtin.firstCells, loadCells, loadCellsFrom]
      | some a => cases A' <;> simp [Builtin.append_, run_underlying htu, run_sizeT hn, Builtin.lenOf, hcap, Builtin.firstCells, loadCells, loadCellsFrom, storeCells]
    · rename_i hys
      split at hr
      · rename_i hc
        obtain ⟨hc1, hc2, hc3⟩ := hc
        have hsx : ∀ v ∈ xs, (acells v).length = i.size := fun v hv => by simpa using List.all_eq_true.1 hc1 v hv
        have hsy : ∀ v ∈ ys, (acells v).length = i.size := fun v hv => by simpa using List.all_eq_true.1 hc2 v hv
        have hcx' : Cells E G xs A i.size vs := ⟨hsx, ha, ⟨hl, hrr⟩⟩
        have hcy' : Cells E G ys A' i.size us := ⟨hsy, ha', ⟨hl', hrr'⟩⟩
        obtain ⟨yb, yo, rfl, hyf⟩ := ha' hys
        have hvl := hcx'.length
        have hul := hcy'.length
        have hm1 : 0 < m := by rw [hml]; exact List.length_pos_iff.2 hys
        have hnm : n + m ≤ maxLenA := by rw [hnl, hml]; exact hc3
        have hnm' : n + m ≤ 1073741824 := hnm
        have hby : (n + m) * i.bytes ≤ 140737488355328 := size_small hnm hb1
        have hur := hcy'.read hi
        have hone : ∀ v ∈ vs ++ us, v.oneCell' = true := fun v hv => by
          rcases List.mem_append.1 hv with h1 | h1
          · exact hcx'.one hi v h1
          · exact hcy'.one hi v h1
        have hlen : (vs ++ us).length = (n + m) * i.size := by rw [List.length_append, hvl, hul, hnl, hml, Nat.add_mul]
        -- what a growing append leaves
        have grown : ∀ (id : Nat) (h2 : Heap), (∀ k o, h2[k]? = some o → (k = id ∧ o = .tail (n + m) i.size) ∨ (k ≠ id ∧ h[k]? = some o)) → (∀ k, h2.length ≤ k → h.length ≤ k ∧ k ≠ id) →
            (∀ q, n + m ≤ q → G.tl id q = none) → ∀ old, old < n + m →
            (Builtin.append_ #[t, t] ty #[.slice A n cap, .slice (some ⟨yb, yo, none⟩) m cap']).run E.P w =
              .ok (.slice (some ⟨w.heap.size, 0, none⟩) (n + m) (grownCap w (n + m) old e)) (w.drew.alloc (.cells (vs.toArray ++ us.toArray ++ Builtin.zeroCells z.cells (grownCap w (n + m) old e - (n + m))) e)) →
            ∃ v w' G', (Builtin.append_ #[t, t] ty #[.slice A n cap, .slice (some ⟨yb, yo, none⟩) m cap']).run E.P w = .ok v w' ∧ Post E G h w G' h2 w' ∧ Rep E G' (.list (xs ++ ys) (some (some id))) v := by
          intro id h2 hh hd hfr old hold hrun
          have hge : n + m ≤ grownCap w (n + m) old e := grownCap_ge w (n + m) old e
          have hsize : (vs.toArray ++ us.toArray ++ Builtin.zeroCells z.cells (grownCap w (n + m) old e - (n + m))).size = grownCap w (n + m) old e * i.size := by
            simp only [Array.size_append, List.size_toArray, size_zeroCells, hzs]
            rw [hvl, hul, ← Nat.add_mul, ← Nat.add_mul, ← hnl, ← hml]
            congr 1
            omega
          have hp := post_tail hi.drew id (n + m) i.size (grownCap w (n + m) old e) (vs ++ us) _ e (fun j v ej => append_get (rest := Builtin.zeroCells z.cells (grownCap w (n + m) old e - (n + m))) ej) hone hsize hlen hge h2 hh hd hfr
          refine ⟨_, _, _, hrun, (Post.drew hi).trans hp, ?_⟩
          have hcc := Cells.append hp.le hcx' hcy' (b := w.heap.size) (fun j v ej => by simpa [Ghost.withTail, Ghost.withRow] using ej)
          exact .list i.size (vs ++ us) (by rw [List.length_append, hnl, hml]) hge hcc.size hcc.at_ hcc.rep.len hcc.rep.rep ⟨w.heap.size, rfl, by simp [Ghost.withTail]⟩
        split at hr
        · -- the capacity is the length
          simp only [Option.some.injEq, Prod.mk.injEq] at hr
          obtain ⟨hr1, hr2⟩ := hr
          subst hr1 hr2
          have hcn : cap = n := ho
          refine grown h.length _ (fun k o ek => ?_) (fun k ek => by simp at ek; omega) (fun q _ => (hi.dom _ (Nat.le_refl _)).2 q) n (by omega) ?_
          · rcases get_append_one ek with ⟨hlt, ek'⟩ | ⟨rfl, rfl⟩
            · exact .inr ⟨by omega, ek'⟩
            · exact .inl ⟨rfl, by rw [hnl, hml]⟩
          · cases A with
            | none =>
              have hxs : xs = [] := Classical.byContradiction fun hx => by
                obtain ⟨b, o, hab, _⟩ := ha hx
                cases hab
              have hn0 : n = 0 := by rw [hnl, hxs]; rfl
              have hvs : vs = [] := List.eq_nil_of_length_eq_zero (by rw [hvl, hxs]; simp)
              subst hn0 hvs hcn
              have hrun := run_append_nil (P := E.P) w t ty e i z htu hn hz ⟨yb, yo, none⟩ m cap' us (by rw [hul, hml]) hur hm1 (by omega) (by have := hby; simp only [Nat.zero_add] at this; omega)
              simpa using hrun
            | some a =>
              subst hcn
              exact run_append_grow (P := E.P) w t ty e i z htu hn hz a cap cap vs (by rw [hvl, ← hnl]) (hcx'.read hi) ⟨yb, yo, none⟩ m cap' us (by rw [hul, hml]) hur (by omega) (by omega) (growslice_fits (by omega) hby)
        · -- a list of the call's own
          rename_i id
          split at hr
          · rename_i nt szt hobj
            split at hr
            · rename_i hnn
              obtain ⟨hnn, hss⟩ := hnn
              subst hss
              simp only [Option.some.injEq, Prod.mk.injEq] at hr
              obtain ⟨hr1, hr2⟩ := hr
              subst hr1 hr2
              obtain ⟨b, hA, htl⟩ := ho
              subst hA
              obtain ⟨b', capt, cur, tt, k1, k2, k3, k4, k5, k6⟩ := hi.obj id _ hobj
              have hntn : nt = n := by omega
              subst hntn
              rw [htl] at k1
              simp only [Option.some.injEq, Prod.mk.injEq] at k1
              obtain ⟨rfl, rfl, hszz⟩ := k1
              subst hszz
              by_cases hroom : nt + m ≤ cap
              · have hfit : nt * i.size + us.length ≤ cur.size := by rw [hul, k3, ← hml, ← Nat.add_mul]; exact Nat.mul_le_mul_right _ hroom
                have hrun := append_room_run (P := E.P) w t ty e i htu hn b nt cap cur tt k2 ⟨yb, yo, none⟩ m cap' us (by rw [hul, hml]) hur (fun u hu => hone u (by simp [hu])) hroom hfit
                let G2 : Ghost := { fix := fun b2 q => if b2 = b ∧ nt * i.size ≤ q then us[q - nt * i.size]? else G.fix b2 q, blk := G.blk, tl := fun i2 q => if i2 = id ∧ q = nt + m then some (b, cap, i.size) else G.tl i2 q }
                have hle : G.le G2 := by
                  refine ⟨fun b2 o v ev => ?_, fun _ _ ev => ev, fun i2 q xq ev => ?_⟩
                  · have : ¬ (b2 = b ∧ nt * i.size ≤ o) := fun hx => by
                      obtain ⟨rfl, hx2⟩ := hx
                      rw [k5 o hx2] at ev; cases ev
                    simpa [G2, this] using ev
                  · have : ¬ (i2 = id ∧ q = nt + m) := fun hx => by
                      obtain ⟨rfl, rfl⟩ := hx
                      rw [k6 (nt + m) (by omega)] at ev; cases ev
                    simpa [G2, this] using ev
                have hnewcell : ∀ q v, G2.fix b q = some v → (cur.toList.take (nt * i.size) ++ us ++ cur.toList.drop (nt * i.size + us.length))[q]? = some v := by
                  intro q v ev
                  by_cases hq : nt * i.size ≤ q
                  · simp [G2, hq] at ev
                    have hlt := (List.getElem?_eq_some_iff.1 ev).1
                    rw [List.append_assoc, List.getElem?_append_right (by simp; omega)]
                    rw [show (List.take (nt * i.size) cur.toList).length = nt * i.size by simp; omega]
                    rw [List.getElem?_append_left hlt]
                    exact ev
                  · simp [G2, hq] at ev
                    have hcl := hi.fix b q v ev
                    simp [World.cell?, k2] at hcl
                    rw [List.append_assoc, List.getElem?_append_left (by simp; omega), List.getElem?_take, if_pos (by omega)]
                    simpa using hcl
                have hp : Post E G h w G2 (h.set id (.tail (xs.length + ys.length) i.size)) (w.setRow b (cur.toList.take (nt * i.size) ++ us ++ cur.toList.drop (nt * i.size + us.length)).toArray) := by
                  refine post_write hi hobj (b := b) ⟨cap, htl⟩ G2 _ hle rfl (fun i2 hne q => by simp [G2, hne]) (fun b2 hne q => by simp [G2, hne]) (fun q v ev => ?_) (fun q v ev => ?_) (fun k hk => setRow_ne w b k _ hk) (setRow_size w b _) rfl rfl rfl
                    (fun q hq => ?_) (fun b2 hw => ?_) ?_
                  · simp [World.cell?, setRow_same w b cur _ tt k2]
                    simpa using hnewcell q v ev
                  · by_cases hq : nt * i.size ≤ q
                    · simp [G2, hq] at ev
                      exact hone v (by simp [List.mem_of_getElem? ev])
                    · simp [G2, hq] at ev
                      exact hi.one b q v ev
                  · have := (List.getElem?_eq_some_iff.1 hobj).1
                    omega
                  · obtain ⟨cap2, e2⟩ := hw
                    simp [G2, hnl, hml] at e2
                    exact e2.1.symm
                  · refine ⟨b, cap, _, tt, by simp [G2, hnl, hml], setRow_same w b cur _ tt k2, ?_, by omega, fun q hq => ?_, fun q hq => ?_⟩
                    · simp only [List.size_toArray]
                      rw [cellsSet_length cur.toList _ us (by simpa using hfit)]
                      simpa using k3
                    · have hqq : nt * i.size ≤ q := by
                        refine Nat.le_trans (Nat.mul_le_mul_right _ ?_) hq
                        omega
                      simp [G2, hqq]
                      rw [hul, ← hml]
                      rw [← hnl, ← hml, Nat.add_mul] at hq
                      omega
                    · have : ¬ (q = nt + m) := by omega
                      simp [G2, this]
                      exact k6 q (by omega)
                refine ⟨_, _, G2, hrun, hp, ?_⟩
                have hcc := Cells.append hle hcx' hcy' (b := b) (fun j v ej => by
                  by_cases hj : nt * i.size ≤ j
                  · rw [List.getElem?_append_right (by rw [hvl, ← hnl]; exact hj), hvl, ← hnl] at ej
                    simpa [G2, hj] using ej
                  · rw [List.getElem?_append_left (by rw [hvl, ← hnl]; omega)] at ej
                    have hne : xs ≠ [] := fun hx => by
                      rw [hx] at hvl; simp at hvl; rw [hvl] at ej; simp at ej
                    obtain ⟨b2, o2, hb2, hf2⟩ := ha hne
                    injection hb2 with hb2
                    injection hb2 with hb3 hb4
                    subst hb3 hb4
                    have := hf2 j v ej
                    simp only [Nat.zero_add] at this
                    simpa [G2, hj] using this)
                exact .list i.size (vs ++ us) (by rw [List.length_append, hnl, hml]) hroom hcc.size hcc.at_ hcc.rep.len hcc.rep.rep ⟨b, rfl, by simp [G2]⟩
              · refine grown id _ (fun k o ek => ?_) (fun k ek => ?_) (fun q hq => k6 q (by omega)) cap (by omega) ?_
                · rcases get_set ek with ⟨hne, ek'⟩ | ⟨rfl, rfl, _⟩
                  · exact .inr ⟨hne, ek'⟩
                  · exact .inl ⟨rfl, by rw [hnl, hml]⟩
                · rw [List.length_set] at ek
                  have := (List.getElem?_eq_some_iff.1 hobj).1
                  exact ⟨ek, by omega⟩
                · exact run_append_grow (P := E.P) w t ty e i z htu hn hz ⟨b, 0, none⟩ nt cap vs (by rw [hvl, ← hnl]) (hcx'.read hi) ⟨yb, yo, none⟩ m cap' us (by rw [hul, hml]) hur (by omega) (by omega) (growslice_fits (by omega) hby)
            · cases hr
          · cases hr
        · cases hr
      · cases hr
  · cases hr

end Go.Abs
