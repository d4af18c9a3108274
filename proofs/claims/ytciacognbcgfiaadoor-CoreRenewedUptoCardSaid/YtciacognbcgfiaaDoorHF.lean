/-
  PARTS OF A PROOF, joined: an abstract machine for quiet code, its evaluation, and what the seat's functions answer on it. Conditions: none.
-/
import Derived.Test.YtciacognbcgfiaaDoorHD
/-
  Identifiers given anew: what it computes, and one row of identifiers on the machine. Conditions: none.
-/
set_option linter.unusedVariables false
set_option linter.unusedSimpArgs false
set_option maxRecDepth 100000
set_option maxHeartbeats 4000000
namespace Go.Abs
/-- The names so far, and the next number. -/
abbrev RS := IM Int × Int
def frL (l : List Int) (s : RS) : RS := l.foldl (fun s v => (putK v s.2 s.1, s.2 + 1)) s
def seqI (a : Int) (n : Nat) : List Int := (List.range n).map fun i : Nat => a + (i : Int)
def frA : List CAlt → RS → List CAlt × RS
  | [], s => ([], s)
  | a :: as, s => (⟨a.tag, seqI s.2 a.binds.length⟩ :: (frA as (frL a.binds s)).1, (frA as (frL a.binds s)).2)
def renN (op n : Int) (m : IM Int) : Int := match findK n m with | some x => if op = 0 then x else n | none => n
def renBs (op : Int) (binds : List Int) (s : RS) : List Int := if op = 9 then binds else seqI s.2 binds.length
def renBS (op : Int) (binds : List Int) (s : RS) : RS := if op = 9 then s else frL binds s
mutual
def renF : CTree → RS → CTree × RS
  | .mk op n binds kids alts, s => (.mk op (renN op n s.1) (renBs op binds s) (renKs kids (frA alts (renBS op binds s)).2).1 (frA alts (renBS op binds s)).1, (renKs kids (frA alts (renBS op binds s)).2).2)
def renKs : List CTree → RS → List CTree × RS
  | [], s => ([], s)
  | k :: ks, s => ((renF k s).1 :: (renKs ks (renF k s).2).1, (renKs ks (renF k s).2).2)
end
theorem frL_nil (s : RS) : frL [] s = s := rfl
theorem frL_cons (v : Int) (l : List Int) (s : RS) : frL (v :: l) s = frL l (putK v s.2 s.1, s.2 + 1) := rfl
theorem frL_append (l l' : List Int) (s : RS) : frL (l ++ l') s = frL l' (frL l s) := List.foldl_append
theorem frL_next (l : List Int) : ∀ s : RS, (frL l s).2 = s.2 + l.length := by
  induction l with
  | nil => intro s; simp [frL]
  | cons v l ih => intro s; rw [frL_cons, ih]; simp; omega
theorem seqI_len (a : Int) (n : Nat) : (seqI a n).length = n := by simp [seqI]
theorem seqI_succ (a : Int) (n : Nat) : seqI a (n + 1) = seqI a n ++ [a + n] := by unfold seqI; rw [List.range_succ, List.map_append]; rfl
theorem frA_len (s : RS) (as : List CAlt) : (frA as s).1.length = as.length := by
  induction as generalizing s with
  | nil => rfl
  | cons a as ih => rw [frA]; simp [ih]
theorem frA_append (as bs : List CAlt) : ∀ s : RS, frA (as ++ bs) s = ((frA as s).1 ++ (frA bs (frA as s).2).1, (frA bs (frA as s).2).2) := by
  induction as with
  | nil => intro s; rfl
  | cons a as ih => intro s; rw [List.cons_append, frA, frA, ih]; rfl
theorem renKs_append (ks ls : List CTree) : ∀ s : RS, renKs (ks ++ ls) s = ((renKs ks s).1 ++ (renKs ls (renKs ks s).2).1, (renKs ls (renKs ks s).2).2) := by
  induction ks with
  | nil => intro s; simp [renKs]
  | cons k ks ih => intro s; rw [List.cons_append, renKs, renKs, ih]; rfl
theorem renKs_len (ks : List CTree) : ∀ s : RS, (renKs ks s).1.length = ks.length := by
  induction ks with
  | nil => intro s; simp [renKs]
  | cons k ks ih => intro s; rw [renKs]; simp [ih]
section
variable {L : Lib}
theorem ren208 (hL : Plain L) (h208 : L.fns 208 = some fn208) (l : List Int) (hl : l.length < 2 ^ 30) (m : IM Int) (a : Int) (ha : 0 ≤ a) (hb : a + l.length < 2 ^ 50) (H : Heap) (v : AVal) (f : List Nat) (hv : HInts H l v f) (pf pm r : Nat)
    (hf : H[pf]? = some (.box [.int .i64 a])) (hm : H[pm]? = some (.box [.map (some r)])) (hr : H[r]? = some (.map (encB m))) (hpf : pf ∉ f) (hpm : pm ∉ f) (hrf : r ∉ f) (hfm : pf ≠ pm) (hfr : pf ≠ r) (hmr : pm ≠ r) :
    ∃ H', call L 208 [v, nptr pf, nptr pm] H = some (.val (.tuple []), H') ∧ H'[pf]? = some (.box [.int .i64 (frL l (m, a)).2]) ∧ H'[r]? = some (.map (encB (frL l (m, a)).1)) ∧ HInts H' (seqI a l.length) v f ∧ H'.length = H.length ∧ ∀ q, q ≠ pf → q ≠ r → q ∉ f → H'[q]? = H[q]? := by
  have hs := hL.summ 208 (by rw [h208]; simp)
  rcases hv with ⟨rfl, rfl, rfl⟩ | ⟨hne, id, rfl, hid, rfl⟩
  · refine ⟨H, ?_, by rw [frL_nil]; exact hf, hr, .inl ⟨rfl, rfl, rfl⟩, rfl, fun _ _ _ _ => rfl⟩
    refine call_of hs h208 ?_
    have hloop : loopF L.pure (call L) H.length [1000000, 0, 1, 2, 6, 7] [1000000] 0 fn208_l0 ⟨kt [0, 1, 2, 6, 7] [.list [] none, nptr pf, nptr pm, .int .i64 0, .int .i64 0], H⟩ = some (.normal, ⟨kt [] [], H⟩) := by
      refine loopF_exit ?_
      unfold fn208_l0
      simp -implicitDefEqProofs only [code_ops, code_seq, code_cond, code_exit, ops_cons, ops_nil, aOp, opd, upd_at, kt_cons, stepVal, aBin, aInt, isShift, gcE, gc_mk, isTrim_cons, List.map_nil, List.drop_succ_cons, List.drop_nil, ↓reduceIte, Bool.false_eq_true, decide_true, decide_false, reduceCtorEq, Nat.reduceEqDiff, Int.reduceLT, roundF_eq]
    unfold nptr at *
    unfold fn208
    simp -implicitDefEqProofs only [code_ops, code_seq, ops_cons, ops_nil, aOp, opd, upd_at, initTm_at, stepVal, aLen, endFn, aResults, tupled, code_loopF, gc_mk, isTrim_cons, Option.getD_some, List.map_cons, List.map_nil, List.length_nil, List.getElem?_cons_zero, List.getElem?_cons_succ, List.drop_succ_cons, List.drop_zero, ↓reduceIte, decide_true, reduceCtorEq, Nat.reduceEqDiff, Int.cast_ofNat_Int, hloop]
  · have hfi : pf ≠ id := fun e => hpf (by simp [e])
    have hmi : pm ≠ id := fun e => hpm (by simp [e])
    have hri : r ≠ id := fun e => hrf (by simp [e])
    have hlf := hlt hf
    have hlr := hlt hr
    have hli := hlt hid
    have hmf' : pm ≠ pf := fun e => hfm e.symm
    have hrf' : r ≠ pf := fun e => hfr e.symm
    have hrm' : r ≠ pm := fun e => hmr e.symm
    have hif' : id ≠ pf := fun e => hfi e.symm
    have him' : id ≠ pm := fun e => hmi e.symm
    have hir' : id ≠ r := fun e => hri e.symm
    obtain ⟨T, ht, H', rfl, g1, g2, g3, g4, g5⟩ := loopF_pred (pure := L.pure) (call := call L) (b := H.length) (keep := [1000000, 0, 1, 2, 6, 7]) (fk := [1000000]) (id := 0) (body := fn208_l0)
      (fun j s => ∃ H', s = ⟨kt [0, 1, 2, 6, 7] [.vec id l.length, nptr pf, nptr pm, .int .i64 l.length, .int .i64 j], H'⟩ ∧ H'[pf]? = some (.box [.int .i64 (a + j)]) ∧ H'[r]? = some (.map (encB (frL (l.take j) (m, a)).1)) ∧
        H'[id]? = some (.vec ((seqI a j ++ l.drop j).map encI) 1) ∧ H'.length = H.length ∧ ∀ q, q ≠ pf → q ≠ r → q ≠ id → H'[q]? = H[q]?) l.length
      (fun T => ∃ H', T = ⟨kt [] [], H'⟩ ∧ H'[pf]? = some (.box [.int .i64 (a + l.length)]) ∧ H'[r]? = some (.map (encB (frL l (m, a)).1)) ∧
        H'[id]? = some (.vec ((seqI a l.length).map encI) 1) ∧ H'.length = H.length ∧ ∀ q, q ≠ pf → q ≠ r → q ≠ id → H'[q]? = H[q]?)
      (s0 := ⟨kt [0, 1, 2, 6, 7] [.vec id l.length, nptr pf, nptr pm, .int .i64 l.length, .int .i64 0], H⟩)
      (by
        intro j s hj hs
        obtain ⟨H', rfl, g1, g2, g3, g4, g5⟩ := hs
        have gm : H'[pm]? = some (.box [.map (some r)]) := by rw [g5 pm hmf' hmr hmi]; exact hm
        obtain ⟨h1, h2, _⟩ := round_c encI l hl j hj
        have h3 : ((seqI a j ++ l.drop j).map encI)[j]? = some (encI l[j]) := by
          rw [List.getElem?_map, List.getElem?_append_right (by rw [seqI_len]; omega), seqI_len, Nat.sub_self, List.drop_eq_getElem_cons hj]
          rfl
        have hcl : ((seqI a j ++ l.drop j).map encI).length = l.length := by simp [seqI_len]; omega
        have hput : ((seqI a j ++ l.drop j).map encI).take j ++ encI (a + j) :: ((seqI a j ++ l.drop j).map encI).drop (j + 1) = (seqI a (j + 1) ++ l.drop (j + 1)).map encI := by
          rw [seqI_succ, ← List.map_take, ← List.map_drop, List.take_append_of_le_length (by rw [seqI_len]; omega), List.take_of_length_le (by rw [seqI_len]; omega), List.drop_append, List.drop_of_length_le (by rw [seqI_len]; omega), seqI_len, List.drop_drop]
          have : j + (j + 1 - j) = j + 1 := by omega
          simp [this]
        have hw : IntKind.i64.wrap (a + j + 1) = a + ((j + 1 : Nat) : Int) := by rw [wrap64 (by omega) (by omega)]; omega
        have hup := fun (h : Heap) (hr : h[r]? = some (.map (encB (frL (l.take j) (m, a)).1))) => updI h r l[j] (a + j) _ hr
        have hfr' : frL (l.take (j + 1)) (m, a) = (putK l[j] (a + j) (frL (l.take j) (m, a)).1, a + ((j + 1 : Nat) : Int)) := by
          rw [List.take_succ_eq_append_getElem hj, frL_append]
          have := frL_next (l.take j) (m, a)
          rw [List.length_take, Nat.min_eq_left (by omega)] at this
          rw [frL_cons, frL_nil, this]
          simp
          omega
        rw [hfr']
        generalize (frL (l.take j) (m, a)).1 = m1 at *
        generalize hcs : (seqI a j ++ l.drop j).map encI = cs at *
        have hjl : j + 1 ≤ l.length := by omega
        obtain ⟨rr, hr0⟩ : ∃ rr, roundF L.pure (call L) H.length [1000000, 0, 1, 2, 6, 7] [1000000] fn208_l0 ⟨kt [0, 1, 2, 6, 7] [.vec id l.length, nptr pf, nptr pm, .int .i64 l.length, .int .i64 j], H'⟩ = rr := ⟨_, rfl⟩
        have hrr := hr0
        rw [encI_eq] at hput h3
        have k1 := hlt g1
        have k2 := hlt g2
        have k3 := hlt g3
        unfold nptr at hrr
        unfold fn208_l0 at hrr
        simp -implicitDefEqProofs only [code_skip, code_ops, code_draw, code_seq, code_cond, code_block, ops_cons, ops_nil, aOp, opd, upd_at, upd_none, kt_cons, stepVal, stepHeap, aBin, aInt, aIndexList, isShift, aWanted, aLoad1, aStore, leaf, acells_int, cellsSet, gc_mk, isTrim_cons, draw_eq, opsH_nil, opsH_cons, isLoud, List.map_cons, List.map_nil, List.length_cons, List.length_nil, List.cons_append, List.nil_append, List.append_nil, List.append_assoc, List.getElem?_cons_zero, List.take_zero, List.drop_succ_cons, List.drop_zero, List.drop_nil, List.all_cons, List.all_nil, ↓reduceIte, Bool.and_true, Bool.false_eq_true, not_false_eq_true, decide_true, and_self, Nat.le_refl, reduceCtorEq, Nat.zero_add, Nat.reduceEqDiff, Int.toNat_natCast, Int.natCast_nonneg, ne_eq, roundF_eq, checksP_nil, drawTo_if, List.map_append, Nat.mul_one, h1, h2, h3, hup, hcl, hjl, hput, g1, g2, g3, gm, hgs, hgn, k1, k2, k3, hfm, hfr, hmr, hfi, hmi, hri, hmf', hrf', hrm', hif', him', hir', hw] at hrr
        subst hrr
        refine ⟨_, hr0, _, rfl, hgs (by simpa using k1), ?_, ?_, by simpa using g4, fun q q1 q2 q3 => ?_⟩
        · rw [hgn hfr, hgn hir', hgs k2]
        · rw [hgn hfi, hgs (by simpa using k3), List.map_append]
        · rw [hgn (fun e => q1 e.symm), hgn (fun e => q3 e.symm), hgn (fun e => q2 e.symm)]
          exact g5 q q1 q2 q3)
      (by
        intro s hs
        obtain ⟨H', rfl, g1, g2, g3, g4, g5⟩ := hs
        have h0 := append_c l.length
        refine ⟨⟨kt [] [], H'⟩, ?_, H', rfl, g1, by rw [List.take_length] at g2; exact g2, by rw [List.drop_length, List.append_nil] at g3; exact g3, g4, g5⟩
        unfold fn208_l0
        simp -implicitDefEqProofs only [code_ops, code_seq, code_cond, code_exit, ops_cons, ops_nil, aOp, opd, upd_at, kt_cons, stepVal, aBin, aInt, isShift, gcE, gc_mk, isTrim_cons, List.map_nil, List.drop_succ_cons, List.drop_nil, ↓reduceIte, Bool.false_eq_true, decide_true, decide_false, reduceCtorEq, Nat.reduceEqDiff, roundF_eq, h0])
      ⟨H, rfl, by simpa using hf, hr, by simpa [seqI] using hid, rfl, fun _ _ _ _ => rfl⟩
    refine ⟨H', ?_, by rw [frL_next]; exact g1, g2, .inr ⟨by intro e; have := congrArg List.length e; rw [seqI_len] at this; exact hne (List.length_eq_zero_iff.1 this), id, by rw [seqI_len], g3, rfl⟩, g4, fun q h1 h2 h3 => g5 q h1 h2 (fun e => h3 (by simp [e]))⟩
    refine call_of hs h208 ?_
    unfold nptr at *
    unfold fn208
    simp -implicitDefEqProofs only [code_ops, code_seq, ops_cons, ops_nil, aOp, opd, upd_at, initTm_at, stepVal, aLen, endFn, aResults, tupled, code_loopF, gc_mk, isTrim_cons, Option.getD_some, List.map_cons, List.map_nil, List.getElem?_cons_zero, List.getElem?_cons_succ, List.drop_succ_cons, List.drop_zero, ↓reduceIte, decide_true, reduceCtorEq, Nat.reduceEqDiff, ht]
end
end Go.Abs
/-
  Identifiers given anew on the machine: alternatives, kids, trees. Conditions: none.
-/
set_option linter.unusedVariables false
set_option linter.unusedSimpArgs false
set_option maxRecDepth 100000
set_option maxHeartbeats 4000000
namespace Go.Abs
def HKids (H : Heap) : List CTree → List Nat → List (List Nat) → Prop
  | [], ps, fs => ps = [] ∧ fs = []
  | t :: ts, ps, fs => ∃ p f ps' fs', ps = p :: ps' ∧ fs = f :: fs' ∧ HT H t p f ∧ HKids H ts ps' fs'
theorem hkids_of {H : Heap} : ∀ {ts : List CTree} {ps : List Nat} {fs : List (List Nat)} (h1 : ps.length = ts.length) (h2 : fs.length = ts.length), (∀ (i : Nat) (hi : i < ts.length), HT H ts[i] (ps[i]'(by omega)) (fs[i]'(by omega))) → HKids H ts ps fs
  | [], ps, fs, h1, h2, h => ⟨List.length_eq_zero_iff.1 h1, List.length_eq_zero_iff.1 h2⟩
  | t :: ts, [], fs, h1, h2, h => by simp at h1
  | t :: ts, p :: ps, [], h1, h2, h => by simp at h2
  | t :: ts, p :: ps, f :: fs, h1, h2, h => ⟨p, f, ps, fs, rfl, rfl, h 0 (by simp), hkids_of (by simpa using h1) (by simpa using h2) fun i hi => h (i + 1) (by simp; omega)⟩
theorem hkids_to {H : Heap} : ∀ {ts : List CTree} {ps : List Nat} {fs : List (List Nat)}, HKids H ts ps fs → ∃ (h1 : ps.length = ts.length) (h2 : fs.length = ts.length), ∀ (i : Nat) (hi : i < ts.length), HT H ts[i] (ps[i]'(by omega)) (fs[i]'(by omega))
  | [], ps, fs, h => by
    obtain ⟨rfl, rfl⟩ := h
    exact ⟨rfl, rfl, fun i hi => absurd hi (by simp)⟩
  | t :: ts, ps, fs, ⟨p, f, ps', fs', e1, e2, h3, h4⟩ => by
    subst e1
    subst e2
    obtain ⟨h5, h6, h7⟩ := hkids_to h4
    refine ⟨by simp [h5], by simp [h6], fun i hi => ?_⟩
    cases i with
    | zero => exact h3
    | succ i => exact h7 i (by simpa using hi)
theorem HKids.frame {H H' : Heap} : ∀ {ts : List CTree} {ps : List Nat} {fs : List (List Nat)}, HKids H ts ps fs → (∀ q ∈ fs.flatten, H'[q]? = H[q]?) → HKids H' ts ps fs
  | [], ps, fs, h, _ => h
  | t :: ts, ps, fs, ⟨p, f, ps', fs', e1, e2, h3, h4⟩, he => ⟨p, f, ps', fs', e1, e2, h3.frame fun q hq => he q (by rw [e2]; simp [hq]), h4.frame fun q hq => he q (by
      rw [e2, List.flatten_cons]
      exact List.mem_append.2 (.inr hq))⟩
theorem HKids.snoc {H : Heap} {t : CTree} {p : Nat} {f : List Nat} (ht : HT H t p f) : ∀ {ts : List CTree} {ps : List Nat} {fs : List (List Nat)}, HKids H ts ps fs → HKids H (ts ++ [t]) (ps ++ [p]) (fs ++ [f])
  | [], ps, fs, h => by
    obtain ⟨rfl, rfl⟩ := h
    exact ⟨p, f, [], [], rfl, rfl, ht, rfl, rfl⟩
  | t' :: ts, ps, fs, ⟨p', f', ps', fs', e1, e2, h3, h4⟩ => ⟨p', f', _, _, by rw [e1]; rfl, by rw [e2]; rfl, h3, h4.snoc ht⟩
theorem HKids.len {H : Heap} : ∀ {ts : List CTree} {ps : List Nat} {fs : List (List Nat)}, HKids H ts ps fs → ps.length = ts.length
  | [], ps, fs, h => by obtain ⟨rfl, _⟩ := h; rfl
  | t :: ts, ps, fs, ⟨p, f, ps', fs', e1, e2, h3, h4⟩ => by rw [e1]; simp [h4.len]
/-- What the walk captures. -/
structure RE (H : Heap) (pm pf pw r : Nat) (s : RS) : Prop where
  m : H[pm]? = some (.box [.map (some r)])
  f : H[pf]? = some (.box [.int .i64 s.2])
  w : H[pw]? = some (.box [.func 207 [] [nptr pm, nptr pf, nptr pw]])
  r : H[r]? = some (.map (encB s.1))
theorem RE.ne {H : Heap} {pm pf pw r : Nat} {s : RS} (h : RE H pm pf pw r s) : pf ≠ pm ∧ pf ≠ r ∧ pm ≠ r ∧ pw ≠ pf ∧ pw ≠ r := by
  have h1 := h.m
  have h2 := h.f
  have h3 := h.w
  have h4 := h.r
  refine ⟨?_, ?_, ?_, ?_, ?_⟩ <;> rintro rfl
  · rw [h1] at h2; cases h2
  · rw [h4] at h2; cases h2
  · rw [h1] at h4; cases h4
  · rw [h3] at h2; cases h2
  · rw [h3] at h4; cases h4
theorem RE.frame {H H' : Heap} {pm pf pw r : Nat} {s s' : RS} (h : RE H pm pf pw r s) (hf : H'[pf]? = some (.box [.int .i64 s'.2])) (hr : H'[r]? = some (.map (encB s'.1))) (he : ∀ q, q ≠ pf → q ≠ r → (q = pm ∨ q = pw) → H'[q]? = H[q]?) : RE H' pm pf pw r s' := by
  obtain ⟨a, b, c, d, e⟩ := h.ne
  exact ⟨by rw [he pm (fun x => a x.symm) c (.inl rfl)]; exact h.m, hf, by rw [he pw d e (.inr rfl)]; exact h.w, hr⟩
section
variable {L : Lib}
theorem ren_l0 (hL : Plain L) (h208 : L.fns 208 = some fn208) {b : Nat} (alts : List CAlt) (ha : alts.length < 2 ^ 30) (hab : ∀ a ∈ alts, a.binds.length < 2 ^ 30) (s : RS) (hs0 : 0 ≤ s.2) (hs1 : (frA alts s).2.2 < 2 ^ 50) (H : Heap) (p pm pf pw r : Nat) (hE : RE H pm pf pw r s)
    (c1 c2 c3 c4 : AVal) (avs : List AVal) (oa : Option (Option Nat)) (fa : List Nat) (hn : H[p]? = some (.box [c1, c2, c3, c4, .list avs oa])) (hA : HAlts H alts avs fa) (hnd : fa.Nodup) (hpa : p ∉ fa) (hp1 : p ≠ pf) (hp2 : p ≠ r) (h1 : pm ∉ fa) (h2 : pf ∉ fa) (h3 : pw ∉ fa) (h4 : r ∉ fa) :
    ∃ T, loopF L.pure (call L) b [1000000, 0, 3, 7, 48, 49] [1000000, 0, 3] 0 fn207_l0 ⟨kt [0, 3, 7, 48, 49] [nptr p, nptr pw, .func 208 [] [nptr pf, nptr pm], .int .i64 alts.length, .int .i64 0], H⟩ = some (.normal, T) ∧
      ∃ H', T = ⟨kt [0, 3] [nptr p, nptr pw], H'⟩ ∧ RE H' pm pf pw r (frA alts s).2 ∧ HAlts H' (frA alts s).1 avs fa ∧ H'.length = H.length ∧ ∀ q, q ≠ pf → q ≠ r → q ∉ fa → H'[q]? = H[q]? := by
  have hmono : ∀ as : List CAlt, ∀ s : RS, s.2 ≤ (frA as s).2.2 := by
    intro as
    induction as with
    | nil => intro s; exact Int.le_refl _
    | cons a as ih =>
      intro s
      rw [frA]
      have := ih (frL a.binds s)
      rw [frL_next] at this
      show s.2 ≤ (frA as (frL a.binds s)).2.2
      omega
  refine loopF_pred (pure := L.pure) (call := call L) (b := b) (id := 0) (body := fn207_l0)
    (fun j st => ∃ H' av1 av2 f1 f2, st = ⟨kt [0, 3, 7, 48, 49] [nptr p, nptr pw, .func 208 [] [nptr pf, nptr pm], .int .i64 alts.length, .int .i64 j], H'⟩ ∧ RE H' pm pf pw r (frA (alts.take j) s).2 ∧ avs = av1 ++ av2 ∧ fa = f1 ++ f2 ∧
      HAlts H' (frA (alts.take j) s).1 av1 f1 ∧ HAlts H' (alts.drop j) av2 f2 ∧ H'.length = H.length ∧ ∀ q, q ≠ pf → q ≠ r → q ∉ fa → H'[q]? = H[q]?) alts.length _ ?_ ?_ ?_
  · intro j st hj hst
    obtain ⟨H', av1, av2, f1, f2, rfl, g1, g2, g3, g4, g5, g6, g7⟩ := hst
    obtain ⟨w1, w2, _⟩ := round_c encAlt alts ha j hj
    have htake : alts.take (j + 1) = alts.take j ++ [alts[j]] := List.take_succ_eq_append_getElem hj
    rw [List.drop_eq_getElem_cons hj] at g5
    have hb := hab alts[j] (List.getElem_mem hj)
    have hl1 := g4.len
    rw [frA_len, List.length_take, Nat.min_eq_left (by omega)] at hl1
    have hbound : (frA (alts.take j) s).2.2 + alts[j].binds.length < 2 ^ 50 := by
      have hx := hmono (alts.drop (j + 1)) (frA (alts.take (j + 1)) s).2
      have e1 : (frA (alts.take (j + 1) ++ alts.drop (j + 1)) s).2 = (frA (alts.drop (j + 1)) (frA (alts.take (j + 1)) s).2).2 := by rw [frA_append]
      rw [List.take_append_drop] at e1
      rw [← e1] at hx
      rw [htake, frA_append] at hx
      dsimp only at hx
      have hy : ((frA [alts[j]] (frA (alts.take j) s).2).2).2 = (frA (alts.take j) s).2.2 + alts[j].binds.length := by
        rw [frA]
        show (frL alts[j].binds _).2 = _
        rw [frL_next]
      omega
    have hlow : 0 ≤ (frA (alts.take j) s).2.2 := by have := hmono (alts.take j) s; omega
    have hfr : frA (alts.take (j + 1)) s = ((frA (alts.take j) s).1 ++ [⟨alts[j].tag, seqI (frA (alts.take j) s).2.2 alts[j].binds.length⟩], frL alts[j].binds (frA (alts.take j) s).2) := by
      rw [htake, frA_append]
      rfl
    rw [hfr]
    generalize alts[j] = a at *
    generalize frA (alts.take j) s = rs at *
    obtain ⟨bv, fb, av2', f2', e1, e2, k3, k4⟩ := g5
    subst e1
    subst e2
    have hnode : H'[p]? = some (.box [c1, c2, c3, c4, .list avs oa]) := by rw [g7 p hp1 hp2 hpa]; exact hn
    have hget : avs[j]? = some (.agg [.int .i64 a.tag, bv]) := by rw [g2, List.getElem?_append_right (by omega), hl1, Nat.sub_self]; rfl
    have hfbm : ∀ q ∈ fb, q ∈ fa := fun q hq => by rw [g3]; simp [hq]
    obtain ⟨n1, n2, n3, n4, n5⟩ := g1.ne
    obtain ⟨H2, q1, q2, q3, q4, q5, q6⟩ := ren208 hL h208 a.binds hb rs.2.1 rs.2.2 hlow hbound H' bv fb k3 pf pm r g1.f g1.m g1.r (fun h => h2 (hfbm _ h)) (fun h => h1 (hfbm _ h)) (fun h => h4 (hfbm _ h)) n1 n2 n3
    have hnd' := hnd
    rw [g3, List.nodup_append] at hnd'
    obtain ⟨d1, d2, d3⟩ := hnd'
    rw [List.nodup_append] at d2
    obtain ⟨d4, d5, d6⟩ := d2
    obtain ⟨rr, hr0⟩ : ∃ rr, roundF L.pure (call L) b [1000000, 0, 3, 7, 48, 49] [1000000, 0, 3] fn207_l0 ⟨kt [0, 3, 7, 48, 49] [nptr p, nptr pw, .func 208 [] [nptr pf, nptr pm], .int .i64 alts.length, .int .i64 j], H'⟩ = rr := ⟨_, rfl⟩
    have hrr := hr0
    unfold nptr at hrr q1
    unfold fn207_l0 at hrr
    simp -implicitDefEqProofs only [code_skip, code_ops, code_seq, code_cond, code_block, ops_cons, ops_nil, aOp, opd, upd_at, kt_cons, stepVal, aBin, aInt, aIndexList, isShift, aLoad1, aField, acells_agg, gc_mk, isTrim_cons, List.map_cons, List.map_nil, List.length_cons, List.length_nil, List.cons_append, List.nil_append, List.getElem?_cons_zero, List.getElem?_cons_succ, List.drop_succ_cons, List.drop_zero, ↓reduceIte, Bool.false_eq_true, decide_true, reduceCtorEq, Nat.zero_add, Nat.reduceEqDiff, Nat.reduceAdd, Int.toNat_natCast, Int.natCast_nonneg, roundF_eq, w1, w2, hnode, hget, q1] at hrr
    subst hrr
    refine ⟨_, hr0, H2, av1 ++ [.agg [.int .i64 a.tag, bv]], av2', f1 ++ fb, f2', rfl, ?_, by rw [g2]; simp, by rw [g3]; simp, ?_, ?_, by omega, ?_⟩
    · refine g1.frame q2 q3 fun q x1 x2 x3 => q6 q x1 x2 fun hm => ?_
      rcases x3 with rfl | rfl
      · exact h1 (hfbm _ hm)
      · exact h3 (hfbm _ hm)
    · refine (g4.frame fun q hq => q6 q (fun e => h2 (by rw [g3, ← e]; simp [hq])) (fun e => h4 (by rw [g3, ← e]; simp [hq])) fun hm => d3 q hq q (by simp [hm]) rfl).snoc ?_
      exact q4
    · refine k4.frame fun q hq => q6 q (fun e => h2 (by rw [g3, ← e]; simp [hq])) (fun e => h4 (by rw [g3, ← e]; simp [hq])) fun hm => d6 q hm q hq rfl
    · intro q x1 x2 x3
      rw [q6 q x1 x2 (fun hm => x3 (hfbm _ hm)), g7 q x1 x2 x3]
  · intro st hst
    obtain ⟨H', av1, av2, f1, f2, rfl, g1, g2, g3, g4, g5, g6, g7⟩ := hst
    have h0 := append_c alts.length
    rw [List.drop_length] at g5
    obtain ⟨e1, e2⟩ := g5
    subst e1
    subst e2
    rw [List.append_nil] at g2 g3
    subst g2
    subst g3
    rw [List.take_length] at g1 g4
    refine ⟨_, ?_, H', rfl, g1, g4, g6, g7⟩
    unfold fn207_l0
    simp -implicitDefEqProofs only [code_ops, code_seq, code_cond, code_exit, ops_cons, ops_nil, aOp, opd, upd_at, kt_cons, stepVal, aBin, aInt, isShift, gcE, gc_mk, isTrim_cons, List.map_cons, List.map_nil, List.drop_succ_cons, List.drop_zero, ↓reduceIte, Bool.false_eq_true, decide_true, decide_false, reduceCtorEq, Nat.reduceEqDiff, roundF_eq, h0]
  · exact ⟨H, [], avs, [], fa, rfl, hE, rfl, rfl, ⟨rfl, rfl⟩, hA, rfl, fun _ _ _ _ => rfl⟩
end
end Go.Abs
