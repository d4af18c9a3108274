/-
  Identifiers given anew on the machine: a tree. Conditions: none.
-/
import Derived.Test.YtciacognbcgfiaaDoorHF
set_option linter.unusedVariables false
set_option linter.unusedSimpArgs false
set_option maxRecDepth 100000
set_option maxHeartbeats 4000000
namespace Go.Abs
theorem frA_mono : ∀ (as : List CAlt) (s : RS), s.2 ≤ (frA as s).2.2 := by
  intro as
  induction as with
  | nil => intro s; exact Int.le_refl _
  | cons a as ih =>
    intro s
    rw [frA]
    have := ih (frL a.binds s)
    rw [frL_next] at this
    show s.2 ≤ (frA as (frL a.binds s)).2.2
    omega
theorem renBS_mono (op : Int) (binds : List Int) (s : RS) : s.2 ≤ (renBS op binds s).2 := by
  unfold renBS
  split
  · exact Int.le_refl _
  · rw [frL_next]; omega
theorem renKs_mono (ks : List CTree) (h : ∀ k ∈ ks, ∀ s : RS, s.2 ≤ (renF k s).2.2) : ∀ s : RS, s.2 ≤ (renKs ks s).2.2 := by
  induction ks with
  | nil => intro s; rw [renKs]; exact Int.le_refl _
  | cons k ks ih =>
    intro s
    rw [renKs]
    have h1 := h k (by simp) s
    have h2 := ih (fun q hq => h q (by simp [hq])) (renF k s).2
    show s.2 ≤ (renKs ks (renF k s).2).2.2
    omega
theorem renF_mono (t : CTree) : ∀ s : RS, s.2 ≤ (renF t s).2.2 := by
  induction t using CTree.ind with
  | h op n binds kids alts ih =>
    intro s
    rw [renF]
    have h1 := renBS_mono op binds s
    have h2 := frA_mono alts (renBS op binds s)
    have h3 := renKs_mono kids ih (frA alts (renBS op binds s)).2
    dsimp only
    omega
def TreeRen (L : Lib) (t : CTree) : Prop := ∀ (H : Heap) (p : Nat) (fp : List Nat) (s : RS) (pm pf pw r : Nat), HT H t p fp → fp.Nodup → RE H pm pf pw r s → pm ∉ fp → pf ∉ fp → pw ∉ fp → r ∉ fp → 0 ≤ s.2 → (renF t s).2.2 < 2 ^ 50 →
  ∃ H', call L 207 [nptr p, nptr pm, nptr pf, nptr pw] H = some (.val (.tuple []), H') ∧ RE H' pm pf pw r (renF t s).2 ∧ HT H' (renF t s).1 p fp ∧ H'.length = H.length ∧ ∀ q, q ≠ pf → q ≠ r → q ∉ fp → H'[q]? = H[q]?
section
variable {L : Lib}
theorem ren_l1 {b : Nat} (kids : List CTree) (hk : kids.length < 2 ^ 30) (ih : ∀ k ∈ kids, TreeRen L k) (s : RS) (hs0 : 0 ≤ s.2) (hs1 : (renKs kids s).2.2 < 2 ^ 50) (H : Heap) (pm pf pw r : Nat) (hE : RE H pm pf pw r s)
    (ps : List Nat) (ow : Option (Option Nat)) (fks : List (List Nat)) (hA : HKids H kids ps fks) (hnd : fks.flatten.Nodup) (h1 : pm ∉ fks.flatten) (h2 : pf ∉ fks.flatten) (h3 : pw ∉ fks.flatten) (h4 : r ∉ fks.flatten) :
    ∃ T, loopF L.pure (call L) b [1000000, 3, 66, 67, 68] [1000000] 2 fn207_l1 ⟨kt [3, 66, 67, 68] [nptr pw, .list (ps.map nptr) ow, .int .i64 kids.length, .int .i64 0], H⟩ = some (.normal, T) ∧
      ∃ H', T = ⟨kt [] [], H'⟩ ∧ RE H' pm pf pw r (renKs kids s).2 ∧ HKids H' (renKs kids s).1 ps fks ∧ H'.length = H.length ∧ ∀ q, q ≠ pf → q ≠ r → q ∉ fks.flatten → H'[q]? = H[q]? := by
  have hmono := fun (ks : List CTree) (s : RS) => renKs_mono ks (fun k _ => renF_mono k) s
  refine loopF_pred (pure := L.pure) (call := call L) (b := b) (id := 2) (body := fn207_l1)
    (fun j st => ∃ H' ps1 ps2 f1 f2, st = ⟨kt [3, 66, 67, 68] [nptr pw, .list (ps.map nptr) ow, .int .i64 kids.length, .int .i64 j], H'⟩ ∧ RE H' pm pf pw r (renKs (kids.take j) s).2 ∧ ps = ps1 ++ ps2 ∧ fks = f1 ++ f2 ∧
      HKids H' (renKs (kids.take j) s).1 ps1 f1 ∧ HKids H' (kids.drop j) ps2 f2 ∧ H'.length = H.length ∧ ∀ q, q ≠ pf → q ≠ r → q ∉ fks.flatten → H'[q]? = H[q]?) kids.length _ ?_ ?_ ?_
  · intro j st hj hst
    obtain ⟨H', ps1, ps2, f1, f2, rfl, g1, g2, g3, g4, g5, g6, g7⟩ := hst
    obtain ⟨w1, w2, _⟩ := round_c encTree kids hk j hj
    have htake : kids.take (j + 1) = kids.take j ++ [kids[j]] := List.take_succ_eq_append_getElem hj
    rw [List.drop_eq_getElem_cons hj] at g5
    have hih := ih kids[j] (List.getElem_mem hj)
    have hl1 := g4.len
    rw [renKs_len, List.length_take, Nat.min_eq_left (by omega)] at hl1
    have hfr : renKs (kids.take (j + 1)) s = ((renKs (kids.take j) s).1 ++ [(renF kids[j] (renKs (kids.take j) s).2).1], (renF kids[j] (renKs (kids.take j) s).2).2) := by
      rw [htake, renKs_append, renKs, renKs]
    have hbound : (renF kids[j] (renKs (kids.take j) s).2).2.2 < 2 ^ 50 := by
      have hx := hmono (kids.drop (j + 1)) (renKs (kids.take (j + 1)) s).2
      have e1 : (renKs (kids.take (j + 1) ++ kids.drop (j + 1)) s).2 = (renKs (kids.drop (j + 1)) (renKs (kids.take (j + 1)) s).2).2 := by rw [renKs_append]
      rw [List.take_append_drop] at e1
      rw [← e1, hfr] at hx
      dsimp only at hx
      omega
    have hlow : 0 ≤ (renKs (kids.take j) s).2.2 := by have := hmono (kids.take j) s; omega
    rw [hfr]
    generalize kids[j] = t at *
    generalize renKs (kids.take j) s = rs at *
    obtain ⟨p, f, ps2', f2', e1, e2, k3, k4⟩ := g5
    subst e1
    subst e2
    have hget : (ps.map nptr)[j]? = some (nptr p) := by rw [g2, List.getElem?_map, List.getElem?_append_right (by omega), hl1, Nat.sub_self]; rfl
    have hfbm : ∀ q ∈ f, q ∈ fks.flatten := fun q hq => by rw [g3]; simp [hq]
    have hfl : fks.flatten = f1.flatten ++ (f ++ f2'.flatten) := by rw [g3, List.flatten_append, List.flatten_cons]
    have hnd' := hnd
    rw [hfl, List.nodup_append] at hnd'
    obtain ⟨d1, d2, d3⟩ := hnd'
    rw [List.nodup_append] at d2
    obtain ⟨d4, d5, d6⟩ := d2
    obtain ⟨H2, q1, q2, q3, q4, q5⟩ := hih H' p f rs.2 pm pf pw r k3 d4 g1 (fun h => h1 (hfbm _ h)) (fun h => h2 (hfbm _ h)) (fun h => h3 (hfbm _ h)) (fun h => h4 (hfbm _ h)) hlow hbound
    have gw := g1.w
    obtain ⟨rr, hr0⟩ : ∃ rr, roundF L.pure (call L) b [1000000, 3, 66, 67, 68] [1000000] fn207_l1 ⟨kt [3, 66, 67, 68] [nptr pw, .list (ps.map nptr) ow, .int .i64 kids.length, .int .i64 j], H'⟩ = rr := ⟨_, rfl⟩
    have hrr := hr0
    generalize ps.map nptr = PS at *
    unfold nptr at hrr q1 gw hget
    unfold fn207_l1 at hrr
    simp -implicitDefEqProofs only [code_skip, code_ops, code_seq, code_cond, code_block, ops_cons, ops_nil, aOp, opd, upd_at, kt_cons, stepVal, aBin, aInt, aIndexList, isShift, aLoad1, acells_ptr, gc_mk, isTrim_cons, List.map_cons, List.map_nil, List.length_cons, List.length_nil, List.cons_append, List.nil_append, List.getElem?_cons_zero, List.drop_succ_cons, List.drop_zero, ↓reduceIte, Bool.false_eq_true, decide_true, Nat.zero_add, Nat.reduceEqDiff, Int.toNat_natCast, Int.natCast_nonneg, roundF_eq, w1, w2, hget, gw, q1] at hrr
    subst hrr
    refine ⟨_, hr0, H2, ps1 ++ [p], ps2', f1 ++ [f], f2', rfl, q2, by rw [g2]; simp, by rw [g3]; simp, ?_, ?_, by omega, ?_⟩
    · refine (g4.frame fun q hq => q5 q (fun e => h2 (by rw [hfl, ← e]; simp [hq])) (fun e => h4 (by rw [hfl, ← e]; simp [hq])) fun hm => d3 q hq q (by simp [hm]) rfl).snoc q3
    · refine k4.frame fun q hq => q5 q (fun e => h2 (by rw [hfl, ← e]; simp [hq])) (fun e => h4 (by rw [hfl, ← e]; simp [hq])) fun hm => d6 q hm q hq rfl
    · intro q x1 x2 x3
      rw [q5 q x1 x2 (fun hm => x3 (hfbm _ hm)), g7 q x1 x2 x3]
  · intro st hst
    obtain ⟨H', ps1, ps2, f1, f2, rfl, g1, g2, g3, g4, g5, g6, g7⟩ := hst
    have h0 := append_c kids.length
    rw [List.drop_length] at g5
    obtain ⟨e1, e2⟩ := g5
    subst e1
    subst e2
    rw [List.append_nil] at g2 g3
    subst g2
    subst g3
    rw [List.take_length] at g1 g4
    refine ⟨_, ?_, H', rfl, g1, g4, g6, g7⟩
    unfold fn207_l1
    simp -implicitDefEqProofs only [code_ops, code_seq, code_cond, code_exit, ops_cons, ops_nil, aOp, opd, upd_at, kt_cons, stepVal, aBin, aInt, isShift, gcE, gc_mk, isTrim_cons, List.map_nil, List.drop_succ_cons, List.drop_nil, ↓reduceIte, Bool.false_eq_true, decide_true, decide_false, Nat.reduceEqDiff, roundF_eq, h0]
  · exact ⟨H, [], ps, [], fks, rfl, by rw [List.take_zero, renKs]; exact hE, rfl, rfl, by rw [List.take_zero, renKs]; exact ⟨rfl, rfl⟩, hA, rfl, fun _ _ _ _ => rfl⟩
theorem ren_ok (hL : Plain L) (h207 : L.fns 207 = some fn207) (h208 : L.fns 208 = some fn208) (t : CTree) (hf : TFit t) : TreeRen L t := by
  have hs := hL.summ 207 (by rw [h207]; simp)
  induction t using CTree.ind with
  | h op n binds kids alts ih =>
    intro H p fp s pm pf pw r hT hnd hE h1 h2 h3 h4 hs0 hs1
    cases hf with
    | mk _ _ _ _ _ hb hk ha hfk =>
    have ih' : ∀ k ∈ kids, TreeRen L k := fun k hk => ih k hk (hfk k hk)
    clear ih
    have hbl : binds.length < 2 ^ 30 := by have := hb; simp at this; omega
    have hab : ∀ a ∈ alts, a.binds.length < 2 ^ 30 := fun a ha => by
      have := flat_len alts ha
      simp at hb
      have h3 : (alts.flatMap (·.binds)).length = (alts.map fun a => a.binds.length).sum := List.length_flatMap
      omega
    cases hT with
    | mk _ _ _ _ _ _ bv fb ps ow fks avs oa fa hbox hbi hal hl1 hl2 hks =>
    have hK := hkids_of hl1 hl2 hks
    clear hks
    obtain ⟨n1, n2, n3, n4, n5⟩ := hE.ne
    rw [renF] at hs1 ⊢
    dsimp only at hs1 ⊢
    have m1 := renBS_mono op binds s
    have m2 := frA_mono alts (renBS op binds s)
    have m3 := renKs_mono kids (fun k _ => renF_mono k) (frA alts (renBS op binds s)).2
    have hpm : pm ≠ p := fun e => h1 (by simp [e])
    have hpf : pf ≠ p := fun e => h2 (by simp [e])
    have hpw : pw ≠ p := fun e => h3 (by simp [e])
    have hpr : r ≠ p := fun e => h4 (by simp [e])
    have hnd' := hnd
    rw [List.nodup_cons, List.nodup_append] at hnd'
    obtain ⟨d0, d1, d2, d3⟩ := hnd'
    rw [List.nodup_append] at d2
    obtain ⟨d4, d5, d6⟩ := d2
    have sb : ∀ q ∈ fb, q ∈ p :: (fb ++ (fa ++ fks.flatten)) := fun q hq => by simp [hq]
    have sa : ∀ q ∈ fa, q ∈ p :: (fb ++ (fa ++ fks.flatten)) := fun q hq => by simp [hq]
    have sk : ∀ q ∈ fks.flatten, q ∈ p :: (fb ++ (fa ++ fks.flatten)) := fun q hq => List.mem_cons_of_mem _ (List.mem_append.2 (.inr (List.mem_append.2 (.inr hq))))
    have pb : p ∉ fb := fun hm => d0 (by simp [hm])
    have pa : p ∉ fa := fun hm => d0 (by simp [hm])
    have pk : p ∉ fks.flatten := fun hm => d0 (List.mem_append.2 (.inr (List.mem_append.2 (.inr hm))))
    have rest : ∀ (H1 : Heap) (n' : Int), H1[p]? = some (.box [.int .i64 op, .int .i64 n', bv, .list (ps.map nptr) ow, .list avs oa]) → H1.length = H.length → (∀ q, q ≠ p → H1[q]? = H[q]?) → ∃ H2 H3 H4,
        (op ≠ 9 → call L 208 [bv, nptr pf, nptr pm] H1 = some (.val (.tuple []), H2)) ∧ (op = 9 → H2 = H1) ∧ H2[p]? = some (.box [.int .i64 op, .int .i64 n', bv, .list (ps.map nptr) ow, .list avs oa]) ∧
        loopF L.pure (call L) H2.length [1000000, 0, 3, 7, 48, 49] [1000000, 0, 3] 0 fn207_l0 ⟨kt [0, 3, 7, 48, 49] [nptr p, nptr pw, .func 208 [] [nptr pf, nptr pm], .int .i64 alts.length, .int .i64 0], H2⟩ = some (.normal, ⟨kt [0, 3] [nptr p, nptr pw], H3⟩) ∧ H3[p]? = some (.box [.int .i64 op, .int .i64 n', bv, .list (ps.map nptr) ow, .list avs oa]) ∧
        loopF L.pure (call L) H3.length [1000000, 3, 66, 67, 68] [1000000] 2 fn207_l1 ⟨kt [3, 66, 67, 68] [nptr pw, .list (ps.map nptr) ow, .int .i64 kids.length, .int .i64 0], H3⟩ = some (.normal, ⟨kt [] [], H4⟩) ∧ RE H4 pm pf pw r (renKs kids (frA alts (renBS op binds s)).2).2 ∧
        HT H4 (.mk op n' (renBs op binds s) (renKs kids (frA alts (renBS op binds s)).2).1 (frA alts (renBS op binds s)).1) p (p :: (fb ++ (fa ++ fks.flatten))) ∧ H4.length = H.length ∧
        ∀ q, q ≠ pf → q ≠ r → q ∉ p :: (fb ++ (fa ++ fks.flatten)) → H4[q]? = H[q]? := by
      intro H1 n' hb1 hlen1 hk1
      have hE1 : RE H1 pm pf pw r s := ⟨by rw [hk1 pm hpm]; exact hE.m, by rw [hk1 pf hpf]; exact hE.f, by rw [hk1 pw hpw]; exact hE.w, by rw [hk1 r hpr]; exact hE.r⟩
      have hbi1 := hbi.frame (H' := H1) fun q hq => hk1 q fun e => pb (e ▸ hq)
      have hal1 := hal.frame (H' := H1) fun q hq => hk1 q fun e => pa (e ▸ hq)
      have hK1 := hK.frame (H' := H1) fun q hq => hk1 q fun e => pk (e ▸ hq)
      have two : ∃ H2, (op ≠ 9 → call L 208 [bv, nptr pf, nptr pm] H1 = some (.val (.tuple []), H2)) ∧ (op = 9 → H2 = H1) ∧ RE H2 pm pf pw r (renBS op binds s) ∧ HInts H2 (renBs op binds s) bv fb ∧ H2.length = H1.length ∧ ∀ q, q ≠ pf → q ≠ r → q ∉ fb → H2[q]? = H1[q]? := by
        by_cases h9 : op = 9
        · refine ⟨H1, fun h => absurd h9 h, fun _ => rfl, ?_, ?_, rfl, fun _ _ _ _ => rfl⟩
          · rw [renBS, if_pos h9]; exact hE1
          · rw [renBs, if_pos h9]; exact hbi1
        · rw [renBS, if_neg h9] at m1 m2 m3 hs1 ⊢
          rw [renBs, if_neg h9]
          have hn := frL_next binds s
          obtain ⟨H2, q1, q2, q3, q4, q5, q6⟩ := ren208 hL h208 binds hbl s.1 s.2 hs0 (by omega) H1 bv fb hbi1 pf pm r hE1.f hE1.m hE1.r (fun h => h2 (sb _ h)) (fun h => h1 (sb _ h)) (fun h => h4 (sb _ h)) n1 n2 n3
          refine ⟨H2, fun _ => q1, fun h => absurd h h9, ?_, q4, q5, q6⟩
          refine hE1.frame q2 q3 fun q x1 x2 x3 => q6 q x1 x2 fun hm => ?_
          rcases x3 with rfl | rfl
          · exact h1 (sb _ hm)
          · exact h3 (sb _ hm)
      obtain ⟨H2, t1, t2, t3, t4, t5, t6⟩ := two
      have hb2 : H2[p]? = some (.box [.int .i64 op, .int .i64 n', bv, .list (ps.map nptr) ow, .list avs oa]) := by rw [t6 p (fun e => hpf e.symm) (fun e => hpr e.symm) pb]; exact hb1
      have hal2 := hal1.frame (H' := H2) fun q hq => t6 q (fun e => h2 (e ▸ sa _ hq)) (fun e => h4 (e ▸ sa _ hq)) fun hm => d3 q hm q (by simp [hq]) rfl
      have hK2 := hK1.frame (H' := H2) fun q hq => t6 q (fun e => h2 (e ▸ sk _ hq)) (fun e => h4 (e ▸ sk _ hq)) fun hm => d3 q hm q (List.mem_append.2 (.inr hq)) rfl
      obtain ⟨T, u1, H3, rfl, u2, u3, u4, u5⟩ := ren_l0 hL h208 (b := H2.length) alts ha hab (renBS op binds s) (by omega) (by omega) H2 p pm pf pw r t3 _ _ _ _ avs oa fa hb2 hal2 d4 pa (fun e => hpf e.symm) (fun e => hpr e.symm) (fun h => h1 (sa _ h)) (fun h => h2 (sa _ h)) (fun h => h3 (sa _ h)) (fun h => h4 (sa _ h))
      have hb3 : H3[p]? = some (.box [.int .i64 op, .int .i64 n', bv, .list (ps.map nptr) ow, .list avs oa]) := by rw [u5 p (fun e => hpf e.symm) (fun e => hpr e.symm) pa]; exact hb2
      have hK3 := hK2.frame (H' := H3) fun q hq => u5 q (fun e => h2 (e ▸ sk _ hq)) (fun e => h4 (e ▸ sk _ hq)) fun hm => d6 q hm q hq rfl
      have hbi3 := t4.frame (H' := H3) fun q hq => u5 q (fun e => h2 (e ▸ sb _ hq)) (fun e => h4 (e ▸ sb _ hq)) fun hm => d3 q hq q (by simp [hm]) rfl
      obtain ⟨T, v1, H4, rfl, v2, v3, v4, v5⟩ := ren_l1 (L := L) (b := H3.length) kids hk ih' (frA alts (renBS op binds s)).2 (by omega) hs1 H3 pm pf pw r u2 ps ow fks hK3 d5 (fun h => h1 (sk _ h)) (fun h => h2 (sk _ h)) (fun h => h3 (sk _ h)) (fun h => h4 (sk _ h))
      have hb4 : H4[p]? = some (.box [.int .i64 op, .int .i64 n', bv, .list (ps.map nptr) ow, .list avs oa]) := by rw [v5 p (fun e => hpf e.symm) (fun e => hpr e.symm) pk]; exact hb3
      have hbi4 := hbi3.frame (H' := H4) fun q hq => v5 q (fun e => h2 (e ▸ sb _ hq)) (fun e => h4 (e ▸ sb _ hq)) fun hm => d3 q hq q (List.mem_append.2 (.inr hm)) rfl
      have hal4 := u3.frame (H' := H4) fun q hq => v5 q (fun e => h2 (e ▸ sa _ hq)) (fun e => h4 (e ▸ sa _ hq)) fun hm => d6 q hq q hm rfl
      obtain ⟨x1, x2, x3⟩ := hkids_to v3
      refine ⟨H2, H3, H4, t1, t2, hb2, u1, hb3, v1, v2, .mk _ _ _ _ _ p bv fb ps ow fks avs oa fa hb4 hbi4 hal4 x1 x2 x3, by omega, fun q y1 y2 y3 => ?_⟩
      have z1 : q ≠ p := fun e => y3 (by simp [e])
      rw [v5 q y1 y2 (fun hm => y3 (sk _ hm)), u5 q y1 y2 (fun hm => y3 (sa _ hm)), t6 q y1 y2 (fun hm => y3 (sb _ hm)), hk1 q z1]
    have hmm := hE.m
    have hlk := fun (h : Heap) (hr : h[r]? = some (.map (encB s.1))) => lookK encI h r (.int .i64 0) true n s.1 hr
    have hlk := hlk H hE.r
    have hav := hal.len
    have hlp := hlt hbox
    by_cases hset : (∃ x, findK n s.1 = some x) ∧ op = 0
    · obtain ⟨⟨x, hx⟩, h0⟩ := hset
      subst h0
      rw [hx] at hlk
      dsimp only at hlk
      have hren : renN 0 n s.1 = x := by unfold renN; rw [hx]; rfl
      rw [hren]
      obtain ⟨H2, H3, H4, a1, a2, a3, a4, a5, a6, a7, a8, a9, a10⟩ := rest (H.set p (.box [.int .i64 0, .int .i64 x, bv, .list (ps.map nptr) ow, .list avs oa])) x (hgs hlp) (by simp) (fun q hq => hgn fun e => hq e.symm)
      refine ⟨H4, ?_, a7, a8, a9, a10⟩
      have a1 := a1 (by decide)
      refine call_of hs h207 ?_
      clear rest
      have hPl : (ps.map nptr).length = kids.length := by simpa using hl1
      generalize ps.map nptr = PS at *
      unfold nptr at *
      unfold fn207
      simp -implicitDefEqProofs only [code_ops, code_draw, code_seq, code_cond, ops_cons, ops_cons_g, ops_nil, aOp, opd, upd_at, upd_none, initTm_at, kt_cons, stepVal, stepHeap, aBin, aLen, aInt, isShift, aWanted, aLoad1, aStore, aField, leaf, acells_int, cellsSet, endFn, aResults, tupled, code_loopF, gc_mk, isTrim_cons, draw_eq, opsH_nil, opsH_cons, isLoud, beq_self_eq_true, Option.getD_some, List.map_cons, List.map_nil, List.length_cons, List.length_nil, List.cons_append, List.nil_append, List.getElem?_cons_zero, List.getElem?_cons_succ, List.take_succ_cons, List.take_zero, List.drop_succ_cons, List.drop_zero, List.all_cons, List.all_nil, ↓reduceIte, Bool.and_true, Bool.not_false, Bool.false_eq_true, decide_true, and_self, reduceCtorEq, Nat.add_zero, Nat.zero_add, Nat.reduceEqDiff, Nat.reduceAdd, Nat.reduceLeDiff, checksP_nil, drawTo_if, Int.reduceBEq, encI_eq, hbox, hmm, hlk, a1, a3, a4, a5, a6, hav, hPl, hgs, hlp, bne]
    · obtain ⟨H2, H3, H4, a1, a2, a3, a4, a5, a6, a7, a8, a9, a10⟩ := rest H n hbox rfl (fun _ _ => rfl)
      have hPl : (ps.map nptr).length = kids.length := by simpa using hl1
      have hren : renN op n s.1 = n := by
        unfold renN
        cases hq : findK n s.1 with
        | none => rfl
        | some x => exact if_neg fun h0 => hset ⟨⟨x, hq⟩, h0⟩
      rw [hren]
      refine ⟨H4, ?_, a7, a8, a9, a10⟩
      refine call_of hs h207 ?_
      clear rest hren
      generalize ps.map nptr = PS at *
      unfold nptr at *
      cases hq : findK n s.1 with
      | none =>
        rw [hq] at hlk
        by_cases h9 : op = 9
        · have a2 := a2 h9
          subst a2
          subst h9
          unfold fn207
          simp -implicitDefEqProofs only [code_skip, code_ops, code_draw, code_seq, code_cond, ops_cons, ops_cons_g, ops_nil, aOp, opd, upd_at, initTm_at, kt_cons, stepVal, aBin, aLen, aInt, isShift, aWanted, aLoad1, aField, endFn, aResults, tupled, code_loopF, gc_mk, isTrim_cons, draw_eq, opsH_nil, opsH_cons, isLoud, beqFT, beq_self_eq_true, Option.getD_some, List.map_cons, List.map_nil, List.nil_append, List.getElem?_cons_zero, List.getElem?_cons_succ, List.drop_succ_cons, List.drop_zero, ↓reduceIte, Bool.not_true, Bool.false_eq_true, decide_true, reduceCtorEq, Nat.add_zero, Nat.zero_add, Nat.reduceEqDiff, checksP_nil, drawTo_if, hbox, hmm, hlk, a4, a5, a6, hav, hPl, bne]
        · have a1 := a1 h9
          have h9' : (op == 9) = false := by simpa using h9
          unfold fn207
          simp -implicitDefEqProofs only [code_skip, code_ops, code_draw, code_seq, code_cond, ops_cons, ops_cons_g, ops_nil, aOp, opd, upd_at, initTm_at, kt_cons, stepVal, aBin, aLen, aInt, isShift, aWanted, aLoad1, aField, endFn, aResults, tupled, code_loopF, gc_mk, isTrim_cons, draw_eq, opsH_nil, opsH_cons, isLoud, beqFT, Option.getD_some, List.map_cons, List.map_nil, List.cons_append, List.nil_append, List.getElem?_cons_zero, List.getElem?_cons_succ, List.drop_succ_cons, List.drop_zero, ↓reduceIte, Bool.not_false, Bool.false_eq_true, decide_true, reduceCtorEq, Nat.add_zero, Nat.zero_add, Nat.reduceEqDiff, checksP_nil, drawTo_if, hbox, hmm, hlk, a1, a3, a4, a5, a6, hav, hPl, h9', bne]
      | some x =>
        rw [hq] at hlk
        have h0' : (op == 0) = false := by
          have : op ≠ 0 := fun h0 => hset ⟨⟨x, hq⟩, h0⟩
          simpa using this
        by_cases h9 : op = 9
        · have a2 := a2 h9
          subst a2
          subst h9
          unfold fn207
          simp -implicitDefEqProofs only [code_skip, code_ops, code_draw, code_seq, code_cond, ops_cons, ops_cons_g, ops_nil, aOp, opd, upd_at, initTm_at, kt_cons, stepVal, aBin, aLen, aInt, isShift, aWanted, aLoad1, aField, endFn, aResults, tupled, code_loopF, gc_mk, isTrim_cons, draw_eq, opsH_nil, opsH_cons, isLoud, beq_self_eq_true, Option.getD_some, List.map_cons, List.map_nil, List.nil_append, List.getElem?_cons_zero, List.getElem?_cons_succ, List.drop_succ_cons, List.drop_zero, ↓reduceIte, Bool.not_true, Bool.false_eq_true, decide_true, reduceCtorEq, Nat.add_zero, Nat.zero_add, Nat.reduceEqDiff, checksP_nil, drawTo_if, Int.reduceBEq, encI_eq, hbox, hmm, hlk, a4, a5, a6, hav, hPl, bne]
        · have a1 := a1 h9
          have h9' : (op == 9) = false := by simpa using h9
          unfold fn207
          simp -implicitDefEqProofs only [code_skip, code_ops, code_draw, code_seq, code_cond, ops_cons, ops_cons_g, ops_nil, aOp, opd, upd_at, initTm_at, kt_cons, stepVal, aBin, aLen, aInt, isShift, aWanted, aLoad1, aField, endFn, aResults, tupled, code_loopF, gc_mk, isTrim_cons, draw_eq, opsH_nil, opsH_cons, isLoud, beq_self_eq_true, Option.getD_some, List.map_cons, List.map_nil, List.cons_append, List.nil_append, List.getElem?_cons_zero, List.getElem?_cons_succ, List.drop_succ_cons, List.drop_zero, ↓reduceIte, Bool.not_false, Bool.false_eq_true, decide_true, reduceCtorEq, Nat.add_zero, Nat.zero_add, Nat.reduceEqDiff, checksP_nil, drawTo_if, encI_eq, hbox, hmm, hlk, a1, a3, a4, a5, a6, hav, hPl, h0', h9', bne]
end
end Go.Abs
