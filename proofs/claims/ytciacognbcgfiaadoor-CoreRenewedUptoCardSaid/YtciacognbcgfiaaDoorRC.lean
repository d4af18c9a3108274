/-
  PARTS OF A PROOF, joined: an abstract machine for quiet code, its evaluation, and what the seat's functions answer on it. Conditions: none.
-/
import Derived.Test.YtciacognbcgfiaaDoorHI
import Derived.Test.YtciacognbcgfiaaDoorCoreZ
import Derived.Test.YtciacognbcgfiaaDoorC
/-
  Identifiers given anew: the new tree passes the check. Plain. Conditions: none.
-/
set_option linter.unusedVariables false
set_option linter.unusedSimpArgs false
set_option maxRecDepth 100000
namespace Go.Abs
/-- What the shape sees of an alternative. -/
def sgA (a : CAlt) : Int × Nat := (a.tag, a.binds.length)
def altBad' (op : Int) (as : List (Int × Nat)) (i : Nat) (a : Int × Nat) : Bool :=
  (as.take i).any (fun b => b.1 == a.1) || decide (a.1 < -1) || (op == 7 && a.1 == -1 && (decide ((i : Int) < as.length - 1) || decide ((0 : Int) < a.2))) ||
  (op == 13 && (((i : Int) == 0) != (a.1 == -1))) || (op == 13 && ((a.2 : Int) != min ((i : Int) + 1) 2))
theorem altBad_sg (op : Int) (as : List CAlt) (i : Nat) (a : CAlt) : altBad op as i a = altBad' op (as.map sgA) i (sgA a) := by
  unfold altBad altBad' sgA
  rw [← List.map_take, List.any_map, List.length_map]
  rfl
theorem findFrom_map {α β γ : Type} (g : α → β) (f : Nat → β → Option γ) : ∀ (l : List α) (k : Nat), findFrom (fun i a => f i (g a)) l k = findFrom f (l.map g) k
  | [], k => rfl
  | x :: l, k => by
    rw [findFrom, List.map_cons, findFrom, findFrom_map g f l]
theorem altsOk_sg {op : Int} {as cs : List CAlt} (h : as.map sgA = cs.map sgA) (kl : Nat) : altsOk op as kl = altsOk op cs kl := by
  have hl : as.length = cs.length := by have := congrArg List.length h; simpa using this
  unfold altsOk
  rw [hl]
  have e : ∀ xs : List CAlt, findFrom (fun i a => if altBad op xs i a = true then some () else none) xs 0 = findFrom (fun i p => if altBad' op (xs.map sgA) i p = true then some () else none) (xs.map sgA) 0 := by
    intro xs
    rw [← findFrom_map sgA]
    congr 1
    funext i a
    rw [altBad_sg]
  rw [e, e, h]
theorem fieldsMax_sg {as cs : List CAlt} (h : as.map sgA = cs.map sgA) (b : Int) : fieldsMax b as = fieldsMax b cs := by
  have e : ∀ (xs : List CAlt) (b : Int), fieldsMax b xs = (xs.map sgA).foldl (fun m p => max m (p.2 : Int)) b := by
    intro xs b
    unfold fieldsMax
    rw [List.foldl_map]
    rfl
  rw [e, e, h]
theorem frA_sg (as : List CAlt) : ∀ s : RS, (frA as s).1.map sgA = as.map sgA := by
  induction as with
  | nil => intro s; rfl
  | cons a as ih =>
    intro s
    rw [frA, List.map_cons, List.map_cons, ih]
    unfold sgA
    rw [seqI_len]
/-- What follows for a node. -/
theorem shape_bg {op n : Int} {binds : List Int} {kl : Nat} {as : List CAlt} (h : shapeOk op n binds.length kl as = true) : BG op binds ∧ (op = 0 → kl = 0 ∧ as = []) := by
  unfold shapeOk at h
  split at h
  · rename_i ho
    simp only [Bool.and_eq_true, beq_iff_eq] at h
    refine ⟨fun _ _ => List.length_eq_zero_iff.1 (by omega), fun h0 => ?_⟩
    subst h0
    exact absurd ho (by decide)
  · split at h
    · cases h
    · rename_i r hr
      unfold shapeEnd at h
      simp only [Bool.and_eq_true, beq_iff_eq] at h
      obtain ⟨⟨⟨a1, a2⟩, a3⟩, _⟩ := h
      refine ⟨fun h9 hob => List.length_eq_zero_iff.1 ?_, fun h0 => ?_⟩
      · unfold opBinds at hob
        simp only [Bool.or_eq_false_iff, beq_eq_false_iff_ne] at hob
        obtain ⟨⟨o1, o2⟩, o3⟩ := hob
        unfold kbu at hr
        rw [if_neg o1, if_neg o2, if_neg o3, if_neg h9] at hr
        repeat' (split at hr)
        all_goals first
          | (cases hr; done)
          | (injection hr with hr; subst hr; simpa using a2)
      · subst h0
        have : kbu 0 n binds.length kl = some (0, 0, true) := rfl
        rw [this] at hr
        injection hr with hr
        subst hr
        exact ⟨by simpa using a1, List.length_eq_zero_iff.1 (by simpa using a3)⟩
theorem kbu_n {op n n' : Int} (h : op ≠ 0 → n' = n) (bl kl : Nat) : kbu op n' bl kl = kbu op n bl kl := by
  by_cases h0 : op = 0
  · subst h0; rfl
  · rw [h h0]
theorem shape_n {op n n' : Int} (h : op ≠ 0 → n' = n) {bl kl : Nat} {as cs : List CAlt} (hs : as.map sgA = cs.map sgA) (hk : shapeOk op n bl kl as = true) : shapeOk op n' bl kl cs = true := by
  have hl : as.length = cs.length := by have := congrArg List.length hs; simpa using this
  unfold shapeOk at hk ⊢
  rw [← altsOk_sg hs, kbu_n h, ← hl]
  by_cases h0 : op = 0
  · subst h0
    have : kbu 0 n bl kl = some (0, 0, true) := rfl
    rw [this] at hk ⊢
    unfold shapeEnd at hk ⊢
    simpa using hk
  · rw [h h0]
    exact hk
theorem err_ren {op n n' : Int} {binds binds' : List Int} {ko : List Int} {as cs : List CAlt} (he : errL ⟨op, n, binds, ko, as⟩ = 0) (hn : op ≠ 0 → n' = n) (hn0 : op = 0 → 0 ≤ n' ∧ n' ≤ 1048575) (hl : binds'.length = binds.length)
    (h9 : op = 9 → binds' = binds) (hb : ∀ x ∈ binds', 0 ≤ x ∧ x ≤ 1048575) (hs : as.map sgA = cs.map sgA) (hc : ∀ c ∈ cs, ∀ x ∈ c.binds, 0 ≤ x ∧ x ≤ 1048575) : errL ⟨op, n', binds', ko, cs⟩ = 0 := by
  unfold errL at he ⊢
  dsimp only at he ⊢
  split at he
  · cases he
  · rename_i h1
    have h1 : shapeOk op n binds.length ko.length as = true := by simpa using h1
    split at he
    · rename_i h2; exact absurd he h2
    · rename_i h2
      have h2 : rangesErr op n binds ko.length as = 0 := Classical.not_not.1 h2
      split at he
      · cases he
      · rename_i h3
        rw [hl, shape_n hn hs h1, if_neg (by decide), if_neg, if_neg]
        · refine fun hx => h3 ?_
          rw [find_idx] at hx ⊢
          obtain ⟨i, hi, hx⟩ := hx
          refine ⟨i, by omega, ?_⟩
          unfold nodeBad at hx ⊢
          by_cases h : op = 9
          · rw [h9 h] at hx; exact hx
          · have : (op == 9) = false := by simpa using h
            rw [this] at hx ⊢
            simpa using hx
        · refine fun hx => hx ?_
          unfold rangesErr at h2 ⊢
          split at h2
          · cases h2
          · rename_i r1
            split at h2
            · cases h2
            · split at h2
              · cases h2
              · rename_i r3
                split at h2
                · cases h2
                · rename_i r4
                  rw [if_neg, if_neg, if_neg, if_neg]
                  · rw [hl, ← fieldsMax_sg hs]; exact r4
                  · intro hx
                    rw [List.any_eq_true] at hx
                    obtain ⟨c, hcm, hx⟩ := hx
                    refine r3 ?_
                    have hmem : sgA c ∈ as.map sgA := by rw [hs]; exact List.mem_map_of_mem hcm
                    obtain ⟨a, ha, hac⟩ := List.mem_map.1 hmem
                    have ht : a.tag = c.tag := congrArg Prod.fst hac
                    refine List.any_eq_true.2 ⟨a, ha, ?_⟩
                    unfold altRange at hx ⊢
                    rw [ht]
                    have : c.binds.any idBad = false := by
                      rw [List.any_eq_false]
                      intro x hxm
                      unfold idBad
                      simpa using hc c hcm x hxm
                    rw [this, Bool.or_false] at hx
                    rw [hx, Bool.true_or]
                  · rw [Bool.not_eq_true, List.any_eq_false]
                    intro x hxm
                    unfold idBad
                    simpa using hb x hxm
                  · intro hx
                    by_cases h0 : op = 0
                    · subst h0
                      exact hx (hn0 rfl)
                    · rw [hn h0] at hx
                      exact r1 hx
end Go.Abs
/-
  Identifiers given anew: the law. Plain. Conditions: none.
-/
set_option linter.unusedVariables false
set_option linter.unusedSimpArgs false
set_option maxRecDepth 100000
namespace Go.Abs
theorem lab_err {l : Lab} (h : labErr false l = 0) : errL l = 0 := by
  unfold labErr at h
  split at h
  · cases h
  · exact h
theorem lab_shape' {l : Lab} (h : labErr false l = 0) : shapeOk l.op l.n l.binds.length l.kops.length l.alts = true ∧ rangesErr l.op l.n l.binds l.kops.length l.alts = 0 := by
  have he := lab_err h
  unfold errL at he
  split at he
  · cases he
  · rename_i h1
    split at he
    · rename_i h2; exact absurd he h2
    · rename_i h2
      exact ⟨by simpa using h1, Classical.not_not.1 h2⟩
theorem nodes_mem {k : CTree} {ks : List CTree} (h : k ∈ ks) : ∀ l ∈ nodesT k, l ∈ nodesTs ks := by
  induction ks with
  | nil => cases h
  | cons a ks ih =>
    intro l hl
    rw [nodesTs]
    rcases List.mem_cons.1 h with h | h
    · subst h; exact List.mem_append.2 (.inl hl)
    · exact List.mem_append.2 (.inr (ih h l hl))
theorem bgt_of (t : CTree) (h : ∀ l ∈ nodesT t, labErr false l = 0) : BGt t := by
  induction t using CTree.ind with
  | h op n binds kids alts ih =>
    rw [nodesT] at h
    obtain ⟨h1, _⟩ := lab_shape' (h ⟨op, n, binds, kids.map rootOp, alts⟩ (by simp))
    obtain ⟨b1, b2⟩ := shape_bg h1
    refine .mk _ _ _ _ _ b1 (fun h0 => ?_) fun k hk => ih k hk fun l hl => h l (List.mem_append.2 (.inl (nodes_mem hk l hl)))
    obtain ⟨x1, x2⟩ := b2 h0
    exact ⟨by simpa using x1, x2⟩
def NM (s : RS) : Prop := ∀ x y, findK x s.1 = some y → 0 ≤ y ∧ y < s.2
theorem NM.frL (l : List Int) : ∀ {s : RS}, NM s → 0 ≤ s.2 → NM (frL l s) := by
  induction l with
  | nil => exact fun h _ => h
  | cons v l ih =>
    intro s h h0
    rw [frL_cons]
    refine ih (fun x y hxy => ?_) (by show 0 ≤ s.2 + 1; omega)
    dsimp only at hxy ⊢
    rw [findK_put] at hxy
    split at hxy
    · injection hxy with hxy; omega
    · have := h x y hxy; omega
theorem renF_root (t : CTree) (s : RS) : rootOp (renF t s).1 = rootOp t := by cases t; rw [renF]; rfl
theorem renKs_root : ∀ (ks : List CTree) (s : RS), (renKs ks s).1.map rootOp = ks.map rootOp
  | [], s => by rw [renKs]
  | k :: ks, s => by rw [renKs, List.map_cons, List.map_cons, renF_root, renKs_root ks]
theorem labs_ren (t : CTree) : ∀ s : RS, (∀ l ∈ nodesT t, labErr false l = 0) → NM s → 0 ≤ s.2 → (renF t s).2.2 ≤ 1048576 → (∀ l ∈ nodesT (renF t s).1, labErr false l = 0) ∧ NM (renF t s).2 := by
  induction t using CTree.ind with
  | h op n binds kids alts ih =>
    intro s h hm h0 hx
    have hT := bgt_of _ h
    rw [nodesT] at h
    have hlab := h ⟨op, n, binds, kids.map rootOp, alts⟩ (by simp)
    cases hT with
    | mk _ _ _ _ _ hb hz hk =>
    have key : ∀ ks : List CTree, (∀ k ∈ ks, k ∈ kids) → ∀ s : RS, NM s → 0 ≤ s.2 → (renKs ks s).2.2 ≤ 1048576 → (∀ l ∈ nodesTs (renKs ks s).1, labErr false l = 0) ∧ NM (renKs ks s).2 := by
      intro ks
      induction ks with
      | nil => intro _ s hm _ _; rw [renKs]; exact ⟨fun l hl => (by rw [nodesTs] at hl; cases hl), hm⟩
      | cons k ks ih2 =>
        intro hks s hm h0 hx
        rw [renKs] at hx ⊢
        dsimp only at hx ⊢
        have m1 := renF_mono k s
        have m2 := renKs_mono ks (fun k _ => renF_mono k) (renF k s).2
        obtain ⟨a1, a2⟩ := ih k (hks k (by simp)) s (fun l hl => h l (List.mem_append.2 (.inl (nodes_mem (hks k (by simp)) l hl)))) hm h0 (by omega)
        obtain ⟨b1, b2⟩ := ih2 (fun q hq => hks q (by simp [hq])) (renF k s).2 a2 (by omega) hx
        refine ⟨fun l hl => ?_, b2⟩
        rw [nodesTs] at hl
        rcases List.mem_append.1 hl with hl | hl
        · exact a1 l hl
        · exact b1 l hl
    rw [renF] at hx ⊢
    dsimp only at hx ⊢
    have m1 := renBS_mono op binds s
    have m2 := frA_mono alts (renBS op binds s)
    have m3 := renKs_mono kids (fun k _ => renF_mono k) (frA alts (renBS op binds s)).2
    have hs2 : NM (frA alts (renBS op binds s)).2 := by rw [ren_state hb]; exact hm.frL _ h0
    obtain ⟨c1, c2⟩ := key kids (fun k hk => hk) _ hs2 (by omega) hx
    refine ⟨fun l hl => ?_, c2⟩
    rw [nodesT] at hl
    rcases List.mem_append.1 hl with hl | hl
    · exact c1 l hl
    · rw [List.mem_singleton.1 hl, renKs_root]
      unfold labErr at hlab ⊢
      dsimp only at hlab ⊢
      split at hlab
      · cases hlab
      · rename_i hop
        rw [if_neg hop]
        obtain ⟨_, hr⟩ := lab_shape' (h ⟨op, n, binds, kids.map rootOp, alts⟩ (by simp))
        refine err_ren hlab (fun h => ?_) (fun h => ?_) (renBs_len op binds s) (fun h => ?_) (fun x hxm => ?_) (frA_sg alts _).symm fun c hc x hxm => ?_
        · unfold renN
          cases findK n s.1 with
          | none => rfl
          | some x => exact if_neg h
        · subst h
          have hn : 0 ≤ n ∧ n ≤ 1048575 := by
            unfold rangesErr at hr
            split at hr
            · cases hr
            · rename_i hr1
              exact Classical.not_not.1 hr1
          unfold renN
          cases hq : findK n s.1 with
          | none => exact hn
          | some x =>
            have := hm n x hq
            show 0 ≤ x ∧ x ≤ 1048575
            omega
        · unfold renBs
          rw [if_pos h]
        · unfold renBs at hxm
          unfold renBS at m1 m2 m3 hx
          split at hxm
          · unfold rangesErr at hr
            split at hr
            · cases hr
            · split at hr
              · cases hr
              · rename_i hr2
                dsimp only at hr2
                rw [Bool.not_eq_true, List.any_eq_false] at hr2
                have := hr2 x hxm
                unfold idBad at this
                simpa using this
          · rename_i h9
            rw [if_neg h9, frL_next] at m2
            have := mem_seqI.1 hxm
            rw [if_neg h9] at m3 hx
            omega
        · have hmem : x ∈ (frA alts (renBS op binds s)).1.flatMap (·.binds) := List.mem_flatMap.2 ⟨c, hc, hxm⟩
          rw [frA_binds] at hmem
          have := mem_seqI.1 hmem
          have hq := frA_next alts (renBS op binds s)
          omega
theorem seqI_nodup (a : Int) (n : Nat) : (seqI a n).Nodup := by
  unfold seqI
  refine List.pairwise_map.2 (List.nodup_range.imp fun {x y} hxy e => hxy ?_)
  omega
theorem seqI_sorted (a : Int) (n : Nat) : (seqI a n).Pairwise (· ≤ ·) := by
  unfold seqI
  refine List.pairwise_map.2 (List.pairwise_lt_range.imp fun {x y} hxy => ?_)
  omega
theorem ren_tok {t : CTree} (h : TOk t) (a : Int) (ha : 0 ≤ a) (hb : (renF t ([], a)).2.2 ≤ 1048576) : TOk (renF t ([], a)).1 := by
  have hB := bgt_of t h.lab
  refine ⟨by rw [renF_size]; exact h.size, by rw [renF_hgt]; exact h.deep, (labs_ren t ([], a) h.lab (fun x y hxy => by cases hxy) ha hb).1, ?_⟩
  refine ((ren_count t hB ([], a)).2.nodup_iff).2 ?_
  exact seqI_nodup _ _
/-! ### How many identifiers -/
mutual
theorem kops_sum : ∀ t : CTree, ((nodesT t).map fun l => l.kops.length).sum + 1 = tsize t
  | .mk op n binds kids alts => by
    rw [nodesT, tsize, List.map_append, List.sum_append]
    have := kops_sums kids
    simp
    omega
theorem kops_sums : ∀ ts : List CTree, ((nodesTs ts).map fun l => l.kops.length).sum + ts.length = tsizes ts
  | [] => by rw [nodesTs, tsizes]; rfl
  | t :: ts => by
    rw [nodesTs, tsizes, List.map_append, List.sum_append, List.length_cons]
    have := kops_sum t
    have := kops_sums ts
    omega
end
theorem lab_len {l : Lab} (h : labErr false l = 0) : (labBinds l).length ≤ 16 + 16 * l.kops.length := by
  obtain ⟨h1, h2⟩ := lab_shape' h
  have hf := ranges_fields h2
  obtain ⟨f1, f2⟩ := fields_ge l.alts (l.binds.length : Int)
  have h3 := flat_bound l.alts fun a ha => by have := f2 a ha; omega
  have h4 : (labBinds l).length ≤ l.binds.length + (l.alts.flatMap (·.binds)).length := by
    have := opB_len l.op l.binds l.alts
    rw [List.length_append] at this
    exact this
  rcases shape_alts h1 with h5 | h5 <;> omega
theorem binders_max {t : CTree} (h : TOk t) : ((nodesT t).flatMap labBinds).length ≤ 131072 := by
  have h1 : ∀ ls : List Lab, (∀ l ∈ ls, labErr false l = 0) → (ls.flatMap labBinds).length ≤ 16 * ls.length + 16 * (ls.map fun l => l.kops.length).sum := by
    intro ls
    induction ls with
    | nil => intro _; simp
    | cons l ls ih =>
      intro hl
      have a1 := lab_len (hl l (by simp))
      have a2 := ih fun x hx => hl x (by simp [hx])
      rw [List.flatMap_cons, List.length_append, List.length_cons, List.map_cons, List.sum_cons]
      omega
  have h2 := h1 _ h.lab
  have h3 := kops_sum t
  have h4 := h.size
  rw [nodes_len] at h2
  omega
/-! ### The law -/
theorem renew_law {e : List CExpr} (h : checkErr e = 0) (hf : ∀ x ∈ e, NodeFit x) (a : Int) (ha : 0 ≤ a) (hb : a < 5000) :
    (renewOf e a).2 = 0 ∧ (∃ K, sortInts ((renewOf e a).1.flatMap bindersX) = seqI a K ∧ K ≤ 131072) ∧ sameOf e (renewOf e a).1 = true ∧ (renewOf e a).1 = listOf (renF (grow1 e) ([], a)).1 := by
  have hT := tok_of h
  have hB := bgt_of _ hT.lab
  obtain ⟨_, _, _, _, _, hc⟩ := check_tree h
  have hm := binders_max hT
  obtain ⟨c1, c2⟩ := ren_count _ hB ([], a)
  dsimp only at c1 c2
  have hx : (renF (grow1 e) ([], a)).2.2 ≤ 1048576 := by omega
  have hT' := ren_tok hT a ha hx
  have hc' := ren_closed hB hT.once hc a
  have hre : renewOf e a = (listOf (renF (grow1 e) ([], a)).1, 0) := by
    unfold renewOf
    rw [if_pos h, if_neg (by omega), if_neg (by omega)]
  rw [hre]
  refine ⟨rfl, ⟨_, ?_, hm⟩, ?_, rfl⟩
  · have hp := nodes_perm _ (tree_list (renF (grow1 e) ([], a)).1)
    rw [grow1_list] at hp
    refine sorted_eq (sortInts_sorted _) (seqI_sorted _ _) ((sortInts_perm _).trans ?_)
    rw [binders_lab (listOf (renF (grow1 e) ([], a)).1)]
    exact ((hp.flatMap_right labBinds).symm).trans c2
  · unfold sameOf
    rw [h, check_listOf hT', if_pos hc', grow1_list]
    have := ren_same (grow1 e) hB ([], a)
    rw [this]
    rfl
end Go.Abs
/-
  CoreRenewed on the machine. Conditions: none.
-/
set_option linter.unusedVariables false
set_option linter.unusedSimpArgs false
set_option maxRecDepth 100000
set_option maxHeartbeats 4000000
namespace Go.Abs
/-- Where a list's own end lies. -/
def OwnL (H : Heap) (n : Nat) (ow : Option (Option Nat)) : Prop := (n = 0 ∧ ow = some none) ∨ (0 < n ∧ ∃ t, ow = some (some t) ∧ H[t]? = some (.tail n 1))
section
variable {L : Lib}
theorem binds_l0 {b : Nat} (as : List CAlt) (hl : as.length < 2 ^ 30) (s0 : List Int) (ht : (s0 ++ as.flatMap (·.binds)).length ≤ 2 ^ 30) (H : Heap) (ow : Option (Option Nat)) (ho : OwnL H s0.length ow) :
    ∃ T, loopF L.pure (call L) b [1000000, 3, 24, 25, 26] [1000000, 3] 0 fm141_l0 ⟨kt [3, 24, 25, 26] [.list (s0.map encI) ow, .list (as.map encAlt) none, .int .i64 as.length, .int .i64 0], H⟩ = some (.normal, T) ∧
      ∃ H' ow', T = ⟨kt [3] [.list ((s0 ++ as.flatMap (·.binds)).map encI) ow'], H'⟩ := by
  refine loopF_pred (pure := L.pure) (call := call L) (b := b) (id := 0) (body := fm141_l0)
    (fun j st => ∃ H' ow', st = ⟨kt [3, 24, 25, 26] [.list ((s0 ++ (as.take j).flatMap (·.binds)).map encI) ow', .list (as.map encAlt) none, .int .i64 as.length, .int .i64 j], H'⟩ ∧ OwnL H' (s0 ++ (as.take j).flatMap (·.binds)).length ow') as.length _ ?_ ?_ ?_
  · intro j st hj hst
    obtain ⟨H', ow', rfl, hO⟩ := hst
    obtain ⟨h1, h2, h3⟩ := round_c encAlt as hl j hj
    have htake : (as.take (j + 1)).flatMap (·.binds) = (as.take j).flatMap (·.binds) ++ as[j].binds := by
      rw [List.take_succ_eq_append_getElem hj, List.flatMap_append, List.flatMap_cons, List.flatMap_nil, List.append_nil]
    have hlen : (s0 ++ (as.take j).flatMap (·.binds)).length + as[j].binds.length ≤ 1073741824 := by
      have h5 : as.flatMap (·.binds) = (as.take j).flatMap (·.binds) ++ (as[j].binds ++ (as.drop (j + 1)).flatMap (·.binds)) := by
        conv => lhs; rw [← List.take_append_drop j as, List.drop_eq_getElem_cons hj]
        rw [List.flatMap_append, List.flatMap_cons]
      rw [h5] at ht
      simp only [List.length_append] at ht ⊢
      omega
    rw [htake, ← List.append_assoc]
    generalize s0 ++ (as.take j).flatMap (·.binds) = s at *
    generalize as[j] = a at *
    have hs1 := all_Ints s
    have hs3 := all_Ints a.binds
    obtain ⟨rr, hr0⟩ : ∃ rr, roundF L.pure (call L) b [1000000, 3, 24, 25, 26] [1000000, 3] fm141_l0 ⟨kt [3, 24, 25, 26] [.list (s.map encI) ow', .list (as.map encAlt) none, .int .i64 as.length, .int .i64 j], H'⟩ = rr := ⟨_, rfl⟩
    have hrr := hr0
    unfold fm141_l0 at hrr
    by_cases hab : a.binds = []
    · rw [hab, List.append_nil]
      have hab' : a.binds.map encI = [] := by rw [hab]; rfl
      simp -implicitDefEqProofs only [code_skip, code_ops, code_seq, code_cond, code_block, ops_cons, ops_nil, aOp, opd, upd_at, upd_none, kt_cons, stepVal, stepHeap, aBin, aInt, aIndexList, isShift, aLoad1, aStore, readAt, aField, leaf, acells_agg, cellsSet, gc_mk, isTrim_cons, aAppend, Option.map_some, List.map_cons, List.map_nil, List.length_cons, List.length_nil, List.nil_append, List.append_nil, List.getElem?_cons_zero, List.getElem?_cons_succ, List.take_succ_cons, List.take_zero, List.drop_succ_cons, List.drop_zero, List.take_nil, List.drop_nil, List.all_cons, List.all_nil, ↓reduceIte, Bool.and_true, Bool.false_eq_true, decide_true, and_self, Nat.le_refl, Nat.zero_add, Nat.reduceEqDiff, Nat.reduceAdd, Int.toNat_natCast, Int.natCast_nonneg, roundF_eq, encAlt_eq, h1, h2, h3, hab', hgl, hsl] at hrr
      subst hrr
      refine ⟨_, hr0, _, ow', rfl, ?_⟩
      rcases hO with hO | ⟨x1, t, x2, x3⟩
      · exact .inl hO
      · exact .inr ⟨x1, t, x2, by rw [hga (hlt x3)]; exact x3⟩
    · have hab' : ((a.binds.map encI) = []) = False := by simpa using hab
      have hpos := List.length_pos_iff.2 hab
      rcases hO with ⟨x1, rfl⟩ | ⟨x1, t, rfl, x3⟩
      · have : s = [] := List.length_eq_zero_iff.1 x1
        subst this
        have hlen : a.binds.length ≤ 1073741824 := by simpa using hlen
        simp -implicitDefEqProofs only [code_skip, code_ops, code_seq, code_cond, code_block, ops_cons, ops_nil, aOp, opd, upd_at, upd_none, kt_cons, stepVal, stepHeap, aBin, aInt, aIndexList, isShift, aLoad1, aStore, readAt, aField, leaf, acells_agg, cellsSet, gc_mk, isTrim_cons, aAppend, Option.map_some, List.map_cons, List.map_nil, List.length_cons, List.length_nil, List.length_append, List.length_map, List.cons_append, List.nil_append, List.append_nil, List.append_assoc, List.getElem?_cons_zero, List.getElem?_cons_succ, List.take_succ_cons, List.take_zero, List.drop_succ_cons, List.drop_zero, List.take_nil, List.drop_nil, List.all_cons, List.all_nil, ↓reduceIte, Bool.and_true, Bool.false_eq_true, decide_true, and_self, Nat.le_refl, Nat.zero_add, Nat.reduceEqDiff, Nat.reduceAdd, Int.toNat_natCast, Int.natCast_nonneg, roundF_eq, maxLen_eq, encAlt_eq, h1, h2, h3, hab', hlen, hs3, hgl, hsl] at hrr
        subst hrr
        refine ⟨_, hr0, _, _, rfl, .inr ⟨by simpa using hpos, _, rfl, ?_⟩⟩
        simp
      · have x4 := hlt x3
        simp -implicitDefEqProofs only [code_skip, code_ops, code_seq, code_cond, code_block, ops_cons, ops_nil, aOp, opd, upd_at, upd_none, kt_cons, stepVal, stepHeap, aBin, aInt, aIndexList, isShift, aLoad1, aStore, readAt, aField, leaf, acells_agg, cellsSet, gc_mk, isTrim_cons, aAppend, Option.map_some, List.map_cons, List.map_nil, List.length_cons, List.length_nil, List.length_map, List.nil_append, List.append_nil, List.getElem?_cons_zero, List.getElem?_cons_succ, List.take_succ_cons, List.take_zero, List.drop_succ_cons, List.drop_zero, List.take_nil, List.drop_nil, List.all_cons, List.all_nil, ↓reduceIte, Bool.and_true, Bool.false_eq_true, decide_true, and_self, Nat.le_refl, Nat.zero_add, Nat.reduceEqDiff, Nat.reduceAdd, Int.toNat_natCast, Int.natCast_nonneg, roundF_eq, maxLen_eq, encAlt_eq, h1, h2, h3, hab', hlen, hs1, hs3, hgl, hsl, hsa, hga, x3, x4] at hrr
        subst hrr
        refine ⟨_, hr0, _, some (some t), by rw [List.map_append], .inr ⟨by simp; omega, t, rfl, ?_⟩⟩
        rw [hga (by simpa using x4), hgs x4, List.length_append]
  · intro st hst
    obtain ⟨H', ow', rfl, hO⟩ := hst
    have h0 := append_c as.length
    rw [List.take_length]
    refine ⟨_, ?_, H', ow', rfl⟩
    unfold fm141_l0
    simp -implicitDefEqProofs only [code_ops, code_seq, code_cond, code_exit, ops_cons, ops_nil, aOp, opd, upd_at, kt_cons, stepVal, aBin, aInt, isShift, gcE, gc_mk, isTrim_cons, List.map_cons, List.map_nil, List.drop_succ_cons, List.drop_zero, ↓reduceIte, Bool.false_eq_true, decide_true, decide_false, Nat.reduceEqDiff, roundF_eq, List.map_append, h0]
  · exact ⟨H, ow, by rw [List.take_zero, List.flatMap_nil, List.append_nil]; rfl, by rw [List.take_zero, List.flatMap_nil, List.append_nil]; exact ho⟩
theorem binds_ok (hL : Plain L) (h141 : L.fns 141 = some fm141) (x : CExpr) (hl : x.alts.length < 2 ^ 30) (ht : (x.binds ++ x.alts.flatMap (·.binds)).length ≤ 2 ^ 30) (h : Heap) :
    pcall L 141 [encExpr x] h = some (.val (.list ((bindersX x).map encI) none), h) := by
  refine pcall_fn hL h141 (by rw [isData_list_none]; exact data_Ints _) ?_ h
  rw [encExpr_eq]
  unfold bindersX bindersOf
  have hlB : (x.alts.flatMap (·.binds)).length ≤ 2 ^ 30 := by rw [List.length_append] at ht; omega
  have hall := all_Ints x.binds
  have hbl : x.binds.length ≤ 1073741824 := by rw [List.length_append] at ht; omega
  have hdI := data_Ints
  cases ho : opBinds x.op with
  | true =>
    have e : (x.op == 2) = true ∨ ((x.op == 2) = false ∧ (x.op == 4) = true) ∨ ((x.op == 2) = false ∧ (x.op == 4) = false ∧ (x.op == 5) = true) := by
      unfold opBinds at ho
      revert ho
      cases (x.op == 2) <;> cases (x.op == 4) <;> cases (x.op == 5) <;> simp
    rw [if_pos rfl]
    by_cases hb : x.binds = []
    · have hb' : x.binds.map encI = [] := by rw [hb]; rfl
      obtain ⟨T, t1, H', ow', rfl⟩ := binds_l0 (L := L) (b := 1) x.alts hl [] (by simpa using hlB) [.box [.int .i64 x.op, .int .i64 x.n, .list [] none, .list (x.kids.map encI) none, .list (x.alts.map encAlt) none]] (some none) (.inl ⟨rfl, rfl⟩)
      rw [List.nil_append, List.map_nil] at t1
      rw [hb, List.nil_append]
      generalize x.alts.flatMap (·.binds) = r at *
      rcases e with e1 | ⟨e1, e2⟩ | ⟨e1, e2, e3⟩
      · unfold fm141; simp -implicitDefEqProofs only [code_ops, code_seq, code_cond, code_ret, ops_cons, ops_cons_g, ops_nil, aOp, opd, upd_at, initTm_at, kt_cons, stepVal, aBin, aLen, aInt, isShift, aWanted, aLoad1, aField, acells_agg, endFn, aResults, aResult, tupled, code_loopF, gc_mk, isTrim_cons, aAppend, wipeR_list, beqTF, Option.getD_some, List.map_cons, List.map_nil, List.length_cons, List.length_nil, List.length_map, List.nil_append, List.getElem?_cons_zero, List.getElem?_cons_succ, List.drop_succ_cons, List.drop_zero, ↓reduceIte, Bool.false_eq_true, decide_true, Nat.add_zero, Nat.zero_add, Nat.reduceEqDiff, outOf_val, e1, hb', t1, hdI]
      · unfold fm141; simp -implicitDefEqProofs only [code_ops, code_seq, code_cond, code_ret, ops_cons, ops_cons_g, ops_nil, aOp, opd, upd_at, initTm_at, kt_cons, stepVal, aBin, aLen, aInt, isShift, aWanted, aLoad1, aField, acells_agg, endFn, aResults, aResult, tupled, code_loopF, gc_mk, isTrim_cons, aAppend, wipeR_list, beqTF, beq_self_eq_true, Option.getD_some, List.map_cons, List.map_nil, List.length_cons, List.length_nil, List.length_map, List.nil_append, List.getElem?_cons_zero, List.getElem?_cons_succ, List.drop_succ_cons, List.drop_zero, ↓reduceIte, Bool.false_eq_true, decide_true, Nat.add_zero, Nat.zero_add, Nat.reduceEqDiff, outOf_val, e1, e2, hb', t1, hdI]
      · unfold fm141; simp -implicitDefEqProofs only [code_ops, code_seq, code_cond, code_ret, ops_cons, ops_cons_g, ops_nil, aOp, opd, upd_at, initTm_at, kt_cons, stepVal, aBin, aLen, aInt, isShift, aWanted, aLoad1, aField, acells_agg, endFn, aResults, aResult, tupled, code_loopF, gc_mk, isTrim_cons, aAppend, wipeR_list, beq_self_eq_true, Option.getD_some, List.map_cons, List.map_nil, List.length_cons, List.length_nil, List.length_map, List.nil_append, List.getElem?_cons_zero, List.getElem?_cons_succ, List.drop_succ_cons, List.drop_zero, ↓reduceIte, Bool.false_eq_true, decide_true, Nat.add_zero, Nat.zero_add, Nat.reduceEqDiff, outOf_val, e1, e2, e3, hb', t1, hdI]
    · have hb' : ((x.binds.map encI) = []) = False := by simpa using hb
      have hpos := List.length_pos_iff.2 hb
      obtain ⟨T, t1, H', ow', rfl⟩ := binds_l0 (L := L) (b := 2) x.alts hl x.binds ht [.box [.int .i64 x.op, .int .i64 x.n, .list (x.binds.map encI) none, .list (x.kids.map encI) none, .list (x.alts.map encAlt) none], .tail x.binds.length 1] (some (some 1)) (.inr ⟨hpos, 1, rfl, rfl⟩)
      rw [List.map_append] at t1
      generalize x.alts.flatMap (·.binds) = r at *
      rcases e with e1 | ⟨e1, e2⟩ | ⟨e1, e2, e3⟩
      · unfold fm141; simp -implicitDefEqProofs only [code_ops, code_seq, code_cond, code_ret, ops_cons, ops_cons_g, ops_nil, aOp, opd, upd_at, initTm_at, kt_cons, stepVal, aBin, aLen, aInt, isShift, aWanted, aLoad1, aField, acells_agg, endFn, aResults, aResult, tupled, code_loopF, gc_mk, isTrim_cons, aAppend, wipeR_list, beqTF, Option.getD_some, List.map_cons, List.map_nil, List.length_cons, List.length_nil, List.length_map, List.cons_append, List.nil_append, List.getElem?_cons_zero, List.getElem?_cons_succ, List.drop_succ_cons, List.drop_zero, List.all_nil, ↓reduceIte, Bool.false_eq_true, decide_true, and_self, Nat.add_zero, Nat.zero_add, Nat.reduceEqDiff, Nat.reduceAdd, maxLen_eq, List.map_append, outOf_val, e1, hb', hall, hbl, t1, hdI]
      · unfold fm141; simp -implicitDefEqProofs only [code_ops, code_seq, code_cond, code_ret, ops_cons, ops_cons_g, ops_nil, aOp, opd, upd_at, initTm_at, kt_cons, stepVal, aBin, aLen, aInt, isShift, aWanted, aLoad1, aField, acells_agg, endFn, aResults, aResult, tupled, code_loopF, gc_mk, isTrim_cons, aAppend, wipeR_list, beqTF, beq_self_eq_true, Option.getD_some, List.map_cons, List.map_nil, List.length_cons, List.length_nil, List.length_map, List.cons_append, List.nil_append, List.getElem?_cons_zero, List.getElem?_cons_succ, List.drop_succ_cons, List.drop_zero, List.all_nil, ↓reduceIte, Bool.false_eq_true, decide_true, and_self, Nat.add_zero, Nat.zero_add, Nat.reduceEqDiff, Nat.reduceAdd, maxLen_eq, List.map_append, outOf_val, e1, e2, hb', hall, hbl, t1, hdI]
      · unfold fm141; simp -implicitDefEqProofs only [code_ops, code_seq, code_cond, code_ret, ops_cons, ops_cons_g, ops_nil, aOp, opd, upd_at, initTm_at, kt_cons, stepVal, aBin, aLen, aInt, isShift, aWanted, aLoad1, aField, acells_agg, endFn, aResults, aResult, tupled, code_loopF, gc_mk, isTrim_cons, aAppend, wipeR_list, beq_self_eq_true, Option.getD_some, List.map_cons, List.map_nil, List.length_cons, List.length_nil, List.length_map, List.cons_append, List.nil_append, List.getElem?_cons_zero, List.getElem?_cons_succ, List.drop_succ_cons, List.drop_zero, List.all_nil, ↓reduceIte, Bool.false_eq_true, decide_true, and_self, Nat.add_zero, Nat.zero_add, Nat.reduceEqDiff, Nat.reduceAdd, maxLen_eq, List.map_append, outOf_val, e1, e2, e3, hb', hall, hbl, t1, hdI]
  | false =>
    have e : (x.op == 2) = false ∧ (x.op == 4) = false ∧ (x.op == 5) = false := by
      unfold opBinds at ho
      revert ho
      cases (x.op == 2) <;> cases (x.op == 4) <;> cases (x.op == 5) <;> simp
    obtain ⟨e1, e2, e3⟩ := e
    rw [if_neg (by decide), List.nil_append]
    obtain ⟨T, t1, H', ow', rfl⟩ := binds_l0 (L := L) (b := 1) x.alts hl [] (by simpa using hlB) [.box [.int .i64 x.op, .int .i64 x.n, .list (x.binds.map encI) none, .list (x.kids.map encI) none, .list (x.alts.map encAlt) none]] (some none) (.inl ⟨rfl, rfl⟩)
    rw [List.nil_append, List.map_nil] at t1
    generalize x.alts.flatMap (·.binds) = r at *
    unfold fm141
    simp -implicitDefEqProofs only [code_skip, code_ops, code_seq, code_cond, code_ret, ops_cons, ops_cons_g, ops_nil, aOp, opd, upd_at, initTm_at, kt_cons, stepVal, aBin, aLen, aInt, isShift, aWanted, aLoad1, aField, acells_agg, endFn, aResults, aResult, tupled, code_loopF, gc_mk, isTrim_cons, wipeR_list, beq_self_eq_true, Option.getD_some, List.map_cons, List.map_nil, List.length_cons, List.length_nil, List.length_map, List.nil_append, List.getElem?_cons_zero, List.getElem?_cons_succ, List.drop_succ_cons, List.drop_zero, ↓reduceIte, Bool.false_eq_true, decide_true, Nat.add_zero, Nat.zero_add, Nat.reduceEqDiff, outOf_val, e1, e2, e3, t1, hdI]
end
end Go.Abs
/-
  CoreRenewed on the machine: the law's function. Conditions: none.
-/
set_option linter.unusedVariables false
set_option linter.unusedSimpArgs false
set_option maxRecDepth 100000
set_option maxHeartbeats 4000000
namespace Go.Abs
def v7 (s : List Int) : AVal := if s = [] then .list [] (some none) else .vec 0 s.length
def h7 (s : List Int) : Heap := if s = [] then [] else [.vec (s.map encI) 1]
theorem v7_nil : v7 [] = .list [] (some none) := rfl
theorem h7_nil : h7 [] = [] := rfl
theorem v7_ne {s : List Int} (h : s ≠ []) : v7 s = .vec 0 s.length := if_neg h
theorem h7_ne {s : List Int} (h : s ≠ []) : h7 s = [.vec (s.map encI) 1] := if_neg h
theorem ints_cells (l : List Int) : (l.map encI).flatMap acells = l.map encI := by
  induction l with
  | nil => rfl
  | cons a l ih => rw [List.map_cons, List.flatMap_cons, ih]; rfl
section
variable {L : Lib}
theorem renewed_l0 (hL : Plain L) (h141 : L.fns 141 = some fm141) (E : AVal) (hE : isData E = true) (a : Int) (f : List CExpr) (hl : f.length < 2 ^ 30) (hf : ∀ x ∈ f, NodeFit x) (hb : ∀ x ∈ f, BFit x) (ht : (f.flatMap bindersX).length ≤ 2 ^ 30) :
    loopF L.pure (call L) 0 [0, 1, 5, 7, 34, 35, 36] [0, 1, 5, 7] 0 fm124_l0 ⟨kt [0, 1, 5, 7, 34, 35, 36] [E, .int .i64 a, .list (f.map encExpr) none, .list [] (some none), .list (f.map encExpr) none, .int .i64 f.length, .int .i64 0], []⟩ =
      some (.normal, ⟨kt [0, 1, 5, 7] [E, .int .i64 a, .list (f.map encExpr) none, v7 (f.flatMap bindersX)], h7 (f.flatMap bindersX)⟩) := by
  have hp := hL.pure
  have key := loopF_fold (pure := L.pure) (call := call L) (b := 0) (keep := [0, 1, 5, 7, 34, 35, 36]) (fk := [0, 1, 5, 7]) (id := 0) (body := fm124_l0) f (fun s x => s ++ bindersX x)
    (fun s i => ⟨kt [0, 1, 5, 7, 34, 35, 36] [E, .int .i64 a, .list (f.map encExpr) none, v7 s, .list (f.map encExpr) none, .int .i64 f.length, .int .i64 i], h7 s⟩)
    (fun s => ⟨kt [0, 1, 5, 7] [E, .int .i64 a, .list (f.map encExpr) none, v7 s], h7 s⟩)
    (fun s i => s ++ (f.drop i).flatMap bindersX = f.flatMap bindersX) [] rfl ?_ ?_
  · obtain ⟨h1, h2⟩ := key
    rw [List.drop_length, List.flatMap_nil, List.append_nil] at h1
    rw [h1] at h2
    exact h2
  · intro i hi s hs
    obtain ⟨h1, h2, h3⟩ := round_c encExpr f hl i hi
    have hd : f.drop i = f[i] :: f.drop (i + 1) := List.drop_eq_getElem_cons hi
    rw [hd, List.flatMap_cons] at hs
    have hlen : s.length + (bindersX f[i]).length ≤ 1073741824 := by
      have := congrArg List.length hs
      simp only [List.length_append] at this
      omega
    refine ⟨?_, by rw [List.append_assoc]; exact hs⟩
    have hx := hf f[i] (List.getElem_mem hi)
    have hbx := hb f[i] (List.getElem_mem hi)
    have hbi := binds_ok hL h141 f[i] hx.alts (by unfold BFit at hbx; omega)
    have hdF := data_Exprs f
    clear hs hd ht
    generalize f[i] = x at *
    rw [encExpr_eq] at hbi
    generalize bindersX x = l at *
    have hs1 := all_Ints s
    have hs3 := all_Ints l
    have hc := ints_cells l
    have hi1 := ids_Ints
    have hr1 := ren_Ints
    by_cases hz : s = []
    · subst hz
      by_cases hq : l = []
      · subst hq
        simp only [List.map_nil] at hbi
        rw [List.append_nil, v7_nil, h7_nil]
        unfold fm124_l0
        simp -implicitDefEqProofs only [code_skip, code_ops, code_seq, code_cond, code_block, ops_cons, ops_nil, aOp, opd, upd_at, upd_none, kt_cons, stepVal, stepHeap, aBin, aInt, aIndexList, isShift, aStore, readAt, leaf, acells_agg, cellsSet, gc_mk, isTrim_cons, gcIds_mk, newIds_nil, gcMap_at, posOf, ren, renC, idsV, idsC, wipe_agg, wipeC_list, wipeC_int, isData_list_none, isData_list_full, isData_int, isData_agg, isDataL_nil, isDataL_cons, Option.map_some, List.map_cons, List.map_nil, List.flatMap_cons, List.flatMap_nil, List.length_cons, List.length_nil, List.nil_append, List.append_nil, List.getElem?_cons_zero, List.set_cons_zero, List.take_succ_cons, List.take_zero, List.drop_succ_cons, List.drop_zero, List.take_nil, List.drop_nil, List.all_cons, List.all_nil, ↓reduceIte, Bool.and_true, Bool.false_eq_true, decide_true, decide_false, and_self, Nat.le_refl, Nat.zero_le, reduceCtorEq, Nat.zero_add, Nat.reduceEqDiff, Nat.reduceAdd, Int.toNat_natCast, Int.natCast_nonneg, roundF_eq, kt_nil, onlyVal, encExpr_eq, data_Ints, data_Alts, h1, h2, h3, hbi, hE, hdF, aAppendV, doCall_p L hp, hp]
      · have hq' : (l.map encI = []) = False := by simpa using hq
        have hlen : l.length ≤ 1073741824 := by simpa using hlen
        rw [List.nil_append, v7_nil, h7_nil, v7_ne hq, h7_ne hq]
        unfold fm124_l0
        simp -implicitDefEqProofs only [code_skip, code_ops, code_seq, code_cond, code_block, ops_cons, ops_nil, aOp, opd, upd_at, upd_none, kt_cons, stepVal, stepHeap, aBin, aInt, aIndexList, isShift, aStore, readAt, leaf, acells_agg, cellsSet, gc_mk, isTrim_cons, gcIds_mk, newIds_nil, newIds_cons, gcMap_at, posOf, ren, renC, idsV, idsC, wipe_agg, wipeC_list, wipeC_int, isData_list_none, isData_int, isData_agg, isDataL_nil, isDataL_cons, Option.map_some, Option.getD_some, List.map_cons, List.map_nil, List.flatMap_cons, List.flatMap_nil, List.length_cons, List.length_nil, List.length_map, List.cons_append, List.nil_append, List.append_nil, List.getElem?_cons_zero, List.getElem?_cons_succ, List.set_cons_zero, List.take_succ_cons, List.take_zero, List.drop_succ_cons, List.drop_zero, List.take_nil, List.drop_nil, List.all_cons, List.all_nil, List.not_mem_nil, ↓reduceIte, Bool.and_true, Bool.false_eq_true, not_false_eq_true, decide_true, decide_false, and_self, Nat.le_refl, Nat.zero_le, reduceCtorEq, Nat.zero_add, Nat.reduceEqDiff, Nat.reduceAdd, Nat.reduceLT, Int.toNat_natCast, Int.natCast_nonneg, roundF_eq, maxLen_eq, kt_nil, onlyVal, encExpr_eq, data_Ints, data_Alts, isData_vec, renO_vec, ren_Ints, h1, h2, h3, hbi, hE, hdF, hq', hs3, hlen, hc, aAppendV, doCall_p L hp, hp, maxLen_eq]
    · by_cases hq : l = []
      · subst hq
        simp only [List.map_nil] at hbi
        rw [List.append_nil, v7_ne hz, h7_ne hz]
        unfold fm124_l0
        simp -implicitDefEqProofs only [code_skip, code_ops, code_seq, code_cond, code_block, ops_cons, ops_nil, aOp, opd, upd_at, upd_none, kt_cons, stepVal, stepHeap, aBin, aInt, aIndexList, isShift, aStore, readAt, leaf, acells_agg, cellsSet, gc_mk, isTrim_cons, gcIds_mk, newIds_nil, newIds_cons, gcMap_at, posOf, ren, renC, idsV, idsC, aAppend, wipe_agg, wipeC_list, wipeC_int, isData_list_none, isData_int, isData_agg, isDataL_nil, isDataL_cons, Option.map_some, Option.getD_some, List.map_cons, List.map_nil, List.flatMap_cons, List.flatMap_nil, List.length_cons, List.length_nil, List.cons_append, List.nil_append, List.append_nil, List.getElem?_cons_zero, List.getElem?_cons_succ, List.set_cons_zero, List.set_cons_succ, List.take_succ_cons, List.take_zero, List.drop_succ_cons, List.drop_zero, List.take_nil, List.drop_nil, List.all_cons, List.all_nil, List.not_mem_nil, ↓reduceIte, Bool.and_true, Bool.false_eq_true, not_false_eq_true, decide_true, decide_false, and_self, Nat.le_refl, Nat.zero_le, reduceCtorEq, Nat.zero_add, Nat.reduceEqDiff, Nat.reduceAdd, Nat.reduceLT, Int.toNat_natCast, Int.natCast_nonneg, roundF_eq, kt_nil, onlyVal, encExpr_eq, data_Ints, data_Alts, isData_vec, renO_vec, ren_Ints, h1, h2, h3, hbi, hE, hdF, aAppendV, doCall_p L hp, hp]
      · have hq' : (l.map encI = []) = False := by simpa using hq
        have hsl : s ++ l ≠ [] := by simp [hz]
        rw [v7_ne hz, h7_ne hz, v7_ne hsl, h7_ne hsl]
        unfold fm124_l0
        simp -implicitDefEqProofs only [code_skip, code_ops, code_seq, code_cond, code_block, ops_cons, ops_nil, aOp, opd, upd_at, upd_none, kt_cons, stepVal, stepHeap, aBin, aInt, aIndexList, isShift, aStore, readAt, leaf, acells_agg, cellsSet, gc_mk, isTrim_cons, gcIds_mk, newIds_nil, newIds_cons, gcMap_at, posOf, ren, renC, idsV, idsC, aAppend, wipe_agg, wipeC_list, wipeC_int, isData_list_none, isData_int, isData_agg, isDataL_nil, isDataL_cons, Option.map_some, Option.getD_some, List.map_cons, List.map_nil, List.flatMap_cons, List.flatMap_nil, List.length_cons, List.length_nil, List.length_append, List.length_map, List.cons_append, List.nil_append, List.append_nil, List.getElem?_cons_zero, List.getElem?_cons_succ, List.set_cons_zero, List.set_cons_succ, List.take_succ_cons, List.take_zero, List.drop_succ_cons, List.drop_zero, List.take_nil, List.drop_nil, List.all_cons, List.all_nil, List.not_mem_nil, ↓reduceIte, Bool.and_true, Bool.false_eq_true, not_false_eq_true, decide_true, decide_false, and_self, Nat.le_refl, Nat.zero_le, reduceCtorEq, Nat.zero_add, Nat.reduceEqDiff, Nat.reduceAdd, Nat.reduceLT, Int.toNat_natCast, Int.natCast_nonneg, roundF_eq, maxLen_eq, List.map_append, kt_nil, onlyVal, encExpr_eq, data_Ints, data_Alts, isData_vec, renO_vec, ren_Ints, Nat.mul_one, h1, h2, h3, hbi, hE, hdF, hq', hs3, hlen, hc, aAppendV, doCall_p L hp, hp, maxLen_eq]
  · intro s hs
    have h0 := append_c f.length
    have hdF := data_Exprs f
    by_cases hz : s = []
    · subst hz
      rw [v7_nil, h7_nil]
      unfold fm124_l0
      simp -implicitDefEqProofs only [code_ops, code_seq, code_cond, code_exit, ops_cons, ops_nil, aOp, opd, upd_at, kt_cons, stepVal, aBin, aInt, isShift, gcE, gc_mk, isTrim_cons, gcIds_mk, newIds_nil, gcMap_at, posOf, ren, renC, renO_gone, idsV, idsC, isData_list_none, isData_list_full, isData_int, isDataL_nil, Option.getD_none, List.map_cons, List.map_nil, List.flatMap_cons, List.flatMap_nil, List.length_nil, List.append_nil, List.getElem?_nil, List.take_nil, ↓reduceIte, Bool.false_eq_true, decide_false, Nat.le_refl, reduceCtorEq, Nat.reduceEqDiff, roundF_eq, kt_nil, h0, hE, hdF]
    · rw [v7_ne hz, h7_ne hz]
      unfold fm124_l0
      simp -implicitDefEqProofs only [code_ops, code_seq, code_cond, code_exit, ops_cons, ops_nil, aOp, opd, upd_at, kt_cons, stepVal, aBin, aInt, isShift, gcE, gc_mk, isTrim_cons, gcIds_mk, newIds_nil, newIds_cons, gcMap_at, posOf, ren, renC, idsV, idsC, isData_list_none, isData_int, Option.getD_some, List.map_cons, List.map_nil, List.flatMap_cons, List.flatMap_nil, List.length_cons, List.length_nil, List.nil_append, List.append_nil, List.getElem?_cons_zero, List.take_zero, List.not_mem_nil, ↓reduceIte, Bool.false_eq_true, not_false_eq_true, decide_false, and_self, Nat.le_refl, Nat.zero_le, reduceCtorEq, Nat.zero_add, Nat.reduceEqDiff, Nat.reduceLT, roundF_eq, kt_nil, isData_vec, renO_vec, ren_Ints, h0, hE, hdF]
theorem renewed_l1 (E F : AVal) (hE : isData E = true) (hF : isData F = true) (a : Int) (ha : 0 ≤ a) (hb : a < 5000) (K : Nat) (hK : K ≤ 131072) {b : Nat} (hbb : b = (h7 (seqI a K)).length) :
    loopF L.pure (call L) b [0, 1, 5, 47, 48, 49] [0, 4, 5] 2 fm124_l1 ⟨kt [0, 1, 5, 47, 48, 49] [E, .int .i64 a, F, v7 (seqI a K), .int .i64 K, .int .i64 0], h7 (seqI a K)⟩ =
      some (.normal, ⟨kt [0, 4, 5] [E, .junk, F], h7 (seqI a K)⟩) := by
  refine loopF_count (fun i => ⟨kt [0, 1, 5, 47, 48, 49] [E, .int .i64 a, F, v7 (seqI a K), .int .i64 K, .int .i64 i], h7 (seqI a K)⟩) K ?_ ?_
  · intro i hi
    have hne : seqI a K ≠ [] := fun h => by have := congrArg List.length h; rw [seqI_len] at this; simp at this; omega
    have h1 : ((i : Int) < (K : Int)) := by omega
    have h2 : IntKind.i64.wrap ((i : Int) + 1) = ((i + 1 : Nat) : Int) := by rw [wrap64 (by omega) (by omega)]; rfl
    have h3 : ((seqI a K).map encI)[i]? = some (encI (a + i)) := by unfold seqI; simp [hi]
    have h4 : IntKind.i64.wrap (a + (i : Int)) = a + i := wrap64 (by omega) (by omega)
    have h5 := seqI_len a K
    rw [h7_ne hne, v7_ne hne, h5]
    rw [h7_ne hne] at hbb
    generalize hcs : (seqI a K) = l at *
    have hd := ids_Ints l
    unfold fm124_l1
    subst hbb
    simp -implicitDefEqProofs only [code_skip, code_ops, code_seq, code_cond, code_block, ops_cons, ops_nil, aOp, opd, upd_at, kt_cons, stepVal, aBin, aInt, aIndexList, isShift, aLoad1, gc_mk, isTrim_cons, gcIds_mk, newIds_nil, newIds_cons, gcMap_at, posOf, ren, renC, idsV, idsC, isData_int, beq_self_eq_true, List.map_cons, List.map_nil, List.flatMap_cons, List.flatMap_nil, List.length_cons, List.length_nil, List.nil_append, List.append_nil, List.getElem?_cons_zero, List.take_succ_cons, List.take_nil, List.not_mem_nil, ↓reduceIte, Bool.not_true, Bool.false_eq_true, and_true, not_false_eq_true, decide_true, decide_false, and_self, Nat.le_refl, reduceCtorEq, Nat.zero_add, Nat.reduceEqDiff, Nat.reduceLT, Nat.reduceLeDiff, Int.toNat_natCast, Int.natCast_nonneg, roundF_eq, kt_nil, encI_eq, isData_vec, idsO_vec, renO_vec, ids_Ints, ren_Ints, Nat.mul_one, h1, h2, h3, h4, hE, hF, bne]
  · have h0 := append_c K
    by_cases hne : seqI a K = []
    · rw [hne] at hbb ⊢
      rw [v7_nil, h7_nil] at *
      subst hbb
      unfold fm124_l1
      simp -implicitDefEqProofs only [code_ops, code_seq, code_cond, code_exit, ops_cons, ops_nil, aOp, opd, upd_at, kt_cons, stepVal, aBin, aInt, isShift, gcE, gc_mk, isTrim_cons, gcIds_mk, newIds_nil, gcMap_at, posOf, ren, renC, renO_gone, idsV, idsC, isData_junk, Option.getD_none, List.map_cons, List.map_nil, List.flatMap_cons, List.flatMap_nil, List.length_nil, List.append_nil, List.getElem?_nil, List.take_nil, ↓reduceIte, Bool.false_eq_true, decide_false, Nat.le_refl, reduceCtorEq, Nat.reduceEqDiff, roundF_eq, kt_nil, h0, hE, hF]
    · rw [h7_ne hne, v7_ne hne]
      rw [h7_ne hne] at hbb
      subst hbb
      generalize (seqI a K) = l at *
      unfold fm124_l1
      simp -implicitDefEqProofs only [code_ops, code_seq, code_cond, code_exit, ops_cons, ops_nil, aOp, opd, upd_at, kt_cons, stepVal, aBin, aInt, isShift, gcE, gc_mk, isTrim_cons, gcIds_mk, newIds_nil, gcMap_at, posOf, ren, renC, idsV, idsC, isData_junk, List.map_cons, List.map_nil, List.flatMap_cons, List.flatMap_nil, List.length_cons, List.length_nil, List.append_nil, List.take_succ_cons, List.take_nil, ↓reduceIte, Bool.false_eq_true, decide_false, Nat.le_refl, reduceCtorEq, Nat.zero_add, Nat.reduceEqDiff, roundF_eq, kt_nil, idsO_vec, renO_vec, ids_Ints, ren_Ints, h0, hE, hF]
variable (hC : CLib2 L)
include hC
theorem corerenewed_ok (hP : MPrims L) (h160 : L.fns 160 = some fm160) (h171 : L.fns 171 = some fn171) (h207 : L.fns 207 = some fn207) (h208 : L.fns 208 = some fn208) (h140 : L.fns 140 = some fn140) (h141 : L.fns 141 = some fm141) (h124 : L.fns 124 = some fm124)
    (e : List CExpr) (hl : e.length < 2 ^ 30) (hf : ∀ x ∈ e, NodeFit x) (n : Int) (h : Heap) : pcall L 124 [.list (e.map encExpr) none, .int .i64 n] h = some (.val (.bool true), h) := by
  have hL := hC.plain
  have hp := hL.pure
  have hdE := data_Exprs e
  have hfact := coreFact_ok hC
  have hmax := minMax_max 0 n
  have hck := check_ok hC.toCLib e hl hf
  have hren := renew_ok hC hP h160 h171 h207 h208 h140 e hl hf ((max 0 n).tmod 5000)
  have ha0 : 0 ≤ (max 0 n).tmod 5000 := Int.tmod_nonneg _ (by omega)
  have ha1 : (max 0 n).tmod 5000 < 5000 := Int.tmod_lt_of_pos _ (by omega)
  refine pcall_fn hL h124 rfl ?_ h
  generalize hta : (max 0 n).tmod 5000 = a at *
  by_cases hz : checkErr e = 0
  · obtain ⟨r0, ⟨K, hK, hK1⟩, hsm, hfe⟩ := renew_law hz hf a ha0 ha1
    rw [r0] at hren
    have hsame := fun hl' hf' h => same133_ok hC e (renewOf e a).1 hl hf hl' hf' h
    rw [hsm] at hsame
    have hcf : checkErr (renewOf e a).1 = 0 := by
      unfold sameOf at hsm
      simp only [Bool.and_eq_true, beq_iff_eq] at hsm
      exact hsm.1.2
    obtain ⟨q1, q2, q3, q4, _⟩ := check_tree hcf
    have hff : ∀ x ∈ (renewOf e a).1, NodeFit x := by
      rw [hfe]
      exact list_fit _ 0 (renF_fit _ (check_fit hz hf).1 _)
    have hbf := lab_bfit q1 q2 q4
    have hKl : ((renewOf e a).1.flatMap bindersX).length = K := by rw [← sortInts_len, hK, seqI_len]
    generalize (renewOf e a).1 = f at *
    have hsame := hsame (by omega) hff
    have hdF := data_Exprs f
    have hl0 := renewed_l0 hL h141 (.list (e.map encExpr) none) (by rw [isData_list_none]; exact hdE) a f (by omega) hff hbf (by omega)
    have hl1 := fun b hb => renewed_l1 (L := L) (b := b) (.list (e.map encExpr) none) (.list (f.map encExpr) none) (by rw [isData_list_none]; exact hdE) (by rw [isData_list_none]; exact hdF) a ha0 ha1 K hK1 hb
    have hsort0 := hC.prims.sort0
    have hsort := hC.prims.sort (f.flatMap bindersX)
    rw [hK] at hsort
    by_cases hnil : f.flatMap bindersX = []
    · have hs0 : seqI a K = [] := by rw [← hK, hnil]; rfl
      have hK0 : K = 0 := by rw [← hKl, hnil]; rfl
      subst hK0
      have hl1 := hl1 0 (by rw [hs0]; rfl)
      rw [hs0, v7_nil, h7_nil] at hl1
      rw [hnil, v7_nil, h7_nil] at hl0
      simp only [Int.natCast_zero] at hl1
      unfold fm124
      simp -implicitDefEqProofs only [code_skip, code_ops, code_seq, code_cond, code_ret, ops_cons, ops_nil, aOp, opd, upd_at, initTm_at, kt_cons, stepVal, aBin, aLen, aInt, aUn, isShift, endFn, aResults, aResult, tupled, code_loopF, gc_mk, isTrim_cons, gcIds_mk, newIds_nil, gcMap_at, posOf, ren, renC, renO_gone, idsV, idsC, wipe_list, wipe_int, wipeR_bool, isData_list_none, isData_list_full, isData_int, isDataL_nil, isDataL_cons, beq_self_eq_true, Option.getD_some, Option.getD_none, List.map_cons, List.map_nil, List.flatMap_cons, List.flatMap_nil, List.length_nil, List.length_map, List.nil_append, List.append_nil, List.getElem?_nil, List.getElem?_cons_zero, List.getElem?_cons_succ, List.take_nil, ↓reduceIte, Bool.and_true, Bool.not_true, Bool.false_eq_true, decide_false, and_self, Nat.le_refl, reduceCtorEq, Nat.reduceEqDiff, Int.reduceEq, kt_nil, Int.cast_ofNat_Int, onlyVal, outOf_val, hfact, hmax, hta, hck, hren, hl0, hl1, hsort0, hsame, hdE, hdF, doCall_p L hp, hp, bne]
    · have hs1 : seqI a K ≠ [] := fun h => hnil (by have := congrArg List.length h; rw [seqI_len] at this; exact List.length_eq_zero_iff.1 (by rw [hKl]; exact this))
      have hsort := hsort hnil (by omega)
      have hl1 := hl1 1 (by rw [h7_ne hs1]; rfl)
      rw [h7_ne hs1, v7_ne hs1, seqI_len] at hl1
      rw [h7_ne hnil, v7_ne hnil, hKl] at hl0
      rw [hKl] at hsort
      generalize f.flatMap bindersX = ids at *
      generalize seqI a K = ids' at *
      have i1 := ids_Ints ids
      have i2 := ids_Ints ids'
      unfold fm124
      simp -implicitDefEqProofs only [code_skip, code_ops, code_seq, code_cond, code_ret, ops_cons, ops_nil, aOp, opd, upd_at, initTm_at, kt_cons, stepVal, aBin, aLen, aInt, aUn, isShift, endFn, aResults, aResult, tupled, code_loopF, gc_mk, isTrim_cons, gcIds_mk, newIds_nil, newIds_cons, gcMap_at, posOf, ren, renC, renO_gone, idsV, idsC, wipe_list, wipe_int, wipeR_bool, isData_list_none, isData_list_full, isData_int, isData_tuple, isDataL_nil, isDataL_cons, beq_self_eq_true, Option.getD_some, Option.getD_none, List.map_cons, List.map_nil, List.flatMap_cons, List.flatMap_nil, List.length_cons, List.length_nil, List.length_map, List.nil_append, List.append_nil, List.getElem?_nil, List.getElem?_cons_zero, List.getElem?_cons_succ, List.take_succ_cons, List.take_nil, List.all_cons, List.all_nil, List.not_mem_nil, ↓reduceIte, Bool.and_true, Bool.not_true, Bool.false_eq_true, and_true, not_false_eq_true, decide_true, decide_false, and_self, Nat.le_refl, reduceCtorEq, Nat.zero_add, Nat.reduceEqDiff, Nat.reduceLT, Nat.reduceLeDiff, Int.reduceEq, kt_nil, onlyVal, rCall_eq, rootsOf_eq, grow_eq, subHeap_eq, newOf_val, putBack_eq, pb_nil, pb_cons, backRes_val, outOf_val, wipe_vec, isData_vec, idsO_vec, renO_vec, ids_Ints, ren_Ints, hfact, hmax, hta, hck, hren, hl0, hl1, hsort, hsame, hdE, hdF, doCall_p L hp, hp, bne]
  · have hne : (checkErr e != 0) = true := by simpa using hz
    have hre : renewOf e a = ([], checkErr e) := by unfold renewOf; rw [if_neg hz]
    rw [hre] at hren
    dsimp only at hren
    rw [List.map_nil] at hren
    generalize checkErr e = r at *
    have hrr : (r == 0) = false := by simpa using hz
    unfold fm124
    simp -implicitDefEqProofs only [code_skip, code_ops, code_seq, code_cond, code_ret, ops_cons, ops_cons_g, ops_nil, aOp, opd, upd_at, initTm_at, stepVal, aBin, aLen, aInt, aUn, isShift, aWanted, endFn, aResults, aResult, tupled, wipe_list, wipe_int, wipeR_bool, isData_list_none, isData_int, isDataL_nil, isDataL_cons, beq_self_eq_true, Option.getD_some, List.map_cons, List.map_nil, List.length_nil, List.getElem?_cons_zero, List.getElem?_cons_succ, ↓reduceIte, Bool.and_true, Bool.not_true, Bool.not_false, Bool.false_eq_true, and_self, reduceCtorEq, Nat.reduceEqDiff, Int.reduceEq, Int.cast_ofNat_Int, onlyVal, outOf_val, hfact, hmax, hta, hck, hren, hne, hrr, hdE, doCall_p L hp, hp, bne, Int.natCast_zero]
end
end Go.Abs
