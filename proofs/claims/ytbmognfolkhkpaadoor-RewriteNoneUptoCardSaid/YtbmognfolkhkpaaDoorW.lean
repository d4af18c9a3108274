/-
  PARTS OF A PROOF, joined: an abstract machine for quiet code, its evaluation, and what the seat's functions answer on it. Conditions: none.
-/
import Derived.Test.YtbmognfolkhkpaaDoorCS
import Derived.Test.YtbmognfolkhkpaaDoorC
set_option linter.unusedVariables false
set_option linter.unusedSimpArgs false
set_option maxRecDepth 100000
set_option maxHeartbeats 4000000
namespace Go.Abs
structure CLib2 (L : Lib) : Prop extends CLib L where
 f130 : L.fns 130 = some qxi
 f131 : L.fns 131 = some qxj
 f132 : L.fns 132 = some fn132
 f133 : L.fns 133 = some qxk
 f139 : L.fns 139 = some qxl
 f154 : L.fns 154 = some fn154
 list : ∀ (t : CTree),TFit t → qbq t < 2 ^ 30 → ∀ h : Heap,pcall L 159 [qa8 t] h = some (.val (.list ((qc3 t).map qaO) none),h)
 f161 : L.fns 161 = some fn161
 f162 : L.fns 162 = some fn162
 f163 : L.fns 163 = some fn163
 f164 : L.fns 164 = some qxn
 f177 : L.fns 177 = some fn177
 f183 : L.fns 183 = some fn183
 f189 : L.fns 189 = some qxp
def IdMap (m : IM Int) : Prop := ∀ v w,qcQ v m = some w → w = v
theorem IdMap.put {m : IM Int} (h : IdMap m) (v : Int) : IdMap (qpx v v m) := by
 intro x w hx
 rw [qjL] at hx
 split at hx
 ·injection hx with hx
  omega
 ·exact h x w hx
theorem IdMap.zip : ∀ (l : List Int) {m : IM Int},IdMap m → IdMap (qwM l l m)
 | [],m,h => h
 | x :: l,m,h => IdMap.zip l (h.put x)
theorem qem {e : List CExpr} (h : qcc e = 0) : TreeL e ∧ e.length ≤ 4096 ∧ hgt (qdC e) ≤ 400 ∧ (∀ x ∈ e,qc2 false (qh9 e x) = 0) ∧ (e.flatMap qcz).Nodup ∧ qhv (qdC e) = [] := by
 unfold qcc qlF at h
 by_cases h1 : qfy e = 0
 ·rw [if_neg (fun hx => hx h1)] at h
  obtain ⟨a,b,c⟩ := (qiO e).1 h1
  by_cases h2 : qct (e.map fun x => qc2 false (qh9 e x)) = 0
  ·rw [if_neg (fun hx => hx h2)] at h
   rw [qoG] at h
   by_cases h3 : (e.flatMap qcz).Nodup
   ·simp only [h3,decide_true,Bool.not_true,Bool.false_eq_true,if_false] at h
    refine ⟨a,b,c,(qfg _ e).1 h2,h3,?_⟩
    cases hf : qhv (qdC e) with
    | nil => rfl
    | cons n l => rw [hf] at h; simp [qqr] at h
   ·simp only [h3,decide_false,Bool.not_false,if_true] at h
    cases h
  ·rw [if_pos h2] at h
   exact absurd h h2
 ·rw [if_pos h1] at h
  exact absurd h h1
theorem qpj {e : List CExpr} (hT : TreeL e) (hn : e.length ≤ 4096) (hz : ∀ x ∈ e,qc2 false (qh9 e x) = 0) : ∀ x ∈ e,qsv x := by
 intro x hx
 have h0 := hz x hx
 unfold qc2 at h0
 split at h0
 ·cases h0
 ·have := qo6 h0 (by unfold qh9; rw [List.length_map]; have := qro e hT x hx; omega)
  unfold qsv
  unfold qh9 at this
  dsimp only at this
  omega
theorem qqQ {e : List CExpr} (h : qcc e = 0) (hf : ∀ x ∈ e,NodeFit x) : TFit (qdC e) ∧ qbq (qdC e) = e.length := by
 obtain ⟨a,b,c,d,_,_⟩ := qem h
 exact ⟨qoE e a.ahead hf (qpj a b d) _ (by have := a.pos; omega),qip e a⟩
mutual
theorem qpn : ∀ (t : CTree) (b : Nat),TFit t → ∀ x ∈ qeI t b,NodeFit x
 | .mk op n binds kids alts,b,h => by
   cases h with
   | mk _ _ _ _ _ hb hk ha hfk =>
     rw [qeI]
     intro x hx
     rcases List.mem_append.1 hx with hx | hx
     ·exact qm4 kids b hfk x hx
     ·rw [List.mem_singleton.1 hx]
      rw [List.length_append] at hb
      exact ⟨by dsimp only; omega,by dsimp only; rw [qkg]; exact hk,ha,fun a hm => by have := qi3 alts hm; omega⟩
theorem qm4 : ∀ (ks : List CTree) (b : Nat),(∀ k ∈ ks,TFit k) → ∀ x ∈ qb7 ks b,NodeFit x
 | [],b,_ => by rw [qb7]; intro x hx; cases hx
 | k :: ks,b,h => by
   rw [qb7]
   intro x hx
   rcases List.mem_append.1 hx with hx | hx
   ·exact qpn k b (h k (by simp)) x hx
   ·exact qm4 ks _ (fun y hy => h y (by simp [hy])) x hx
end
section
variable {L : Lib} (hC : CLib2 L)
include hC
end
section
variable {L : Lib} (hC : CLib2 L)
include hC
end
end Go.Abs
set_option linter.unusedVariables false
set_option linter.unusedSimpArgs false
set_option maxRecDepth 100000
set_option maxHeartbeats 4000000
namespace Go.Abs
section
variable {L : Lib} (hL : Plain L)
include hL
end
theorem qhS {e : List CExpr} (h : TreeL e) : ∀ p,∀ j ∈ qb5 e p,j < p := by
 intro p j hj
 unfold qb5 at hj
 cases hq : e[p]? with
 | none => rw [hq] at hj; cases hj
 | some x =>
   rw [hq] at hj
   obtain ⟨k,hk,rfl⟩ := List.mem_map.1 hj
   obtain ⟨hp,rfl⟩ := List.getElem?_eq_some_iff.1 hq
   have := h.ahead p hp k hk
   omega
theorem qt0 (e : List CExpr) (hk : qfC e) : ∀ (i : Nat),i < e.length → ∃ X : List Nat,qnY (qci e i) = X.map (qci e) ∧ X.Perm (i :: X.flatMap (qb5 e)) ∧ ∀ x ∈ X,x ≤ i := by
 intro i
 induction i using Nat.strongRecOn with
 | ind i ih =>
   intro hi
   have key : ∀ ks : List Int,(∀ k ∈ ks,0 ≤ k ∧ k < i) → ∃ Y : List Nat,qfG (ks.map fun k => qci e k.toNat) = Y.map (qci e) ∧ Y.Perm (ks.map Int.toNat ++ Y.flatMap (qb5 e)) ∧ ∀ y ∈ Y,y < i := by
    intro ks
    induction ks with
    | nil => intro _; exact ⟨[],by rw [List.map_nil,qfG]; rfl,.refl _,by simp⟩
    | cons k ks ihk =>
      intro h
      obtain ⟨k0,k1⟩ := h k (by simp)
      obtain ⟨Y,y1,y2,y3⟩ := ihk fun x hx => h x (by simp [hx])
      obtain ⟨X,x1,x2,x3⟩ := ih k.toNat (by omega) (by omega)
      refine ⟨X ++ Y,by rw [List.map_cons,qfG,x1,y1,List.map_append],?_,fun z hz => ?_⟩
      ·rw [List.flatMap_append,List.map_cons,List.cons_append]
       refine (x2.append y2).trans ?_
       rw [List.cons_append]
       refine List.Perm.cons _ ?_
       rw [← List.append_assoc,← List.append_assoc]
       exact List.perm_append_comm.append_right _
      ·rcases List.mem_append.1 hz with hz | hz
       ·have := x3 z hz; omega
       ·exact y3 z hz
   obtain ⟨Y,y1,y2,y3⟩ := key e[i].kids (hk i hi)
   have hki : qb5 e i = e[i].kids.map Int.toNat := by unfold qb5; rw [List.getElem?_eq_getElem hi]
   refine ⟨Y ++ [i],?_,?_,?_⟩
   ·rw [List.map_append,← y1]
    have h1 := qdH e hk i hi
    show _ = _ ++ [qci e i]
    rw [h1,qnY]
   ·rw [List.flatMap_append,List.flatMap_cons,List.flatMap_nil,List.append_nil,hki]
    refine List.perm_append_comm.trans ?_
    rw [List.cons_append,List.nil_append]
    exact List.Perm.cons _ (y2.trans List.perm_append_comm)
   ·intro x hx
    rcases List.mem_append.1 hx with hx | hx
    ·have := y3 x hx; omega
    ·have := List.mem_singleton.1 hx; omega
theorem qr8 (e : List CExpr) (h : TreeL e) : (qnY (qdC e)).Perm ((List.range e.length).map (qci e)) := by
 have hpos := h.pos
 obtain ⟨X,x1,x2,x3⟩ := qt0 e h.ahead (e.length - 1) (by omega)
 have hperm : X.Perm (List.range e.length) := by
  rw [List.perm_iff_count]
  intro j
  by_cases hj : j < e.length
  ·exact (qfN (qb5 e) (qhS h) (e.length - 1) e.length X (List.range e.length) x2 (qeD e h) (fun x hx => by have := x3 x hx; omega) (fun y hy => List.mem_range.1 hy) (e.length - j) j (by omega)).1
  ·rw [List.count_eq_zero.2 (fun hm => by have := x3 j hm; omega),List.count_eq_zero.2 (fun hm => by have := List.mem_range.1 hm; omega)]
 rw [qhy,x1]
 exact hperm.map _
theorem qwQ {e : List CExpr} (h : TreeL e) (n : Nat) (hn : n < e.length) : qci e n ∈ qnY (qdC e) :=
 (qr8 e h).mem_iff.2 (List.mem_map_of_mem (List.mem_range.2 hn))
mutual
theorem qpA : ∀ (t s : CTree),s ∈ qnY t → qbq s ≤ qbq t ∧ hgt s ≤ hgt t ∧ (qdK s).Sublist (qdK t)
 | .mk op n binds kids alts,s,h => by
   rw [qnY] at h
   rcases List.mem_append.1 h with h | h
   ·obtain ⟨a,b,c⟩ := qnF kids s h
    refine ⟨by rw [qbq]; omega,by rw [hgt]; omega,?_⟩
    rw [qdK]
    exact c.trans (List.sublist_append_left _ _)
   ·rw [List.mem_singleton.1 h]
    exact ⟨Nat.le_refl _,Nat.le_refl _,List.Sublist.refl _⟩
theorem qnF : ∀ (ks : List CTree) (s : CTree),s ∈ qfG ks → qbq s ≤ qa6 ks ∧ hgt s ≤ qd9 ks ∧ (qdK s).Sublist (qd7 ks)
 | [],s,h => by rw [qfG] at h; cases h
 | k :: ks,s,h => by
   rw [qfG] at h
   rw [qa6,qd9,qd7]
   rcases List.mem_append.1 h with h | h
   ·obtain ⟨a,b,c⟩ := qpA k s h
    exact ⟨by omega,by omega,c.trans (List.sublist_append_left _ _)⟩
   ·obtain ⟨a,b,c⟩ := qnF ks s h
    exact ⟨by omega,by omega,c.trans (List.sublist_append_right _ _)⟩
end
theorem qnD {α β : Type} (f : α → List β) {l m : List α} (h : l.Sublist m) : (l.flatMap f).Sublist (m.flatMap f) := by
 induction h with
 | slnil => exact List.Sublist.refl _
 | cons a _ ih => rw [List.flatMap_cons]; exact ih.trans (List.sublist_append_right _ _)
 | cons_cons a _ ih => rw [List.flatMap_cons,List.flatMap_cons]; exact (List.Sublist.refl _).append ih
def qpi (l : Lab) : List Int := qeN l.op l.binds l.alts
structure TOk (t : CTree) : Prop where
 size : qbq t ≤ 4096
 deep : hgt t ≤ 400
 lab : ∀ l ∈ qdK t,qc2 false l = 0
 once : ((qdK t).flatMap qpi).Nodup
theorem qwd {t s : CTree} (h : TOk t) (hs : s ∈ qnY t) : TOk s := by
 obtain ⟨a,b,c⟩ := qpA t s hs
 exact ⟨by have := h.size; omega,by have := h.deep; omega,fun l hl => h.lab l (c.subset hl),h.once.sublist (qnD _ c)⟩
theorem qn6 (e l : List CExpr) : l.flatMap qcz = (l.map (qh9 e)).flatMap qpi := by
 rw [List.flatMap_map]
 rfl
theorem qwR {e : List CExpr} (h : qcc e = 0) : TOk (qdC e) := by
 obtain ⟨a,b,c,d,f,g⟩ := qem h
 have hp := qlg e a
 refine ⟨by rw [qip e a]; exact b,c,fun l hl => ?_,?_⟩
 ·obtain ⟨x,hx,rfl⟩ := List.mem_map.1 (hp.mem_iff.1 hl)
  exact d x hx
 ·rw [qn6 e] at f
  exact ((hp.flatMap_right _).nodup_iff).2 f
theorem qnJ {e : List CExpr} (hz : qcc e = 0) (hf : ∀ x ∈ e,NodeFit x) (n : Nat) (hn : n < e.length) : TFit (qci e n) := by
 obtain ⟨hT,hn2,hh,hlab,_⟩ := qem hz
 exact qoE e hT.ahead hf (qpj hT hn2 hlab) n hn
section
variable {L : Lib} (hC : CLib2 L)
include hC
end
end Go.Abs
set_option linter.unusedVariables false
set_option linter.unusedSimpArgs false
set_option maxRecDepth 100000
set_option maxHeartbeats 4000000
namespace Go.Abs
section
variable {L : Lib} (hC : CLib2 L)
include hC
end
end Go.Abs
set_option linter.unusedVariables false
set_option linter.unusedSimpArgs false
set_option maxRecDepth 100000
namespace Go.Abs
def NN (b : IM Int) : Prop := ∀ u,0 ≤ qhY u b
theorem NN.up {b : IM Int} (h : NN b) (l : List Int) : NN (l.foldl (qhE 1) b) := by
 intro u
 rw [qel]
 have := h u
 unfold qw2
 omega
end Go.Abs
