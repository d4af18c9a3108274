/-
  PARTS OF A PROOF, joined: an abstract machine for quiet code, its evaluation, and what the seat's functions answer on it. Conditions: none.
-/
import Derived.Test.YtbmognfolkhkpaaDoorRwL
import Derived.Test.YtbmognfolkhkpaaDoorRC
import Derived.Test.YtbmognfolkhkpaaDoorD
import Derived.Test.YtbmognfolkhkpaaDoorZ
set_option linter.unusedVariables false
set_option linter.unusedSimpArgs false
set_option maxRecDepth 100000
set_option maxHeartbeats 4000000
namespace Go.Abs
theorem qlO (id : Int) {v b : CTree} (hv : TFit v) (hb : TFit b) : TFit (qnX id v b) :=
 .mk _ _ _ _ _ (by simp) (by simp) (by simp) fun k hk => by
  rcases List.mem_cons.1 hk with rfl | hk
  ·exact hv
  ·rw [List.mem_singleton.1 hk]; exact hb
theorem qjg (id : Int) (v b : CTree) : qbq (qnX id v b) = qbq v + qbq b + 1 := by
 unfold qnX
 rw [qbq,qa6,qa6,qa6]
 omega
theorem qlS (id : Int) (v b : CTree) : hgt (qnX id v b) = max (hgt v) (hgt b) + 1 := by
 unfold qnX
 rw [hgt,qd9,qd9,qd9]
 omega
theorem qrs : ∀ (ids : List Int) (vs : List CTree) (b : CTree),(∀ v ∈ vs,TFit v) → TFit b → TFit (qfF ids vs b) ∧ qbq (qfF ids vs b) ≤ qbq b + qa6 vs + ids.length ∧ hgt (qfF ids vs b) ≤ max (qd9 vs) (hgt b) + ids.length
 | [],vs,b,_,hb => by
   have : qfF [] vs b = b := by cases vs <;> rfl
   rw [this]
   exact ⟨hb,by omega,by omega⟩
 | id :: ids,[],b,_,hb => by
   have : qfF (id :: ids) [] b = b := rfl
   rw [this]
   exact ⟨hb,by rw [List.length_cons]; omega,by omega⟩
 | id :: ids,v :: vs,b,hv,hb => by
   obtain ⟨h1,h2,h3⟩ := qrs ids vs b (fun x hx => hv x (by simp [hx])) hb
   rw [qfF]
   refine ⟨qlO id (hv v (by simp)) h1,?_,?_⟩
   ·rw [qjg,qa6,List.length_cons]; omega
   ·rw [qlS,qd9,List.length_cons]; omega
mutual
theorem qmg (id : Int) (A : CTree) (hA : TFit A) : ∀ b : CTree,TFit b → ShT b → TFit (qfB id A b) ∧ qbq (qfB id A b) ≤ qbq b + qiV id b * qbq A ∧ hgt (qfB id A b) ≤ hgt b + hgt A
 | .mk op n binds kids alts,hb,hs => by
   cases hb with
   | mk _ _ _ _ _ h1 h2 h3 h4 =>
   cases hs with
   | mk _ _ _ _ _ hsh hsk =>
   rw [qfB]
   by_cases hc : op = 0 ∧ n = id
   ·rw [if_pos hc]
    refine ⟨hA,?_,by omega⟩
    rw [qiV,if_pos hc.1,if_pos hc.2]
    omega
   ·rw [if_neg hc]
    obtain ⟨g1,g2,g3⟩ := qnG id A hA kids h4 hsk
    have hl : (qdU id A kids).length = kids.length := by rw [qin,List.length_map]
    refine ⟨.mk _ _ _ _ _ h1 (by omega) h3 g1,?_,?_⟩
    ·rw [qbq,qbq,qiV]
     by_cases h0 : op = 0
     ·have hk0 : kids = [] := List.length_eq_zero_iff.1 (qnw (h0 ▸ hsh))
      subst hk0
      rw [qdU,qa6]
      omega
     ·rw [if_neg h0]
      omega
    ·rw [hgt,hgt]
     omega
theorem qnG (id : Int) (A : CTree) (hA : TFit A) : ∀ ks : List CTree,(∀ k ∈ ks,TFit k) → (∀ k ∈ ks,ShT k) → (∀ k ∈ qdU id A ks,TFit k) ∧ qa6 (qdU id A ks) ≤ qa6 ks + qfZ id ks * qbq A ∧ qd9 (qdU id A ks) ≤ qd9 ks + hgt A
 | [],_,_ => by
   refine ⟨fun k hk => (by rw [qdU] at hk; cases hk),?_,?_⟩
   ·rw [qdU,qa6]; omega
   ·rw [qdU,qd9]; omega
 | k :: ks,hf,hs => by
   obtain ⟨h1,h2,h3⟩ := qmg id A hA k (hf k (by simp)) (hs k (by simp))
   obtain ⟨g1,g2,g3⟩ := qnG id A hA ks (fun x hx => hf x (by simp [hx])) (fun x hx => hs x (by simp [hx]))
   rw [qdU]
   refine ⟨fun x hx => ?_,?_,?_⟩
   ·rcases List.mem_cons.1 hx with rfl | hx
    ·exact h1
    ·exact g1 x hx
   ·rw [qa6,qa6,qfZ,Nat.add_mul]; omega
   ·rw [qd9,qd9]; omega
end
theorem qk3 {op n : Int} {binds : List Int} {kids : List CTree} {alts : List CAlt} (h : TGood (.mk op n binds kids alts)) : binds.length ≤ 16 ∧ ∀ a ∈ alts,a.binds.length ≤ 16 := by
 have hl := h.lab ⟨op,n,binds,kids.map qiM,alts⟩ (by rw [qdK]; simp)
 obtain ⟨_,h2⟩ := qp7 hl
 have hf := qhM h2
 obtain ⟨f1,f2⟩ := qjI alts (binds.length : Int)
 exact ⟨by have := f1; dsimp only at hf; omega,fun a ha => by have := f2 a ha; dsimp only at hf; omega⟩
def qt7 (t t' : CTree) : Prop := TFit t' ∧ qbq t' ≤ 20000 ∧ hgt t' ≤ hgt t + 420
theorem qlN {op n : Int} {binds : List Int} {kids : List CTree} {alts : List CAlt} (h : TGood (.mk op n binds kids alts)) {k : CTree} (hk : k ∈ kids) : qt7 (.mk op n binds kids alts) k := by
 have g := h.kid hk
 exact ⟨g.fit,by have := g.size; omega,by have := g.deep; omega⟩
theorem qq9 (t : CTree) (op n : Int) : qt7 t (.mk op n [] [] []) :=
 ⟨.mk _ _ _ _ _ (by simp) (by simp) (by simp) (fun k hk => by cases hk),by rw [qbq,qa6]; omega,by rw [hgt,qd9]; omega⟩
theorem qiz (n : Int) : ∀ (rb : List Int) (rk : List CTree) {t' : CTree},qfe n rb rk = some t' → t' ∈ rk
 | [],rk,t',h => by cases rk <;> cases h
 | l :: rb,[],t',h => by cases h
 | l :: rb,k :: rk,t',h => by
   rw [qfe] at h
   split at h
   ·injection h with h
    rw [h]
    simp
   ·exact List.mem_cons_of_mem _ (qiz n rb rk h)
theorem qhh (cn : Int) (ck : List CTree) (c : CTree) : ∀ (as : List CAlt) (bs : List CTree) {t' : CTree},qcK cn ck c as bs = some t' → (∃ a ∈ as,∃ b ∈ bs,a.binds.length = ck.length ∧ t' = qfF a.binds ck b) ∨ t' ∈ bs
 | [],bs,t',h => by cases bs <;> cases h
 | a :: as,[],t',h => by cases h
 | a :: as,b :: bs,t',h => by
   rw [qcK] at h
   split at h
   ·split at h
    ·cases h
    ·rename_i hl
     injection h with h
     exact .inl ⟨a,by simp,b,by simp,by simpa using hl,h.symm⟩
   ·split at h
    ·injection h with h
     exact .inr (by rw [h]; simp)
    ·rcases qhh cn ck c as bs h with ⟨a',h1,b',h2,h3⟩ | h1
     ·exact .inl ⟨a',by simp [h1],b',by simp [h2],h3⟩
     ·exact .inr (by simp [h1])
theorem qmI {t b : CTree} {ids : List Int} {vs : List CTree} (hi : ids.length ≤ 16) (hv : ∀ v ∈ vs,TFit v) (hb : TFit b) (hs : qa6 vs + qbq b ≤ 10000) (h1 : qd9 vs ≤ hgt t) (h2 : hgt b ≤ hgt t) : qt7 t (qfF ids vs b) := by
 obtain ⟨g1,g2,g3⟩ := qrs ids vs b hv hb
 exact ⟨g1,by omega,by omega⟩
theorem qm1 (rule n : Int) (binds : List Int) (kids : List CTree) (alts : List CAlt) (hg : TGood (.mk 4 n binds kids alts)) {t' : CTree} (h : qhH rule (.mk 4 n binds kids alts) = some t') : qt7 (.mk 4 n binds kids alts) t' := by
 obtain ⟨sk,sb,_,_⟩ := qhP hg.shape rfl
 obtain ⟨v,body,rfl⟩ := qlX sk
 obtain ⟨id,rfl⟩ := qm3 sb
 have gv := hg.kid (k := v) (by simp)
 have gb := hg.kid (k := body) (by simp)
 have hsz := hg.size
 have hh : hgt (.mk 4 n [id] [v,body] alts) = max (hgt v) (hgt body) + 1 := by rw [hgt,qd9,qd9,qd9]; omega
 have hs : qbq (.mk 4 n [id] [v,body] alts) = qbq v + qbq body + 1 := by rw [qbq,qa6,qa6,qa6]; omega
 rw [hs] at hsz
 have hdeep := hg.deep
 rw [hh] at hdeep
 have hocc := qrA id body
 obtain ⟨vo,vn,vb,vk,va⟩ := v
 rw [qjZ] at h
 split at h
 ·rename_i hc
  injection h with h
  subst h
  obtain ⟨e1,e2,e3⟩ := qkR hc.2 gv.shape
  subst e1 e2 e3
  obtain ⟨g1,g2,g3⟩ := qmg id _ gv.fit body gb.fit gb.sh
  have e1 : qbq (.mk vo vn [] [] []) = 1 := by rw [qbq,qa6]
  have e2 : hgt (.mk vo vn [] [] []) = 1 := by rw [hgt,qd9]
  rw [e1] at g2
  rw [e2] at g3
  exact ⟨g1,by omega,by rw [hh]; omega⟩
 ·split at h
  ·injection h with h
   subst h
   exact qlN hg (by simp)
  ·split at h
   ·rename_i hc
    injection h with h
    subst h
    obtain ⟨_,rfl⟩ := hc
    obtain ⟨sk,_⟩ := qhP gv.shape rfl
    obtain ⟨k0,k1,rfl⟩ := qlX sk
    have g0 := gv.kid (k := k0) (by simp)
    have g1 := gv.kid (k := k1) (by simp)
    have hv1 : qbq (.mk 4 vn vb [k0,k1] va) = qbq k0 + qbq k1 + 1 := by rw [qbq,qa6,qa6,qa6]; omega
    have hv2 : hgt (.mk 4 vn vb [k0,k1] va) = max (hgt k0) (hgt k1) + 1 := by rw [hgt,qd9,qd9,qd9]; omega
    show qt7 _ (qnX _ k0 (qnX id k1 body))
    refine ⟨qlO _ g0.fit (qlO _ g1.fit gb.fit),?_,?_⟩
    ·rw [qjg,qjg]; omega
    ·rw [qlS,qlS,hh]; omega
   ·split at h
    ·rename_i hc
     injection h with h
     subst h
     obtain ⟨_,rfl,hone⟩ := hc
     have sk := (qe3 gv.shape).1 (.inl rfl)
     rw [hone] at sk
     obtain ⟨k0,k1,rfl⟩ := qlX sk
     have g0 := gv.kid (k := k0) (by simp)
     have g1 := gv.kid (k := k1) (by simp)
     have hv1 : qbq (.mk 7 vn vb [k0,k1] va) = qbq k0 + qbq k1 + 1 := by rw [qbq,qa6,qa6,qa6]; omega
     have hv2 : hgt (.mk 7 vn vb [k0,k1] va) = max (hgt k0) (hgt k1) + 1 := by rw [hgt,qd9,qd9,qd9]; omega
     show qt7 _ (.mk 7 0 [] [k0,qnX id k1 body] va)
     refine ⟨.mk _ _ _ _ _ ?_ (by simp) (by omega) fun k hk => ?_,?_,?_⟩
     ·have := gv.fit
      cases this with
      | mk _ _ _ _ _ hb _ _ _ => rw [List.length_append] at hb; rw [List.nil_append]; omega
     ·rcases List.mem_cons.1 hk with rfl | hk
      ·exact g0.fit
      ·rw [List.mem_singleton.1 hk]
       exact qlO _ g1.fit gb.fit
     ·rw [qbq,qa6,qa6,qa6,qjg]; omega
     ·rw [hgt,qd9,qd9,qd9,qlS,hh]; omega
    ·split at h
     ·rename_i hc
      injection h with h
      subst h
      obtain ⟨g1,g2,g3⟩ := qmg id _ gv.fit body gb.fit gb.sh
      rw [hc.2.2,Nat.one_mul] at g2
      exact ⟨g1,by omega,by have := gv.deep; rw [hh]; omega⟩
     ·cases h
theorem qpI (t : CTree) (n a b : Int) {t' : CTree} (h : qiu n a b = some t') : qt7 t t' := by
 unfold qiu at h
 repeat' (first | (injection h with h; subst h; exact qq9 t _ _) | (cases h; done) | split at h)
theorem qtT (rule N : Int) (t : CTree) (hg : TGood t) {t' : CTree} (h : qsu rule N t = some t') : qt7 t t' := by
 obtain ⟨op,n,binds,kids,alts⟩ := t
 rw [qsu] at h
 have hsh := hg.shape
 have hsz := hg.size
 have hdp := hg.deep
 split at h
 ·cases h
 split at h
 ·rename_i hc
  obtain ⟨_,rfl,h2,h3⟩ := hc
  have hkpos : 0 < kids.length := (qgy hsh).2.1 (by simp)
  obtain ⟨k0,ks,rfl⟩ : ∃ k0 ks,kids = k0 :: ks := by
   cases kids with
   | nil => simp at hkpos
   | cons a l => exact ⟨a,l,rfl⟩
  have g0 := hg.kid (k := k0) (by simp)
  obtain ⟨o0,n0,b0,kk0,a0⟩ := k0
  have h2 : o0 = 2 := h2
  subst h2
  have hk1 := (qgy g0.shape).1 rfl
  obtain ⟨kb,rfl⟩ := qm3 hk1
  have gb := g0.kid (k := kb) (by simp)
  have h : some (qfF b0 ks kb) = some t' := h
  injection h with h
  subst h
  have hb16 := (qk3 g0).1
  rw [qbq,qa6] at hsz
  have hkb : qbq (.mk 2 n0 b0 [kb] a0) = qbq kb + 1 := by rw [qbq,qa6,qa6]; first | done | omega
  have hkh : hgt (.mk 2 n0 b0 [kb] a0) = hgt kb + 1 := by rw [hgt,qd9,qd9]; first | done | omega
  have hh : hgt (.mk 3 n binds (.mk 2 n0 b0 [kb] a0 :: ks) alts) = max (hgt kb + 1) (qd9 ks) + 1 := by rw [hgt,qd9,hkh]
  exact qmI hb16 (fun v hv => (hg.kid (k := v) (by simp [hv])).fit) gb.fit (by omega) (by rw [hh]; omega) (by rw [hh]; omega)
 split at h
 ·rename_i hc
  subst hc
  exact qm1 rule n binds kids alts hg h
 split at h
 ·rename_i hc
  injection h with h
  subst h
  have := qhQ hsh hc.2.1
  refine qlN hg ?_
  rw [List.getD_eq_getElem?_getD,List.getElem?_eq_getElem (by omega)]
  exact List.getElem_mem _
 split at h
 ·rename_i hc
  obtain ⟨_,rfl,h2⟩ := hc
  have hka := (qe3 hsh).1 (.inl rfl)
  obtain ⟨k0,ks,rfl⟩ : ∃ k0 ks,kids = k0 :: ks := by
   cases kids with
   | nil => simp at hka
   | cons a l => exact ⟨a,l,rfl⟩
  have g0 := hg.kid (k := k0) (by simp)
  obtain ⟨o0,n0,b0,kk0,a0⟩ := k0
  rw [qkX] at h
  rcases qhh _ _ _ _ _ h with ⟨a,h1,b,h3,h4,rfl⟩ | h1
  ·have gb := hg.kid (k := b) (by simp [h3])
   have hb16 := (qk3 hg).2 a h1
   have hsb := qlt h3
   have hhb := qgu h3
   rw [qbq,qa6] at hsz
   have e1 : qbq (.mk o0 n0 b0 kk0 a0) = qa6 kk0 + 1 := by rw [qbq]
   have e2 : hgt (.mk o0 n0 b0 kk0 a0) = qd9 kk0 + 1 := by rw [hgt]
   have hh : hgt (.mk 7 n binds (.mk o0 n0 b0 kk0 a0 :: ks) alts) = max (qd9 kk0 + 1) (qd9 ks) + 1 := by rw [hgt,qd9,e2]
   exact qmI hb16 (fun v hv => (g0.kid hv).fit) gb.fit (by omega) (by rw [hh]; omega) (by rw [hh]; omega)
  ·exact qlN hg (by simp [h1])
 split at h
 ·rename_i hc
  obtain ⟨k0,k1,rfl⟩ := qlX hc.2.2
  obtain ⟨o0,a,b0,kk0,a0⟩ := k0
  obtain ⟨o1,b,b1,kk1,a1⟩ := k1
  rw [qmw] at h
  split at h
  ·cases h
  ·exact qpI _ n a b h
 split at h
 ·rename_i hc
  obtain ⟨_,rfl⟩ := hc
  obtain ⟨k0,rfl⟩ := qm3 (qnv hsh)
  have g0 := hg.kid (k := k0) (by simp)
  obtain ⟨ro,rn,rb,rk,ra⟩ := k0
  rw [qmG] at h
  split at h
  ·cases h
  ·have hm := qiz _ _ _ h
   have gk := g0.kid hm
   have := qgu hm
   have hh : hgt (.mk 10 n binds [.mk ro rn rb rk ra] alts) = qd9 rk + 1 + 1 := by rw [hgt,qd9,qd9,hgt]; omega
   exact ⟨gk.fit,by have := gk.size; omega,by have := gk.deep; omega⟩
 ·cases h
theorem qv7 {e : List CExpr} (hA : qfC e) (i : Nat) (hi : i < e.length) (t' : CTree) (hf : TFit t') (d : Nat) (hd : hgt t' ≤ hgt (qci e i) + d) (hfe : ∀ k,k < e.length → TFit (qci e k)) :
  ∀ k,k < e.length → TFit (qd3 e i t' k) ∧ qbq (qd3 e i t' k) ≤ qbq (qci e k) * qbq t' ∧ hgt (qd3 e i t' k) ≤ hgt (qci e k) + d := by
 intro k
 induction k using Nat.strongRecOn with
 | ind k ih =>
   intro hk
   have hpos := qf6 t'
   rw [qns e hA i t' k hk]
   by_cases hki : k = i
   ·rw [if_pos hki]
    subst hki
    refine ⟨hf,?_,hd⟩
    have := qf6 (qci e k)
    exact Nat.le_mul_of_pos_left _ this
   ·rw [if_neg hki]
    have h1 := hfe k hk
    rw [qdH e hA k hk] at h1 ⊢
    cases h1 with
    | mk _ _ _ _ _ b1 b2 b3 b4 =>
    have hkid : ∀ q ∈ e[k].kids,q.toNat < k := fun q hq => by have := hA k hk q hq; omega
    have key : ∀ l : List Int,(∀ q ∈ l,q.toNat < k) → (∀ x ∈ l.map fun q => qd3 e i t' q.toNat,TFit x) ∧ qa6 (l.map fun q => qd3 e i t' q.toNat) ≤ qa6 (l.map fun q => qci e q.toNat) * qbq t' ∧ qd9 (l.map fun q => qd3 e i t' q.toNat) ≤ qd9 (l.map fun q => qci e q.toNat) + d := by
     intro l
     induction l with
     | nil =>
       intro _
       refine ⟨fun x hx => (by cases hx),?_,?_⟩
       ·rw [List.map_nil,List.map_nil,qa6]; omega
       ·rw [List.map_nil,List.map_nil,qd9]; omega
     | cons q l ih2 =>
       intro hq
       obtain ⟨g1,g2,g3⟩ := ih q.toNat (hq q (by simp)) (by have := hq q (by simp); omega)
       obtain ⟨j1,j2,j3⟩ := ih2 fun x hx => hq x (by simp [hx])
       rw [List.map_cons,List.map_cons]
       refine ⟨fun x hx => ?_,?_,?_⟩
       ·rcases List.mem_cons.1 hx with rfl | hx
        ·exact g1
        ·exact j1 x hx
       ·rw [qa6,qa6,Nat.add_mul]; omega
       ·rw [qd9,qd9]; omega
    obtain ⟨j1,j2,j3⟩ := key e[k].kids hkid
    refine ⟨.mk _ _ _ _ _ b1 (by rw [List.length_map] at b2 ⊢; exact b2) b3 j1,?_,?_⟩
    ·rw [qbq,qbq,Nat.add_mul,Nat.one_mul]; omega
    ·rw [hgt,hgt]; omega
theorem qwP (t : CTree) : (∀ l ∈ qdK t,qc2 false l = 0) → ShT t := by
 induction t using CTree.ind with
 | h op n binds kids alts ih =>
   intro hl
   rw [qdK] at hl
   have h1 := qrq (hl ⟨op,n,binds,kids.map qiM,alts⟩ (by simp))
   dsimp only at h1
   rw [List.length_map] at h1
   exact .mk _ _ _ _ _ h1 fun k hk => ih k hk fun l hm => hl l (List.mem_append_left _ (qj6 hk l hm))
theorem quR {e : List CExpr} (hz : qcc e = 0) (hf : ∀ x ∈ e,NodeFit x) (k : Nat) (hk : k < e.length) : TGood (qci e k) := by
 have hT := (qem hz).1
 have h := qwd (qwR hz) (qwQ hT k hk)
 exact ⟨qnJ hz hf k hk,qwP _ h.lab,h.deep,h.size,h.lab⟩
end Go.Abs
set_option linter.unusedVariables false
set_option linter.unusedSimpArgs false
set_option maxRecDepth 100000
set_option maxHeartbeats 8000000
namespace Go.Abs
def qn3 (e : List CExpr) (i : Nat) : Option CTree → List CExpr × Int
 | none => ([],12)
 | some t' => if qcc (qc3 (qd3 e i t' (e.length - 1))) = 0 then (qc3 (qd3 e i t' (e.length - 1)),0) else ([],2)
def qeq (e : List CExpr) (rule at' N : Int) : List CExpr × Int :=
 if qcc e = 0 then (if rule < 1 ∨ 12 < rule then ([],4) else if at' < 0 ∨ (e.length : Int) ≤ at' then ([],12) else qn3 e at'.toNat (qsu rule N (qci e at'.toNat))) else ([],qcc e)
theorem qsl {H : Heap} {S : Nat → Prop} {w r : Nat} {a : AVal} {T : CTree} (hw : H[w]? = some (.box [a,qbd r])) (ha : leaf a = true) (hT : WS H S T r) (hh : hgt T ≤ 900) : viewV H (.ptr (some (w,0))) = .vptr [qbJ H 1999 a,qa8 T] 0 := by
 unfold viewV
 rw [show (2000 : Nat) = 1999 + 1 from rfl,qbJ,if_neg (by simp [qa7])]
 unfold qei
 dsimp only
 rw [hw]
 dsimp only
 rw [if_pos (by rw [List.all_cons,ha]; rfl),List.map_cons,List.map_cons,List.map_nil,hT.view 1999 (by omega)]
section
variable {L : Lib} (hR : RLib L)
include hR
theorem qsz (e : List CExpr) (hl : e.length < 2 ^ 30) (hf : ∀ x ∈ e,NodeFit x) (rule at' N : Int) (hr : rule ≠ 10 ∧ rule ≠ 12) (h : Heap) :
  pcall L 283 [.list (e.map qaO) none,.agg [.int .i64 rule,.int .i64 at',.int .i64 N]] h = some (.val (.tuple [.list ((qeq e rule at' N).1.map qaO) none,.int .i64 (qeq e rule at' N).2]),h) := by
 have hL := hR.plain
 have hp := hL.pure
 have hdE := qbO e
 have hck := qlJ hR.toCLib e hl hf
 refine qb4 hL hR.f283 (by simp only [qa7,qaX,qbO,Bool.and_self]) ?_ h
 unfold qeq
 by_cases hz : qcc e = 0
 case neg =>
  have hne : (qcc e != 0) = true := by simpa using hz
  rw [if_neg hz]
  dsimp only
  generalize qcc e = r at *
  unfold fn283
  simp -implicitDefEqProofs only [qad,qae,qab,qar,qac,qah,aOp,opd,qai,qam,qaf,qbc,qba,qak,qaq,qaQ,qan,qaw,qaF,qbu,qbs,qc5,qaa,qax,qau,Option.getD_some,List.map_cons,List.map_nil,List.length_nil,List.nil_append,List.getElem?_cons_zero,List.getElem?_cons_succ,↓reduceIte,Bool.and_true,Bool.false_eq_true,and_self,reduceCtorEq,Nat.reduceEqDiff,qa5,qaI,hck,hne,hdE,qaP L hp,hp,List.map_nil]
 rw [if_pos hz]
 rw [hz] at hck
 by_cases hr1 : rule < 1
 ·rw [if_pos (.inl hr1)]
  unfold fn283
  simp -implicitDefEqProofs only [qal,qad,qae,qab,qar,qac,qao,qah,aOp,opd,qai,qam,qaf,qbc,qba,qak,qav,qay,qaE,qaq,qaQ,qan,qaw,qaF,qbu,qbs,qc5,qaa,qax,qau,qdI,beq_self_eq_true,Option.getD_some,List.map_cons,List.map_nil,List.length_nil,List.nil_append,List.getElem?_cons_zero,List.getElem?_cons_succ,↓reduceIte,Bool.and_true,Bool.not_true,Bool.false_eq_true,decide_true,and_self,reduceCtorEq,Nat.add_zero,Nat.reduceEqDiff,qa5,qaI,hck,hr1,hdE,qaP L hp,hp,List.map_nil,bne]
 by_cases hr2 : 12 < rule
 ·rw [if_pos (.inr hr2)]
  unfold fn283
  simp -implicitDefEqProofs only [qal,qad,qae,qab,qar,qac,qao,qah,aOp,opd,qai,qam,qaf,qbc,qba,qak,qav,qay,qaE,qaq,qaQ,qan,qaw,qaF,qbu,qbs,qc5,qaa,qax,qau,beq_self_eq_true,Option.getD_some,List.map_cons,List.map_nil,List.length_nil,List.nil_append,List.getElem?_cons_zero,List.getElem?_cons_succ,↓reduceIte,Bool.and_true,Bool.not_true,Bool.false_eq_true,decide_true,decide_false,and_self,reduceCtorEq,Nat.add_zero,Nat.reduceEqDiff,gt_iff_lt,qa5,qaI,hck,hr1,hr2,hdE,qaP L hp,hp,List.map_nil,bne]
 rw [if_neg (by omega)]
 by_cases ha1 : at' < 0
 ·rw [if_pos (.inl ha1)]
  unfold fn283
  simp -implicitDefEqProofs only [qal,qad,qae,qab,qar,qac,qao,qah,aOp,opd,qai,qam,qaf,qbc,qba,qak,qav,qay,qaE,qaq,qaQ,qan,qaw,qaF,qbu,qbs,qc5,qaa,qax,qau,qdI,beq_self_eq_true,Option.getD_some,List.map_cons,List.map_nil,List.length_nil,List.nil_append,List.getElem?_cons_zero,List.getElem?_cons_succ,↓reduceIte,Bool.and_true,Bool.not_true,Bool.false_eq_true,decide_true,decide_false,and_self,reduceCtorEq,Nat.add_zero,Nat.zero_add,Nat.reduceEqDiff,gt_iff_lt,qa5,qaI,hck,hr1,hr2,ha1,hdE,qaP L hp,hp,List.map_nil,bne]
 by_cases ha2 : (e.length : Int) ≤ at'
 ·rw [if_pos (.inr ha2)]
  unfold fn283
  simp -implicitDefEqProofs only [qal,qad,qae,qab,qar,qac,qao,qah,aOp,opd,qai,qam,qaf,qbc,qcg,qba,qak,qav,qay,qaE,qaq,qaQ,qan,qaw,qaF,qbu,qbs,qc5,qaa,qax,qau,beq_self_eq_true,Option.getD_some,List.map_cons,List.map_nil,List.length_nil,List.length_map,List.nil_append,List.getElem?_cons_zero,List.getElem?_cons_succ,↓reduceIte,Bool.and_true,Bool.not_true,Bool.false_eq_true,decide_true,decide_false,and_self,reduceCtorEq,Nat.add_zero,Nat.zero_add,Nat.reduceEqDiff,ge_iff_le,gt_iff_lt,qa5,qaI,hck,hr1,hr2,ha1,ha2,hdE,qaP L hp,hp,List.map_nil,bne]
 rw [if_neg (by omega)]
 obtain ⟨i,hi⟩ : ∃ i : Nat,at' = (i : Int) := ⟨at'.toNat,by omega⟩
 subst hi
 have hil : i < e.length := by omega
 rw [Int.toNat_natCast]
 obtain ⟨hT,hn4,hdeep,_⟩ := qem hz
 have hpos := hT.pos
 obtain ⟨H,ps,ow,c1,hO,hke⟩ := qv5 hL hR.f293 e hl hpos hf hT.ahead [.box [.int .i64 rule,.int .i64 (i : Int),.int .i64 N]]
 rw [List.length_singleton] at c1 hO hke
 have hH0 : H[0]? = some (.box [.int .i64 rule,.int .i64 (i : Int),.int .i64 N]) := by rw [hke 0 (by omega)]; rfl
 have hps := hO.len
 have hgi : ps.getD i 0 = ps[i]'(by omega) := by rw [List.getD_eq_getElem?_getD,List.getElem?_eq_getElem (by omega)]; rfl
 have hgn : (ps.map qbd)[i]? = some (.ptr (some (ps.getD i 0,0))) := by rw [List.getElem?_map,List.getElem?_eq_getElem (by omega),hgi]; rfl
 obtain ⟨ob,ok,avs,oa,n1,n2⟩ := hO.node i hil (by omega)
 rw [← hgi] at n1
 have hp0 := hO.low (ps.getD i 0) (by rw [hgi]; exact List.getElem_mem _)
 have hgood := quR hz hf i hil
 have hte := qdH e hT.ahead i hil
 have hkids : ∀ x (hx : x < e[i].kids.length),e[i].kids[x].toNat ∈ qb5 e i ∧ e[i].kids[x].toNat < i := fun x hx => by
  have := hT.ahead i hil _ (List.getElem_mem hx)
  refine ⟨?_,by omega⟩
  unfold qb5
  rw [List.getElem?_eq_getElem hil]
  exact List.mem_map_of_mem (List.getElem_mem hx)
 have hres := qr0 hR (.ptr (some (1,0))) rule (i : Int) N hr e[i].op e[i].n e[i].binds (e[i].kids.map fun k : Int => qci e k.toNat) e[i].alts (by rw [← hte]; exact hgood) H (ps.getD i 0) (e[i].kids.map fun k : Int => ps.getD k.toNat 0) ob ok oa avs
  (fun x q => ∃ hx : x < e[i].kids.length,At e ps e[i].kids[x].toNat q) n1 n2 (by simp) (fun x hx => by
   rw [List.length_map] at hx
   rw [List.getElem_map,List.getElem_map]
   exact (hO.ws hT.ahead _ (by have := (hkids x hx).2; omega)).mono fun q hq => ⟨hx,hq⟩)
  (fun x y q hxy ⟨hx,m,m1,m2,m3⟩ ⟨hy,m',m1',m2',m3'⟩ => by
   have := qpw hO.nodup (a := m) (b := m') (by omega) (by omega) (by rw [← m3,← m3'])
   subst this
   refine qus hT (hkids x hx).1 (hkids y hy).1 (fun he => ?_) m1 m1'
   have h1 := hT.ahead i hil _ (List.getElem_mem hx)
   have h2 := hT.ahead i hil _ (List.getElem_mem hy)
   exact qvU hT hil hx hy hxy (by omega))
  (fun x q ⟨hx,hq⟩ => At.lt hO hq)
 rw [← hte] at hres
 obtain ⟨H2,r,c2,c3,c4,c5⟩ := hres
 have hw0 : H[1]? = some (.box [.list (ps.map qbd) ow,qbd (ps.getD (e.length - 1) 0)]) := hO.work
 generalize hpi : ps.getD i 0 = p at *
 cases hq : qsu rule N (qci e i) with
 | none =>
   rw [hq] at c3
   have hrn : r = .ptr none := c3
   subst hrn
   unfold qn3
   dsimp only
   rw [show qbd 1 = .ptr (some (1,0)) from rfl] at c1
   unfold fn283
   simp -implicitDefEqProofs only [qal,qad,qaK,qae,qab,qar,qac,qao,qah,aOp,opd,qai,qam,qaf,qbc,qcg,qba,aEq,qap,qak,qav,qay,qbt,qaE,qaq,qaR,qaQ,qan,qaw,qaF,qa4,qaT,qaM,qbb,qbu,qbs,qc5,qaa,qax,qau,beq_self_eq_true,Option.map_some,Option.getD_some,List.map_cons,List.map_nil,List.length_cons,List.length_nil,List.length_map,List.nil_append,List.append_nil,List.getElem?_cons_zero,List.getElem?_cons_succ,List.take_succ_cons,List.drop_zero,List.take_nil,↓reduceIte,Bool.and_true,Bool.not_true,Bool.false_eq_true,decide_false,and_self,Nat.le_refl,reduceCtorEq,Nat.add_zero,Nat.zero_add,Nat.reduceEqDiff,Nat.reduceAdd,Int.toNat_natCast,Int.natCast_nonneg,qaC,qaL,ge_iff_le,gt_iff_lt,qa5,qaI,Option.isNone_none,hck,hr1,hr2,ha1,ha2,hdE,c1,hH0,hw0,hgn,c2,qaP L hp,hp,List.map_nil,bne]
 | some t' =>
   rw [hq] at c3
   obtain ⟨q,rfl,hws⟩ := c3
   obtain ⟨f1,f2,f3⟩ := qtT rule N _ hgood hq
   have hnS : ∀ j,(∃ x,∃ hx : x < e[i].kids.length,At e ps e[i].kids[x].toNat j) → j ≠ p := by
    rintro j ⟨x,hx,m,m1,m2,m3⟩ he
    have hm := qoS hT.ahead m1
    have := (hkids x hx).2
    have := qpw hO.nodup (a := m) (b := i) (by omega) (by omega) (by rw [← m3,he,hpi])
    omega
   have hnS' : ∀ j,OrN (fun j => ∃ x,∃ hx : x < e[i].kids.length,At e ps e[i].kids[x].toNat j) (H.length + 1) j → j ≠ p := by
    rintro j (hj | hj)
    ·exact hnS j hj
    ·omega
   have hp2 : H2[p]? = some (nb e[i] (.list (e[i].binds.map qa0) ob) (.list ((e[i].kids.map fun k : Int => ps.getD k.toNat 0).map qbd) ok) (.list avs oa)) := by
    rw [c5 p hp0.2 (fun hh => hnS p hh rfl)]
    exact n1
   have hlp2 := hlt hp2
   cases hws with
   | mk op' n' binds' kids' alts' _ psq obq okq avsq oaq hpq hboxq haq hlq hkq =>
   have hw3 : WS (H2.set p (.box [.int .i64 op',.int .i64 n',.list (binds'.map qa0) obq,.list (psq.map qbd) okq,.list avsq oaq])) (fun _ => True) (.mk op' n' binds' kids' alts') p :=
    .mk _ _ _ _ _ _ psq obq okq avsq oaq trivial (hgs hlp2) haq hlq fun x hx => ((hkq x hx).frame fun j hj => Go.Abs.hgn (fun e => hnS' j hj e.symm)).mono fun _ _ => trivial
   have hglob := glob hT hO hil (t' := .mk op' n' binds' kids' alts') (by rw [hpi]; exact hw3) (fun k hk hb => by
    have hkp : ps.getD k 0 ≠ p := fun he => by
     have := qpw hO.nodup (a := k) (b := i) (by omega) (by omega) (by rw [he,hpi])
     subst this
     exact hb (.refl _)
    have hkl := hO.low (ps.getD k 0) (by rw [List.getD_eq_getElem?_getD,List.getElem?_eq_getElem (by omega)]; exact List.getElem_mem _)
    rw [Go.Abs.hgn (fun e => hkp e.symm),c5 _ hkl.2]
    rintro ⟨x,hx,m,m1,m2,m3⟩
    have := qpw hO.nodup (a := k) (b := m) (by omega) (by omega) m3
    subst this
    exact hb (.step (hkids x hx).1 m1)) (e.length - 1) (by omega) (by
     by_cases hie : e.length - 1 = i
     ·exact .inl hie
     ·exact .inr fun hb => by have := qoS hT.ahead hb; omega)
   obtain ⟨b1,b2,b3⟩ := qv7 hT.ahead i hil (.mk op' n' binds' kids' alts') f1 420 f3 (fun k hk => qnJ hz hf k hk) (e.length - 1) (by omega)
   have hroot := (qqQ hz hf).2
   rw [qhy] at hroot hdeep
   have hsz : qbq (qd3 e i (.mk op' n' binds' kids' alts') (e.length - 1)) < 2 ^ 30 := by
    rw [hroot] at b2
    have : e.length * qbq (.mk op' n' binds' kids' alts') ≤ 4096 * 20000 := Nat.mul_le_mul hn4 f2
    omega
   generalize hTT : qd3 e i (.mk op' n' binds' kids' alts') (e.length - 1) = T at *
   have hw3' : (H2.set p (.box [.int .i64 op',.int .i64 n',.list (binds'.map qa0) obq,.list (psq.map qbd) okq,.list avsq oaq]))[1]? = some (.box [.list (ps.map qbd) ow,qbd (ps.getD (e.length - 1) 0)]) := by
    rw [Go.Abs.hgn (by omega),c5 1 (hlt hw0)]
    ·exact hw0
    ·rintro ⟨x,hx,m,m1,m2,m3⟩
     have := hO.low (ps.getD m 0) (by rw [List.getD_eq_getElem?_getD,List.getElem?_eq_getElem (by omega)]; exact List.getElem_mem _)
     omega
   have hvw := qsl hw3' rfl hglob (by omega)
   have hls := hR.list T b1 hsz
   have hck2 := qlJ hR.toCLib (qc3 T) (by unfold qc3; rw [qfo]; exact hsz) (qpn T 0 b1)
   have hdL := qbO (qc3 T)
   obtain ⟨tc,htc,hdt⟩ := qdz T
   rw [htc] at hvw hls
   rw [show qbd 1 = .ptr (some (1,0)) from rfl] at c1
   unfold nb at hp2
   unfold qn3
   dsimp only
   rw [hTT]
   by_cases hz2 : qcc (qc3 T) = 0
   ·rw [if_pos hz2]
    rw [hz2] at hck2
    generalize qbJ _ 1999 _ = X at hvw
    unfold fn283
    simp -implicitDefEqProofs only [qal,qad,qaK,qae,qab,qar,qac,qao,qah,aOp,opd,qai,qa2,qam,qaf,qaW,qbc,qcg,qba,aEq,qap,qak,qav,qay,qbv,qbt,qaE,leaf,qaq,qaR,qaS,qaQ,qan,qaw,qaF,qa4,qaT,qaM,qbb,qbu,qbs,qc5,qbW,qaa,qaV,qax,qau,beq_self_eq_true,Option.map_some,Option.getD_some,List.map_cons,List.map_nil,List.length_cons,List.length_nil,List.length_map,List.nil_append,List.append_nil,List.getElem?_cons_zero,List.getElem?_cons_succ,List.take_succ_cons,List.take_zero,List.drop_succ_cons,List.drop_zero,List.take_nil,List.drop_nil,List.all_cons,List.all_nil,↓reduceIte,Bool.and_true,Bool.not_true,Bool.false_eq_true,decide_false,and_self,Nat.le_refl,reduceCtorEq,Nat.add_zero,Nat.zero_add,Nat.reduceEqDiff,Nat.reduceAdd,Int.toNat_natCast,Int.natCast_nonneg,qaC,qaL,ge_iff_le,gt_iff_lt,qmE,qa5,qaI,hck,hr1,hr2,ha1,ha2,hdE,c1,hH0,hw0,hgn,c2,hboxq,hp2,qpD,hvw,hls,hdt,hdL,hck2,qbW,qaP L hp,hp,List.map_nil,bne]
   ·have hne2 : (qcc (qc3 T) == 0) = false := by simpa using hz2
    rw [if_neg hz2]
    generalize qbJ _ 1999 _ = X at hvw
    generalize qcc (qc3 T) = rr at *
    unfold fn283
    simp -implicitDefEqProofs only [qal,qad,qaK,qae,qab,qar,qac,qao,qah,aOp,opd,qai,qa2,qam,qaf,qaW,qbc,qcg,qba,aEq,qap,qak,qav,qay,qbv,qbt,qaE,leaf,qaq,qaR,qaS,qaQ,qan,qaw,qaF,qa4,qaT,qaM,qbb,qbu,qbs,qc5,qbW,qaa,qaV,qax,qau,beq_self_eq_true,Option.map_some,Option.getD_some,List.map_cons,List.map_nil,List.length_cons,List.length_nil,List.length_map,List.nil_append,List.append_nil,List.getElem?_cons_zero,List.getElem?_cons_succ,List.take_succ_cons,List.take_zero,List.drop_succ_cons,List.drop_zero,List.take_nil,List.drop_nil,List.all_cons,List.all_nil,↓reduceIte,Bool.and_true,Bool.not_true,Bool.not_false,Bool.false_eq_true,decide_false,and_self,Nat.le_refl,reduceCtorEq,Nat.add_zero,Nat.zero_add,Nat.reduceEqDiff,Nat.reduceAdd,Int.toNat_natCast,Int.natCast_nonneg,qaC,qaL,ge_iff_le,gt_iff_lt,qmE,qa5,qaI,hck,hr1,hr2,ha1,ha2,hdE,c1,hH0,hw0,hgn,c2,hboxq,hp2,qpD,hvw,hls,hdt,hdL,hck2,hne2,qbW,qaP L hp,hp,List.map_nil,bne]
end
end Go.Abs
set_option linter.unusedVariables false
set_option linter.unusedSimpArgs false
set_option maxRecDepth 100000
set_option maxHeartbeats 8000000
namespace Go.Abs
def twI : AVal → Bool
 | .int .i64 _ => true
 | _ => false
def twP (f : Nat) (args : List AVal) (h : Heap) : Option (ARes × Heap) :=
 if f = 188 then
  (match args with
  | [.list xs none] => if (xs.all twI && decide (xs.length < 2 ^ 30)) = true then (if xs.isEmpty = true then some (.val (.list [] none),h) else some (.val (.vec h.length xs.length),h ++ [.vec xs 1])) else none
  | _ => none)
 else if f = 138 then
  (match args with
  | [.list [] none] => some (.val (.tuple []),h)
  | _ => none)
 else none
def twN : AVal → Int
 | .int _ n => n
 | _ => 0
theorem qwS {xs : List AVal} (h : xs.all twI = true) : xs = (xs.map twN).map qa0 := by
 induction xs with
 | nil => rfl
 | cons x xs ih =>
   rw [List.all_cons,Bool.and_eq_true] at h
   rw [List.map_cons,List.map_cons,← ih h.2]
   congr 1
   obtain ⟨h1,_⟩ := h
   unfold twI at h1
   split at h1
   ·rfl
   ·cases h1
theorem qwT {L : Lib} (hM : MPrims L) (h0 : ∀ h : Heap,call L 138 [.list [] none] h = some (.val (.tuple []),h)) : ∀ f a h r,twP f a h = some r → call L f a h = some r := by
 intro f a h r hr
 unfold twP at hr
 split at hr
 ·rename_i hf
  subst hf
  split at hr
  ·rename_i xs
   split at hr
   ·rename_i hc
    rw [Bool.and_eq_true,decide_eq_true_eq] at hc
    have hx := qwS hc.1
    have hl : (xs.map twN).length < 2 ^ 30 := by rw [List.length_map]; exact hc.2
    have hcl := hM.clone (xs.map twN) h hl
    rw [← hx] at hcl
    split at hr
    ·rename_i he
     have : xs = [] := by simpa using he
     subst this
     rw [hcl,← hr,List.map_nil,qpS,qpR,List.append_nil]
    ·rename_i he
     have hne : xs.map twN ≠ [] := by
      intro e
      have : xs = [] := by simpa using e
      subst this
      exact he rfl
     rw [hcl,← hr,qjD hne,qjA hne,← hx,List.length_map]
   ·cases hr
  ·cases hr
 ·split at hr
  ·rename_i hf
   subst hf
   split at hr
   ·injection hr with hr
    rw [← hr]
    exact h0 h
   ·cases hr
  ·cases hr
theorem ql0 {α β : Type} [BEq α] [LawfulBEq α] {l : List (α × β)} {a : α} {b : β} (h : l.lookup a = some b) : (a,b) ∈ l := by
 induction l with
 | nil => cases h
 | cons p l ih =>
   obtain ⟨x,y⟩ := p
   rw [List.lookup_cons] at h
   by_cases hx : (a == x) = true
   ·rw [hx] at h
    injection h with h
    rw [eq_of_beq hx,h]
    exact List.mem_cons_self
   ·have hx' : (a == x) = false := by simpa using hx
    rw [hx'] at h
    exact List.mem_cons_of_mem _ (ih h)
theorem quI {L : Lib} (hL : Plain L) (hM : MPrims L) (h0 : ∀ h : Heap,call L 138 [.list [] none] h = some (.val (.tuple []),h)) {T : List (Nat × AFn)} (hT : ∀ p ∈ T,L.fns p.1 = some p.2) {n f : Nat} (hc : qtu (.bool true) (qqq (fun f => List.lookup f T) twP n f [] []) = true) (h : Heap) :
  pcall L f [] h = some (.val (.bool true),h) := by
 obtain ⟨H,hr⟩ := qtv hc
 have := qt6 (L := L) hL.pure hL.summ (fun f => List.lookup f T) twP (fun f fn hf => hT _ (ql0 hf)) (qwT hM h0) n f [] [] _ hr
 exact qc9 this rfl rfl h
section
variable {L : Lib} (hR : RLib L)
include hR
theorem qkI (h270 : L.fns 270 = some fn270) (hfact : ∀ h : Heap,pcall L 282 [] h = some (.val (.bool true),h)) (e : List CExpr) (hl : e.length < 2 ^ 30) (hf : ∀ x ∈ e,NodeFit x) (a b : Int) (ha : -9223372036854775808 ≤ a ∧ a < 9223372036854775808) (hb : (-9223372036854775808 ≤ b ∧ b < 9223372036854775808)) (h : Heap) :
  pcall L 270 [.list (e.map qaO) none,.int .i64 a,.int .i64 b] h = some (.val (.bool true),h) := by
 have hL := hR.plain
 have hp := hL.pure
 have hdE := qbO e
 have hck := qlJ hR.toCLib e hl hf
 have hap := fun r n N (h : Heap) (hr : r ≠ 10 ∧ r ≠ 12) => qsz hR e hl hf r n N hr h
 refine qb4 hL h270 rfl ?_ h
 by_cases hz : qcc e = 0
 ·rw [hz] at hck
  have hpos := (qem hz).1.pos
  obtain ⟨m1,e1,b1,b1'⟩ : ∃ m : Int,(if a > 0 then a else 0) = m ∧ 0 ≤ m ∧ m < 2 ^ 63 := ⟨_,rfl,by split <;> omega,by have := ha.2; split <;> omega⟩
  obtain ⟨m2,e2,b2,b2'⟩ : ∃ m : Int,(if b > 0 then b else 0) = m ∧ 0 ≤ m ∧ m < 2 ^ 63 := ⟨_,rfl,by split <;> omega,by have := hb.2; split <;> omega⟩
  have t1 : 0 ≤ m1.tmod 9 := Int.tmod_nonneg _ b1
  have t1' : m1.tmod 9 < 9 := Int.tmod_lt_of_pos _ (by decide)
  have t2 : 0 ≤ m2.tmod 9 := Int.tmod_nonneg _ b2
  have t2' : m2.tmod 9 < 9 := Int.tmod_lt_of_pos _ (by decide)
  have w1 : IntKind.i64.wrap (13 + m1.tmod 9) = 13 + m1.tmod 9 := qcW (by omega) (by omega)
  have w2 : IntKind.i64.wrap ((e.length : Int) + m2.tmod 9) = (e.length : Int) + m2.tmod 9 := qcW (by omega) (by omega)
  have w3 : IntKind.i64.wrap ((e.length : Int) - 1) = (e.length : Int) - 1 := qcW (by omega) (by omega)
  have a1 := fun h => hap (13 + m1.tmod 9) 0 0 h ⟨by omega,by omega⟩
  have a2 := fun h => hap 1 ((e.length : Int) + m2.tmod 9) 0 h ⟨by decide,by decide⟩
  have a3 := fun h => hap 3 ((e.length : Int) - 1) 1 h ⟨by decide,by decide⟩
  have r1 : qeq e (13 + m1.tmod 9) 0 0 = ([],4) := by unfold qeq; rw [if_pos hz,if_pos (.inr (by omega))]
  have r2 : qeq e 1 ((e.length : Int) + m2.tmod 9) 0 = ([],12) := by unfold qeq; rw [if_pos hz,if_neg (by omega),if_pos (.inr (by omega))]
  have r3 : qeq e 3 ((e.length : Int) - 1) 1 = ([],12) := by
   unfold qeq
   rw [if_pos hz,if_neg (by omega),if_neg (by omega)]
   have : qsu 3 1 (qci e ((e.length : Int) - 1).toNat) = none := by
    generalize qci e ((e.length : Int) - 1).toNat = t
    cases t
    rw [qsu,if_pos (by decide)]
   rw [this]
   rfl
  rw [r1] at a1
  rw [r2] at a2
  rw [r3] at a3
  dsimp only at a1 a2 a3
  rw [List.map_nil] at a1 a2 a3
  unfold fn270
  simp -implicitDefEqProofs only [qal,qad,qae,qab,qar,qac,qao,qah,aOp,opd,qai,qam,qaf,qbc,qcg,qba,aUn,qak,qav,qcG,qc1,qaJ,qaS,qaQ,qan,qaw,qaF,qb6,qbu,qbi,qbp,qaa,qas,qb9,qax,qau,beq_self_eq_true,Option.map_some,Option.getD_some,List.map_cons,List.map_nil,List.length_cons,List.length_nil,List.length_map,List.cons_append,List.nil_append,List.append_nil,List.getElem?_cons_zero,List.getElem?_cons_succ,List.take_succ_cons,List.take_zero,List.drop_succ_cons,List.drop_zero,List.drop_nil,↓reduceIte,Bool.and_true,Bool.not_true,Bool.false_eq_true,and_self,Nat.le_refl,reduceCtorEq,Nat.zero_add,Nat.reduceEqDiff,Nat.reduceAdd,Nat.reduceLeDiff,Int.reduceEq,gt_iff_lt,qa5,qaI,hfact,hck,qe6,e1,e2,w1,w2,w3,a1,a2,a3,hdE,qaP L hp,hp,List.map_nil,bne]
 ·have hne : (qcc e == 0) = false := by simpa using hz
  have a1 := fun h => hap 99 0 0 h ⟨by decide,by decide⟩
  have r1 : qeq e 99 0 0 = ([],qcc e) := by unfold qeq; rw [if_neg hz]
  rw [r1] at a1
  dsimp only at a1
  have e1 : (qcc e == qcc e) = true := by simp
  generalize qcc e = r at *
  unfold fn270
  simp -implicitDefEqProofs only [qal,qad,qae,qab,qar,qac,qah,aOp,opd,qai,qam,qaf,qbc,qba,aUn,qak,qcG,qc1,qaJ,qaS,qaQ,qan,qaw,qaF,qb6,qbu,qbi,qbp,qaa,qas,qb9,qax,qau,beq_self_eq_true,Option.map_some,Option.getD_some,List.map_cons,List.map_nil,List.length_cons,List.length_nil,List.cons_append,List.nil_append,List.getElem?_cons_zero,List.getElem?_cons_succ,List.take_zero,List.drop_succ_cons,List.drop_zero,↓reduceIte,Bool.and_true,Bool.not_true,Bool.not_false,Bool.false_eq_true,and_self,reduceCtorEq,Nat.zero_add,Nat.reduceEqDiff,Nat.reduceAdd,Nat.reduceLeDiff,qa5,qaI,hfact,hck,hne,a1,e1,hdE,qaP L hp,hp,List.map_nil,bne]
end
end Go.Abs
