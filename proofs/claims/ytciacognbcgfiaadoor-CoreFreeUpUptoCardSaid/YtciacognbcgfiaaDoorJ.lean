/-
  PARTS OF A PROOF, joined: an abstract machine for quiet code, its evaluation, and what the seat's functions answer on it. Conditions: none.
-/
import Derived.Test.YtciacognbcgfiaaDoorAbsI
import Derived.Laws.MakeOwn
/-
  All operations together, calls among them. Conditions: none.
-/
set_option linter.unusedVariables false
namespace Go.Abs
variable {E : Env} {G : Ghost} {h : Heap} {w : World}
/-- What a run of an operation gives. -/
def Gives (E : Env) (G : Ghost) (h : Heap) (w : World) (s : Sem Next) (va : AVal) (h' : Heap) : Prop :=
  ∃ n w' G' v, s.run E.P w = .ok n w' ∧ (n = .value v ∨ (n = .skip ∧ v = undef)) ∧ Post E G h w G' h' w' ∧ Rep E G' va v
theorem Gives.val {s : Sem Value} {va : AVal} {v : Value} (hi : Inv E G h w) (hr : s.run E.P w = .ok v w) (hv : Rep E G va v) : Gives E G h w (do pure (Next.value (← s))) va h :=
  ⟨_, w, G, v, run_v hr, .inl rfl, Post.refl hi, hv⟩
theorem Gives.valTo {s : Sem Value} {va : AVal} {v : Value} {w' : World} {G' : Ghost} {h' : Heap} (hr : s.run E.P w = .ok v w') (hp : Post E G h w G' h' w') (hv : Rep E G' va v) : Gives E G h w (do pure (Next.value (← s))) va h' :=
  ⟨_, w', G', v, run_v hr, .inl rfl, hp, hv⟩
theorem Gives.unit {s : Sem Unit} {w' : World} {G' : Ghost} {h' : Heap} (hr : s.run E.P w = .ok () w') (hp : Post E G h w G' h' w') : Gives E G h w (do s; pure Next.skip) (.tuple []) h' :=
  ⟨_, w', G', undef, run_u hr, .inr ⟨rfl, rfl⟩, hp, .tuple rfl fun i c v e => by simp at e⟩
theorem stepVal_some {x : Option AVal} {h h' : Heap} {va : AVal} (hr : stepVal x h = some (.val va, h')) : x = some va ∧ h' = h := by
  unfold stepVal at hr
  split at hr
  · simp only [Option.some.injEq, Prod.mk.injEq, ARes.val.injEq] at hr
    exact ⟨by rw [hr.1], hr.2.symm⟩
  · cases hr
theorem stepHeap_some {x : Option Heap} {h' : Heap} {va : AVal} (hr : stepHeap x = some (.val va, h')) : x = some h' ∧ va = .tuple [] := by
  unfold stepHeap at hr
  split at hr
  · simp only [Option.some.injEq, Prod.mk.injEq, ARes.val.injEq] at hr
    exact ⟨by rw [hr.2], hr.1.symm⟩
  · cases hr
theorem repO {tm : Tmps} {a : Act} (hg : GlobOk E G) (ht : RelT E G tm a) (o : Option Operand) : RepO E G ((o.map (cOpd E)).map (opd tm)) (o.map a.eval) := by
  cases o with
  | none => exact ⟨fun _ => rfl, fun v e => by cases e⟩
  | some x => exact ⟨(fun e => by cases e), fun v e => ⟨_, rfl, by simp at e; rw [← e]; exact rep_opd hg ht x⟩⟩
theorem callee_run {P : Program} {w : World} {f : FuncId} {fn : Func} (hf : P.funcs[f]? = some fn) (hn : (fn.name == "runtime.NumGoroutine") = false) (hb : fn.body.isSome = true) (args : Array Value) :
    (callFunc f args).run P w = .ok (.enter f args) w := by
  have hb' : fn.body.isNone = false := by cases hq : fn.body with | none => rw [hq] at hb; cases hb | some c => rfl
  unfold callFunc
  rw [Sem.run_bind, run_program, Result.andThen_ok, hf]
  simp only [hn, hb']
  rfl
theorem cBuild_cases (t : TypeId) (ps : Array (Nat × Operand)) : cBuild E t ps = .stuck ∨ ∃ z qs, cBuild E t ps = .build z qs := by
  unfold cBuild
  repeat' split
  all_goals first | exact .inl rfl | exact .inr ⟨_, _, rfl⟩
theorem cBuildSlice_cases (t : TypeId) (n : Nat) (ps : Array (Nat × Operand)) : cBuildSlice E t n ps = .stuck ∨ ∃ z qs, cBuildSlice E t n ps = .buildSlice z qs := by
  unfold cBuildSlice
  repeat' split
  all_goals first | exact .inl rfl | exact .inr ⟨_, _, rfl⟩
/-- Every operation but a call of a function. -/
theorem leaf_known {v : AVal} (h : leaf v = true) : known v = true := by cases v <;> first | rfl | (simp [leaf] at h)
theorem acells_leaf {v : AVal} (h : leaf v = true) : acells v = [v] := by cases v <;> first | rfl | (simp [leaf] at h)
theorem op_run (hi : Inv E G h w) (hg : GlobOk E G) {tm : Tmps} {a : Act} (ht : RelT E G tm a) (pure : Nat → Bool) (call : CallT) (o : Oper) (hnc : ∀ c f, o.op = .call c → c.callee ≠ .value f) {va : AVal} {h' : Heap}
    (hr : aOp pure call (cOp E o.op) tm h = some (.val va, h')) : Gives E G h w (execOp a.eval o) va h' := by
  obtain ⟨dst, op, type, pos, after, guard⟩ := o
  have hO := fun x => rep_opd hg ht x
  cases op with
  | move x =>
    simp only [cOp, aOp, Option.some.injEq, Prod.mk.injEq, ARes.val.injEq] at hr
    obtain ⟨rfl, rfl⟩ := hr
    exact ⟨_, w, G, _, rfl, .inl rfl, Post.refl hi, hO x⟩
  | assign x =>
    simp only [cOp, aOp, Option.some.injEq, Prod.mk.injEq, ARes.val.injEq] at hr
    obtain ⟨rfl, rfl⟩ := hr
    exact ⟨_, w, G, _, rfl, .inl rfl, Post.refl hi, hO x⟩
  | pick c x y =>
    simp only [cOp, aOp] at hr
    split at hr
    · rename_i b hb
      simp only [Option.some.injEq, Prod.mk.injEq, ARes.val.injEq] at hr
      obtain ⟨rfl, rfl⟩ := hr
      have hc := hO c
      rw [hb] at hc
      generalize hq : a.eval c = vc at hc
      cases hc with
      | bool b =>
        refine ⟨.value (if b then a.eval x else a.eval y), w, G, _, ?_, .inl rfl, Post.refl hi, ?_⟩
        · simp [execOp, hq, asBool]
        · cases b
          · exact hO y
          · exact hO x
    · cases hr
  | alloc t =>
    simp only [cOp] at hr
    split at hr
    · rename_i i hn
      split at hr
      · rename_i z hz
        split at hr
        · rename_i hk
          simp only [aOp, Option.some.injEq, Prod.mk.injEq, ARes.val.injEq] at hr
          obtain ⟨rfl, rfl⟩ := hr
          have hp := post_box hi (acells (ofValue z)) z.cells t ((rep_ofValue E G z).cells (known_ne hk))
          refine Gives.valTo (v := .pointer (some ⟨w.heap.size, 0, none⟩)) ?_ hp (.ptr (by simp [Ghost.withBlk]))
          simp [Instr.alloc, run_zeroT hn hz, newVar, newRow]
        · cases hr
      · cases hr
    · cases hr
  | box t x =>
    simp only [cOp, aOp] at hr
    split at hr
    · cases hr
    · rename_i hj
      simp only [Option.some.injEq, Prod.mk.injEq, ARes.val.injEq] at hr
      obtain ⟨rfl, rfl⟩ := hr
      have hp := post_box hi (acells (opd tm (cOpd E x))) (a.eval x).cells t ((hO x).cells hj)
      refine Gives.valTo (v := .pointer (some ⟨w.heap.size, 0, none⟩)) ?_ hp (.ptr (by simp [Ghost.withBlk]))
      simp [Instr.box, newVar, newRow]
  | build t ps =>
    simp only [cOp] at hr
    rcases cBuild_cases (E := E) t ps with hc | ⟨z, qs, hc⟩
    · rw [hc] at hr; cases hr
    · rw [hc] at hr
      simp only [aOp] at hr
      obtain ⟨h1, rfl⟩ := stepVal_some hr
      obtain ⟨cs, hf, rfl⟩ := Option.map_eq_some_iff.1 h1
      obtain ⟨v, h2, h3⟩ := build_run (w := w) hg ht hc hf
      exact Gives.val hi h2 h3
  | buildSlice t n ps =>
    simp only [cOp] at hr
    rcases cBuildSlice_cases (E := E) t n ps with hc | ⟨sz, qs, hc⟩
    · rw [hc] at hr; cases hr
    · rw [hc] at hr
      simp only [aOp] at hr
      split at hr
      · rename_i hl
        simp only [Option.some.injEq, Prod.mk.injEq, ARes.val.injEq] at hr
        obtain ⟨rfl, rfl⟩ := hr
        obtain ⟨v, w', G', h2, h3, h4⟩ := buildSlice_run hi hg ht hc hl
        exact Gives.valTo h2 h3 h4
      · cases hr
  | load t x =>
    simp only [cOp, cLoad] at hr
    split at hr
    · rename_i d i hd hn
      split at hr
      · rename_i ha
        simp only [aOp] at hr
        obtain ⟨h1, rfl⟩ := stepVal_some hr
        obtain ⟨cs, hf, rfl⟩ := Option.map_eq_some_iff.1 h1
        obtain ⟨v, h2, h3⟩ := loadN_run hi (hO x) hd hn ha hf
        exact Gives.val hi h2 h3
      · rename_i ha
        simp only [aOp] at hr
        obtain ⟨h1, rfl⟩ := stepVal_some hr
        obtain ⟨v, h2, h3⟩ := load1_run hi (hO x) hd (by simpa using ha) h1
        exact Gives.val hi h2 h3
    · cases hr
  | store t x y =>
    simp only [cOp, cStore] at hr
    split at hr
    · rename_i i hn
      simp only [aOp] at hr
      obtain ⟨h1, rfl⟩ := stepHeap_some hr
      obtain ⟨w', h2, h3⟩ := store_run hi (hO x) (hO y) hn h1
      exact Gives.unit h2 h3
    · cases hr
  | nilCheck x =>
    simp only [cOp, aOp] at hr
    have hx := hO x
    split at hr
    · rename_i p hp
      simp only [Option.some.injEq, Prod.mk.injEq, ARes.val.injEq] at hr
      obtain ⟨rfl, rfl⟩ := hr
      rw [hp] at hx
      generalize hq : a.eval x = vx at hx
      cases hx with
      | ptr hb => exact ⟨_, w, G, _, by simp only [execOp, hq]; rfl, .inl rfl, Post.refl hi, .ptr hb⟩
    · rename_i cs n hp
      simp only [Option.some.injEq, Prod.mk.injEq, ARes.val.injEq] at hr
      obtain ⟨rfl, rfl⟩ := hr
      rw [hp] at hx
      generalize hq : a.eval x = vx at hx
      cases hx with
      | vptr vs hl hf hrr => exact ⟨_, w, G, _, by simp only [execOp, hq]; rfl, .inl rfl, Post.refl hi, .vptr vs hl hf hrr⟩
    · rename_i f p q hp
      simp only [Option.some.injEq, Prod.mk.injEq, ARes.val.injEq] at hr
      obtain ⟨rfl, rfl⟩ := hr
      rw [hp] at hx
      generalize hq : a.eval x = vx at hx
      cases hx with
      | func hk hla hlb ha hb => exact ⟨_, w, G, _, by simp only [execOp, hq]; rfl, .inl rfl, Post.refl hi, .func hk hla hlb ha hb⟩
    · cases hr
  | binOp op t x y u =>
    simp only [cOp, aOp] at hr
    obtain ⟨h1, rfl⟩ := stepVal_some hr
    obtain ⟨v, h2, h3⟩ := bin_run op t x y (hO x) (hO y) h1
    exact Gives.val hi h2 h3
  | unOp op t x =>
    simp only [cOp, aOp] at hr
    obtain ⟨h1, rfl⟩ := stepVal_some hr
    obtain ⟨v, h2, h3⟩ := un_run op (hO x) h1
    exact Gives.val hi h2 h3
  | convert src dst x =>
    simp only [cOp, cConv] at hr
    have hx := hO x
    split at hr
    · rename_i ds k hs hd
      simp only [aOp] at hr
      split at hr
      · rename_i k' n hp
        simp only [Option.some.injEq, Prod.mk.injEq, ARes.val.injEq] at hr
        obtain ⟨rfl, rfl⟩ := hr
        rw [hp] at hx
        generalize hq : a.eval x = vx at hx
        cases hx with
        | int k' n =>
          refine Gives.val hi (v := .int k (k.wrap n)) ?_ (.int _ _)
          rw [hq]
          simp [convert, run_underlying hs, run_underlying hd, Conv.intToInt]
      · cases hr
    · rename_i hs hd
      simp only [aOp] at hr
      split at hr
      · rename_i s hp
        simp only [Option.some.injEq, Prod.mk.injEq, ARes.val.injEq] at hr
        obtain ⟨rfl, rfl⟩ := hr
        rw [hp] at hx
        generalize hq : a.eval x = vx at hx
        cases hx with
        | str s =>
          refine Gives.val hi (v := .string s) ?_ (.str _)
          rw [hq]
          simp [convert, run_underlying hs, run_underlying hd]
      · cases hr
    · cases hr
  | makeInterface t x =>
    simp only [cOp] at hr
    split at hr
    · cases hr
    · rename_i d k hni hd hk
      simp only [aOp, Option.some.injEq, Prod.mk.injEq, ARes.val.injEq] at hr
      obtain ⟨rfl, rfl⟩ := hr
      refine Gives.val hi (v := .iface t (a.eval x)) ?_ (.iface hk (hO x))
      cases d <;> first | exact (hni _ rfl).elim | simp [Instr.makeInterface, run_underlying hd]
    · cases hr
  | makeFunc fn first cap =>
    cases fn with
    | func f =>
      simp only [cOp] at hr
      split at hr
      · rename_i k hk
        simp only [aOp, Option.some.injEq, Prod.mk.injEq, ARes.val.injEq] at hr
        obtain ⟨rfl, rfl⟩ := hr
        have h1 := rep_opds hg ht first
        have h2 := rep_opds hg ht cap
        refine Gives.val hi (v := .func (.func f) (first.map a.eval) (cap.map a.eval)) rfl (.func hk (by simpa using h1.len) (by simpa using h2.len) (fun i c v e e' => h1.rep i c v e (by simpa using e')) (fun i c v e e' => h2.rep i c v e (by simpa using e')))
      · cases hr
    | _ => cases hr
  | makeSlice t l c =>
    simp only [cOp] at hr
    unfold cMake at hr
    split at hr
    · rename_i e htu
      split at hr
      · rename_i i hn
        split at hr
        · rename_i z hz
          split at hr
          · rename_i hc
            obtain ⟨c1, c2, c3, c4⟩ := hc
            simp only [aOp] at hr
            split at hr
            · rename_i kl na kc nb hl hcc
              split at hr
              · rename_i hab
                obtain ⟨h0, h1, h2⟩ := hab
                simp only [Option.some.injEq, Prod.mk.injEq, ARes.val.injEq] at hr
                obtain ⟨rfl, rfl⟩ := hr
                have rl := hO l
                have rc := hO c
                rw [hl] at rl
                rw [hcc] at rc
                generalize hvl : a.eval l = vl at rl
                generalize hvc : a.eval c = vc at rc
                cases rl
                cases rc
                have hbb : (i.bytes : Int) * nb ≤ 281474976710656 := by
                  have q1 : (i.bytes : Int) ≤ 4096 := by omega
                  have q2 : (i.bytes : Int) * nb ≤ 4096 * 1073741824 := Int.mul_le_mul q1 h2 (by omega) (by omega)
                  omega
                have hrun := run_make (P := E.P) w t e i z htu hn hz kl kc na nb h0 h1 hbb (by omega)
                have hz1 : RepL E G [ofValue z] z.cells.toList := by
                  have := (rep_ofValue E G z).cells (known_ne (leaf_known c4))
                  rwa [acells_leaf c4] at this
                obtain ⟨zc, hzc⟩ : ∃ zc, z.cells = #[zc] := by
                  have hsz := c2
                  generalize z.cells = zz at hsz
                  obtain ⟨ll⟩ := zz
                  match ll, hsz with
                  | [x], _ => exact ⟨x, rfl⟩
                have hrz : Rep E G (ofValue z) zc := by
                  rw [hzc] at hz1
                  exact hz1.rep 0 _ _ rfl rfl
                have hmade : ∀ (n j : Nat) (v : Value), (madeCells z.cells n).toList[j]? = some v → v = zc := by
                  intro n j v e
                  rw [hzc] at e
                  unfold madeCells at e
                  rw [Array.getElem?_toList, Array.getElem?_map] at e
                  obtain ⟨q, _, rfl⟩ := Option.map_eq_some_iff.1 e
                  have : q % (#[zc] : Array Value).size = 0 := by simp [Nat.mod_one]
                  rw [this]
                  rfl
                have hsz : (madeCells z.cells (nb.toNat * i.size)).size = nb.toNat * 1 := by rw [size_madeCells, c1]
                have hL : (madeCells z.cells (nb.toNat * i.size)).toList.length = nb.toNat * 1 := by rw [← hsz]; exact Array.length_toList
                have hp := post_vec_new hi (List.replicate na.toNat (ofValue z)) (madeCells z.cells (nb.toNat * i.size)) e nb.toNat na.toNat 1 hsz (by rw [List.length_replicate, hsz]; omega)
                  ⟨by rw [List.length_take, hL, List.length_replicate]; omega, fun j c v e1 e2 => by
                    rw [List.getElem?_take] at e2
                    split at e2
                    · rw [hmade _ j v e2]
                      rw [List.getElem?_replicate] at e1
                      split at e1
                      · injection e1 with e1
                        rw [← e1]
                        exact hrz
                      · cases e1
                    · cases e2⟩
                refine Gives.valTo (v := .slice (some ⟨w.heap.size, 0, none⟩) na.toNat nb.toNat) ?_ hp (.vec (cap := nb.toNat) (sz := 1) (b := w.heap.size) (by simp [Ghost.withVec]) (by simp [Ghost.withVec]) (by omega))
                rw [hvl, hvc]
                exact hrun
              · cases hr
            · cases hr
          · cases hr
        · cases hr
      · cases hr
    · cases hr
  | makeMap t r =>
    cases r with
    | none =>
      simp only [cOp, aOp, Option.some.injEq, Prod.mk.injEq, ARes.val.injEq] at hr
      obtain ⟨rfl, rfl⟩ := hr
      refine Gives.valTo (v := .map (some w.heap.size)) ?_ (post_map hi) (.map (by simp [Ghost.withBlk]))
      simp [Instr.makeMap]
    | some r => cases hr
  | slice t x lo hb mx =>
    simp only [cOp] at hr
    unfold cSlice at hr
    split at hr
    · rename_i hd
      split at hr
      · rename_i hm
        simp only [aOp] at hr
        obtain ⟨h1, rfl⟩ := stepVal_some hr
        have hmn : mx = none := by simpa using hm
        subst hmn
        obtain ⟨v, h2, h3⟩ := sliceStr_run (w := w) (hO x) hd (repO hg ht lo) (repO hg ht hb) h1
        exact Gives.val hi h2 h3
      · cases hr
    · rename_i e hd
      split at hr
      · rename_i j hn
        split at hr
        · rename_i hj
          simp only [aOp] at hr
          obtain ⟨h1, rfl⟩ := stepVal_some hr
          have hx := hO x
          generalize hav : opd tm (cOpd E x) = av at hx h1
          cases av with
          | list xs own =>
            obtain ⟨v, h2, h3⟩ := sliceList_run hi hx hd hn hj (repO hg ht lo) (repO hg ht hb) (repO hg ht mx) h1
            exact Gives.val hi h2 h3
          | ref id off len =>
            obtain ⟨v, h2, h3⟩ := sliceRef_run hi hx hd hn (repO hg ht lo) (repO hg ht hb) (repO hg ht mx) h1
            exact Gives.val hi h2 h3
          | _ => simp [aSlice] at h1
        · cases hr
      · cases hr
    · cases hr
  | fieldAddr s x k =>
    simp only [cOp, cField] at hr
    split at hr
    · rename_i fs hd
      split at hr
      · rename_i f hf
        split at hr
        · rename_i i hn
          split at hr
          · cases hr
          · rename_i h0
            simp only [aOp] at hr
            obtain ⟨h1, rfl⟩ := stepVal_some hr
            obtain ⟨v, h2, h3⟩ := field_run (w := w) (hO x) hd hf hn h0 h1
            exact Gives.val hi h2 h3
        · cases hr
      · cases hr
    · cases hr
  | field s x k =>
    simp only [cOp, cFieldVal] at hr
    split at hr
    · rename_i fs hd
      split at hr
      · rename_i f hf
        split at hr
        · rename_i d i hdt hn
          split at hr
          · rename_i ha
            simp only [aOp] at hr
            obtain ⟨h1, rfl⟩ := stepVal_some hr
            obtain ⟨v, h2, h3⟩ := fieldVal_run (w := w) (hO x) hd hf hdt hn (r := va) (by rw [if_pos ha]; exact h1)
            exact Gives.val hi h2 h3
          · rename_i ha
            simp only [aOp] at hr
            obtain ⟨h1, rfl⟩ := stepVal_some hr
            obtain ⟨v, h2, h3⟩ := fieldVal_run (w := w) (hO x) hd hf hdt hn (r := va) (by rw [if_neg ha]; exact h1)
            exact Gives.val hi h2 h3
        · cases hr
      · cases hr
    · cases hr
  | indexAddr t x y =>
    simp only [cOp, cIndexAddr] at hr
    split at hr
    · rename_i e hd
      split at hr
      · rename_i j hn
        simp only [aOp] at hr
        obtain ⟨h1, rfl⟩ := stepVal_some hr
        obtain ⟨v, h2, h3⟩ := indexList_run (w := w) (hO x) (hO y) hd hn h1
        exact Gives.val hi h2 h3
      · cases hr
    · rename_i n e hd
      split at hr
      · rename_i j hn
        simp only [aOp] at hr
        obtain ⟨h1, rfl⟩ := stepVal_some hr
        obtain ⟨v, h2, h3⟩ := indexArr_run (w := w) (hO x) (hO y) hd hn h1
        exact Gives.val hi h2 h3
      · cases hr
    · cases hr
  | index t x y =>
    simp only [cOp, cIndex] at hr
    split at hr
    · rename_i hd
      simp only [aOp] at hr
      obtain ⟨h1, rfl⟩ := stepVal_some hr
      obtain ⟨v, h2, h3⟩ := indexStr_run (w := w) (hO x) (hO y) hd h1
      exact Gives.val hi h2 h3
    · cases hr
  | lookup t m k ok =>
    simp only [cOp, cLookup] at hr
    split at hr
    · rename_i kt et hd
      split at hr
      · rename_i kk i hkk hn
        split at hr
        · rename_i z hz
          simp only [aOp] at hr
          obtain ⟨h1, rfl⟩ := stepVal_some hr
          obtain ⟨d, hdd, _⟩ := keyOf_some hkk
          rw [hdd] at hkk
          obtain ⟨v, h2, h3⟩ := lookup_run hi (hO m) (hO k) hd hdd hkk hn hz ok h1
          exact Gives.val hi h2 h3
        · cases hr
      · cases hr
    · cases hr
  | mapUpdate t m k v =>
    simp only [cOp, cMapUpdate] at hr
    split at hr
    · rename_i kt et hd
      split at hr
      · rename_i kk hkk
        simp only [aOp] at hr
        obtain ⟨h1, rfl⟩ := stepHeap_some hr
        obtain ⟨d, hdd, _⟩ := keyOf_some hkk
        rw [hdd] at hkk
        obtain ⟨w', h2, h3⟩ := mapUpdate_run hi (hO m) (hO k) (hO v) hd hdd hkk h1
        exact Gives.unit h2 h3
      · cases hr
    · cases hr
  | insert t m k v =>
    simp only [cOp, cMapUpdate] at hr
    split at hr
    · rename_i kt et hd
      split at hr
      · rename_i kk hkk
        simp only [aOp] at hr
        obtain ⟨h1, rfl⟩ := stepHeap_some hr
        obtain ⟨d, hdd, _⟩ := keyOf_some hkk
        rw [hdd] at hkk
        obtain ⟨w', h2, h3⟩ := mapUpdate_run hi (hO m) (hO k) (hO v) hd hdd hkk h1
        exact Gives.unit h2 h3
      · cases hr
    · cases hr
  | extract x i =>
    simp only [cOp, aOp] at hr
    have hx := hO x
    split at hr
    · rename_i vs hp
      obtain ⟨h1, rfl⟩ := stepVal_some hr
      rw [hp] at hx
      generalize hq : a.eval x = vx at hx
      cases hx with
      | @tuple _ us hl hrr =>
        have hlt : i < us.size := by rw [hl]; exact (List.getElem?_eq_some_iff.1 h1).1
        have hu : us[i]? = some us[i] := Array.getElem?_eq_getElem hlt
        refine Gives.val hi (v := us[i]) ?_ (hrr i va _ h1 hu)
        rw [hq]
        simp [Instr.extract, hu]
    · cases hr
  | call c =>
    obtain ⟨callee, args, ats⟩ := c
    have hA := rep_opds hg ht args
    cases callee with
    | value f => exact absurd rfl (hnc _ f rfl)
    | invoke r m => cases hr
    | builtin b =>
      cases b with
      | len =>
        simp only [cOp, cCall] at hr
        split at hr
        · rename_i t x ht1 hx1
          split at hr
          · rename_i k hk
            simp only [aOp] at hr
            obtain ⟨h1, rfl⟩ := stepVal_some hr
            have hats : ats = #[t] := by rw [← Array.toArray_toList (xs := ats), ht1]
            have hargs : args = #[x] := by rw [← Array.toArray_toList (xs := args), hx1]
            subst hats hargs
            obtain ⟨v, h2, h3⟩ := len_run hi (hO x) type hk h1
            exact ⟨.value v, w, G, v, by simp [execOp, resolve, invoke, builtin, h2], .inl rfl, Post.refl hi, h3⟩
          · cases hr
        · cases hr
      | append =>
        simp only [cOp, cCall] at hr
        split at hr
        · rename_i t u x y ht1 hx1
          have hats : ats = #[t, u] := by rw [← Array.toArray_toList (xs := ats), ht1]
          have hargs : args = #[x, y] := by rw [← Array.toArray_toList (xs := args), hx1]
          subst hats hargs
          unfold cAppend at hr
          split at hr
          · rename_i e e2 htu htu2
            split at hr
            · rename_i i hn
              split at hr
              · rename_i z hz
                split at hr
                · rename_i hc
                  obtain ⟨c1, c2, c3, c4, rfl⟩ := hc
                  simp only [aOp] at hr
                  split at hr
                  · rename_i v' h1' hap
                    simp only [Option.some.injEq, Prod.mk.injEq, ARes.val.injEq] at hr
                    obtain ⟨rfl, rfl⟩ := hr
                    obtain ⟨v, w', G', h2, h3, h4⟩ := append_run hi type htu hn hz c1 c2 c3 c4 (hO x) (hO y) hap
                    exact ⟨.value v, w', G', v, by simp [execOp, resolve, invoke, builtin, h2], .inl rfl, h3, h4⟩
                  · cases hr
                · cases hr
              · cases hr
            · cases hr
          · cases hr
        · cases hr
      | max =>
        simp only [cOp, cCall, aOp] at hr
        obtain ⟨h1, rfl⟩ := stepVal_some hr
        obtain ⟨v, h2, h3⟩ := minMax_run (w := w) true ats type hA h1
        exact ⟨.value v, w, G, v, by simp at h2; simp [execOp, resolve, invoke, builtin, h2], .inl rfl, Post.refl hi, h3⟩
      | min =>
        simp only [cOp, cCall, aOp] at hr
        obtain ⟨h1, rfl⟩ := stepVal_some hr
        obtain ⟨v, h2, h3⟩ := minMax_run (w := w) false ats type hA h1
        exact ⟨.value v, w, G, v, by simp at h2; simp [execOp, resolve, invoke, builtin, h2], .inl rfl, Post.refl hi, h3⟩
      | _ => cases hr
  | _ => cases hr
/-- The first append of a list that is written later. -/
theorem opV_run (hi : Inv E G h w) (hg : GlobOk E G) {tm : Tmps} {a : Act} (ht : RelT E G tm a) (o : Oper) {sz bytes : Nat} {x y : Opd} (ho : cOp E o.op = .append sz bytes x y) {va : AVal} {h' : Heap}
    (hr : aAppendV h sz (opd tm x) (opd tm y) = some (va, h')) : Gives E G h w (execOp a.eval o) va h' := by
  obtain ⟨dst, op, type, pos, after, guard⟩ := o
  have hO := fun x => rep_opd hg ht x
  cases op with
  | call c =>
    obtain ⟨callee, args, ats⟩ := c
    cases callee with
    | value f =>
      simp only [cOp, cCall] at ho
      unfold cCallV at ho
      repeat' (first | split at ho | cases ho)
    | invoke r m => cases ho
    | builtin b =>
      cases b with
      | append =>
        simp only [cOp, cCall] at ho
        split at ho
        · rename_i t u x' y' ht1 hx1
          have hats : ats = #[t, u] := by rw [← Array.toArray_toList (xs := ats), ht1]
          have hargs : args = #[x', y'] := by rw [← Array.toArray_toList (xs := args), hx1]
          subst hats hargs
          unfold cAppend at ho
          split at ho
          · rename_i e e2 htu htu2
            split at ho
            · rename_i i hn
              split at ho
              · rename_i z hz
                split at ho
                · rename_i hc
                  obtain ⟨c1, c2, c3, c4, rfl⟩ := hc
                  simp only [AOp.append.injEq] at ho
                  obtain ⟨rfl, rfl, rfl, rfl⟩ := ho
                  obtain ⟨v, w', G', h2, h3, h4⟩ := appendV_run hi type htu hn hz c1 c2 c3 c4 (hO x') (hO y') hr
                  exact ⟨.value v, w', G', v, by simp [execOp, resolve, invoke, builtin, h2], .inl rfl, h3, h4⟩
                · cases ho
              · cases ho
            · cases ho
          · cases ho
        · cases ho
      | _ => simp only [cOp, cCall] at ho; repeat' (first | split at ho | cases ho)
  | build t ps => simp only [cOp] at ho; rcases cBuild_cases (E := E) t ps with hc | ⟨z, qs, hc⟩ <;> rw [hc] at ho <;> cases ho
  | buildSlice t n ps => simp only [cOp] at ho; rcases cBuildSlice_cases (E := E) t n ps with hc | ⟨z, qs, hc⟩ <;> rw [hc] at ho <;> cases ho
  | makeFunc fn x y => cases fn <;> simp only [cOp] at ho <;> (repeat' (first | split at ho | cases ho))
  | makeMap t x => cases x <;> cases ho
  | _ =>
    simp only [cOp] at ho
    first
      | (cases ho; done)
      | (first | unfold cLoad at ho | unfold cStore at ho | unfold cConv at ho | unfold cSlice at ho | unfold cField at ho | unfold cFieldVal at ho | unfold cIndexAddr at ho | unfold cIndex at ho | unfold cLookup at ho | unfold cMapUpdate at ho | unfold cMake at ho | skip
         repeat' (first | split at ho | cases ho))
end Go.Abs
/-
  Views: what is known of the heap, as data, as long as nobody writes. Conditions: none.
-/
set_option linter.unusedVariables false
namespace Go.Abs
variable {E : Env} {G : Ghost} {h : Heap} {w : World}
theorem chunk_length (sz : Nat) : ∀ (m : Nat) (cs : List AVal), (chunkA sz m cs).length = m
  | 0, _ => rfl
  | m + 1, cs => by rw [chunkA, List.length_cons, chunk_length sz m]
theorem chunk_cells (sz : Nat) : ∀ (m : Nat) (cs : List AVal), m * sz = cs.length → (chunkA sz m cs).flatMap acells = cs ∧ ∀ x ∈ chunkA sz m cs, (acells x).length = sz
  | 0, cs, h => by
    have : cs = [] := List.eq_nil_of_length_eq_zero (by rw [← h, Nat.zero_mul])
    subst this
    exact ⟨rfl, fun x hx => by cases hx⟩
  | m + 1, cs, h => by
    rw [Nat.succ_mul] at h
    obtain ⟨h1, h2⟩ := chunk_cells sz m (cs.drop sz) (by rw [List.length_drop]; omega)
    refine ⟨?_, fun x hx => ?_⟩
    · rw [chunkA, List.flatMap_cons, h1]
      exact List.take_append_drop sz cs
    · rcases List.mem_cons.1 hx with rfl | hx
      · show (cs.take sz).length = sz
        rw [List.length_take]
        omega
      · exact h2 x hx
theorem leaf_cells : ∀ {cs : List AVal}, cs.all leaf = true → cs.flatMap acells = cs
  | [], _ => rfl
  | c :: cs, h => by
    rw [List.all_cons, Bool.and_eq_true] at h
    rw [List.flatMap_cons, acells_leaf h.1, leaf_cells h.2]
    rfl
open Classical in
/-- All objects fixed. -/
noncomputable def viewG (G : Ghost) (h : Heap) (w : World) : Ghost :=
  { G with fix := fun b o => match G.fix b o with
    | some v => some v
    | none => if Own G h b then (match w.cell? ⟨b, o, none⟩ with | some v => if v.oneCell' = true then some v else none | none => none) else none }
theorem viewG_old {b o : Nat} {v : Value} (e : G.fix b o = some v) : (viewG G h w).fix b o = some v := by
  simp only [viewG, e]
theorem viewG_cases {b o : Nat} {v : Value} (e : (viewG G h w).fix b o = some v) : G.fix b o = some v ∨ (Own G h b ∧ w.cell? ⟨b, o, none⟩ = some v ∧ v.oneCell' = true) := by
  simp only [viewG] at e
  split at e
  · rename_i x hx
    exact .inl (by rw [hx, e])
  · split at e
    · rename_i ho
      split at e
      · rename_i x hx
        split at e
        · rename_i h1
          injection e with e
          subst e
          exact .inr ⟨ho, hx, h1⟩
        · cases e
      · cases e
    · cases e
theorem viewG_new {b : Nat} (hn : ∀ q, G.fix b q = none) (ho : Own G h b) {o : Nat} {v : Value} (hc : w.cell? ⟨b, o, none⟩ = some v) (h1 : v.oneCell' = true) : (viewG G h w).fix b o = some v := by
  simp only [viewG, hn o, ho, if_true, hc, h1]
theorem viewG_le : G.le (viewG G h w) := ⟨fun b o v e => viewG_old e, fun _ _ e => e, fun _ _ _ e => e⟩
theorem acells_view_na {v : AVal} (hl : ∀ cs, v ≠ .agg cs) (n : Nat) : acells (view1 h n v) = [view1 h n v] := by
  have hv : acells v = [v] := by cases v <;> first | rfl | exact absurd rfl (hl _)
  cases n with
  | zero =>
    rw [view1]
    split
    · exact hv
    · rfl
  | succ n =>
    rw [view1]
    split
    · exact hv
    · unfold viewStep
      cases v with
      | agg cs => exact absurd rfl (hl _)
      | ptr a => (try dsimp only); cases a <;> (try dsimp only) <;> repeat' (first | rfl | split)
      | vec a b => dsimp only; split <;> repeat' (first | rfl | split)
      | list xs o => dsimp only; split <;> repeat' (first | rfl | split)
      | _ => rfl
theorem acells_view {v : AVal} (hl : leaf v = true) (n : Nat) : acells (view1 h n v) = [view1 h n v] :=
  acells_view_na (fun cs hx => by rw [hx] at hl; simp [leaf] at hl) n
theorem view_flat {cs : List AVal} (hl : cs.all leaf = true) (n : Nat) : (cs.map (view1 h n)).flatMap acells = cs.map (view1 h n) := by
  induction cs with
  | nil => rfl
  | cons c cs ih =>
    rw [List.all_cons, Bool.and_eq_true] at hl
    rw [List.map_cons, List.flatMap_cons, acells_view hl.1, ih hl.2]
    rfl
/-- The cells of a list's view. -/
theorem view_cell (n : Nat) (ih : ∀ m, m ≤ n → ∀ {a : AVal} {v : Value}, Rep E G a v → Rep E (viewG G h w) (view1 h m a) v) (x : AVal) {vs : List Value}
    (hr : ∀ (i : Nat) (c : AVal) (v : Value), (acells x)[i]? = some c → vs[i]? = some v → Rep E G c v) (i : Nat) (c : AVal) (v : Value) (e : (acells (view1 h n x))[i]? = some c) (e' : vs[i]? = some v) : Rep E (viewG G h w) c v := by
  by_cases hd : isData x = true
  · have hv : view1 h n x = x := by cases n <;> rw [view1, if_pos hd]
    rw [hv] at e
    exact (hr i c v e e').mono viewG_le
  · by_cases hagg : ∃ cs, x = .agg cs
    · obtain ⟨cs, rfl⟩ := hagg
      cases n with
      | zero =>
        rw [view1, if_neg hd] at e
        have : c = .junk := by
          cases i with
          | zero => simp [acells] at e; exact e.symm
          | succ i => simp [acells] at e
        rw [this]
        exact .junk v
      | succ n =>
        rw [view1, if_neg hd] at e
        have e2 : (cs.map (view1 h n))[i]? = some c := e
        rw [List.getElem?_map] at e2
        obtain ⟨c0, h0, rfl⟩ := Option.map_eq_some_iff.1 e2
        exact ih n (by omega) (hr i c0 v h0 e')
    · have hna : ∀ cs, x ≠ .agg cs := fun cs hx => hagg ⟨cs, hx⟩
      have hx1 : acells x = [x] := by cases x <;> first | rfl | exact absurd rfl (hna _)
      rw [acells_view_na hna] at e
      rw [hx1] at hr
      cases i with
      | zero =>
        simp at e
        rw [← e]
        exact ih n (Nat.le_refl _) (hr 0 x v rfl e')
      | succ i => simp at e
theorem view_cells (n : Nat) (ih : ∀ m, m ≤ n → ∀ {a : AVal} {v : Value}, Rep E G a v → Rep E (viewG G h w) (view1 h m a) v) : ∀ (xs : List AVal), (∀ x ∈ xs, (acells (view1 h n x)).length = (acells x).length) → ∀ {vs : List Value},
    (∀ (i : Nat) (c : AVal) (v : Value), (xs.flatMap acells)[i]? = some c → vs[i]? = some v → Rep E G c v) → ((xs.map (view1 h n)).flatMap acells).length = (xs.flatMap acells).length ∧
      ∀ (i : Nat) (c : AVal) (v : Value), ((xs.map (view1 h n)).flatMap acells)[i]? = some c → vs[i]? = some v → Rep E (viewG G h w) c v
  | [], _, vs, hr => ⟨rfl, fun i c v e => by simp at e⟩
  | x :: xs, hlen, vs, hr => by
    have hx := hlen x (by simp)
    obtain ⟨h1, h2⟩ := view_cells n ih xs (fun y hy => hlen y (by simp [hy])) (vs := vs.drop (acells x).length) (fun i c v e e' => by
      rw [List.getElem?_drop] at e'
      refine hr _ c v ?_ e'
      rw [List.flatMap_cons, List.getElem?_append_right (by omega), Nat.add_sub_cancel_left]
      exact e)
    refine ⟨by simp only [List.map_cons, List.flatMap_cons, List.length_append, hx, h1], fun i c v e e' => ?_⟩
    rw [List.map_cons, List.flatMap_cons] at e
    by_cases hi : i < (acells (view1 h n x)).length
    · rw [List.getElem?_append_left hi] at e
      refine view_cell n ih x (vs := vs) (fun i c v e e' => hr i c v ?_ e') i c v e e'
      rw [List.flatMap_cons, List.getElem?_append_left (List.getElem?_eq_some_iff.1 e).1]
      exact e
    · rw [List.getElem?_append_right (by omega)] at e
      refine h2 _ c v e ?_
      rw [List.getElem?_drop, ← e']
      congr 1
      omega
/-- What a view says is so. -/
theorem Rep.view (hi : Inv E G h w) : ∀ (n : Nat) {a : AVal} {v : Value}, Rep E G a v → Rep E (viewG G h w) (view1 h n a) v := by
  have hle : G.le (viewG G h w) := viewG_le
  intro n
  induction n using Nat.strongRecOn with
  | ind n0 ih0 =>
  intro a v hr
  cases n0 with
  | zero =>
    rw [view1]
    split
    · exact hr.mono hle
    · exact .junk _
  | succ n =>
    have ihs : ∀ m, m ≤ n → ∀ {a : AVal} {v : Value}, Rep E G a v → Rep E (viewG G h w) (view1 h m a) v := fun m hm {a v} hr => ih0 m (by omega) hr
    have ih : ∀ {a : AVal} {v : Value}, Rep E G a v → Rep E (viewG G h w) (view1 h n a) v := fun {a v} hr => ih0 n (by omega) hr
    rw [view1]
    split
    · exact hr.mono hle
    · have hmap : ∀ {cs : List AVal} {vs : List Value}, (∀ (i : Nat) (c : AVal) (v : Value), cs[i]? = some c → vs[i]? = some v → Rep E G c v) → ∀ (i : Nat) (c : AVal) (v : Value), (cs.map (view1 h n))[i]? = some c → vs[i]? = some v → Rep E (viewG G h w) c v := by
        intro cs vs hrr i c v e e'
        rw [List.getElem?_map] at e
        obtain ⟨c0, h0, rfl⟩ := Option.map_eq_some_iff.1 e
        exact ih (hrr i c0 v h0 e')
      have hmapA : ∀ {cs : List AVal} {vs : Array Value}, (∀ (i : Nat) (c : AVal) (v : Value), cs[i]? = some c → vs[i]? = some v → Rep E G c v) → ∀ (i : Nat) (c : AVal) (v : Value), (cs.map (view1 h n))[i]? = some c → vs[i]? = some v → Rep E (viewG G h w) c v := by
        intro cs vs hrr i c v e e'
        rw [List.getElem?_map] at e
        obtain ⟨c0, h0, rfl⟩ := Option.map_eq_some_iff.1 e
        exact ih (hrr i c0 v h0 e')
      unfold viewStep
      split
      · -- a pointer
        rename_i kk off _
        split
        · rename_i cs hcs
          split
          · rename_i hlf
            cases hr with
            | ptr hb =>
              rename_i b
              obtain ⟨b', vs, t, h1, h2, h3, h4⟩ := hi.obj _ _ hcs
              have hbb : b' = b := by rw [hb] at h1; injection h1 with h1; exact h1.symm
              subst hbb
              have hown : Own G h b' := ⟨_, _, hcs, h1⟩
              refine .vptr_at (o := 0) vs.toList (by simpa using h3.len) (fun i v e => ?_) (hmap h3.rep) (Nat.zero_add _).symm
              rw [Nat.zero_add]
              have hil : i < cs.length := by have := (List.getElem?_eq_some_iff.1 e).1; have := h3.len; omega
              refine viewG_new h4 hown ?_ ((h3.rep i _ v (List.getElem?_eq_getElem hil) e).oneCell ((List.all_eq_true.1 hlf) _ (List.getElem_mem hil)))
              unfold World.cell?
              rw [h2]
              dsimp only
              rw [if_neg (by simp)]
              simpa using e
          · exact .junk _
        · exact .junk _
      · -- a slice that grows
        rename_i kk m _
        split
        · rename_i cs sz hcs
          split
          · rename_i hlf
            cases hr with
            | @vec _ _ cap szr b hb ht hn =>
              obtain ⟨b', cap', vs, t, h1, h2, h3, h4, h5, h6, h7⟩ := hi.obj _ _ hcs
              have hbb : b' = b := by rw [hb] at h1; injection h1 with h1; exact h1.symm
              subst hbb
              have hown : Own G h b' := ⟨_, _, hcs, h1⟩
              have hfx : ∀ (i : Nat) (v : Value), (vs.toList.take cs.length)[i]? = some v → (viewG G h w).fix b' i = some v := by
                intro i v e
                have hil : i < cs.length := by
                  have := (List.getElem?_eq_some_iff.1 e).1
                  rw [List.length_take] at this
                  omega
                refine viewG_new h6 hown ?_ ((h5.rep i _ v (List.getElem?_eq_getElem hil) e).oneCell ((List.all_eq_true.1 hlf) _ (List.getElem_mem hil)))
                unfold World.cell?
                rw [h2]
                dsimp only
                rw [if_neg (by simp)]
                rw [List.getElem?_take_of_lt hil] at e
                simpa using e
              have hat : ∀ xs : List AVal, xs ≠ [] → ∃ b1 o, some (⟨b', 0, none⟩ : Addr) = some ⟨b1, o, none⟩ ∧ ∀ (i : Nat) (v : Value), (vs.toList.take cs.length)[i]? = some v → (viewG G h w).fix b1 (o + i) = some v := fun xs _ => ⟨b', 0, rfl, fun i v e => by rw [Nat.zero_add]; exact hfx i v e⟩
              have hfl := view_flat (h := h) hlf n
              split
              · rename_i hc
                obtain ⟨_, rfl⟩ := hc
                refine .list 1 (vs.toList.take cs.length) (by simp) hn (fun x hx => ?_) (hat _) (by rw [hfl]; simpa using h5.len) (fun i c v e e' => by rw [hfl] at e; exact hmap h5.rep i c v e e') trivial
                obtain ⟨c, hc, rfl⟩ := List.mem_map.1 hx
                rw [acells_view ((List.all_eq_true.1 hlf) c hc)]
                rfl
              · split
                · rename_i hc
                  obtain ⟨_, hc⟩ := hc
                  obtain ⟨g1, g2⟩ := chunk_cells sz m (cs.map (view1 h n)) (by simpa using hc)
                  refine .list sz (vs.toList.take cs.length) (chunk_length sz m _).symm hn g2 (hat _) (by rw [g1]; simpa using h5.len) (fun i c v e e' => by rw [g1] at e; exact hmap h5.rep i c v e e') trivial
                · exact .junk _
          · exact .junk _
        · exact .junk _
      · -- a slice that nobody writes
        rename_i xs own _
        split
        · rename_i hd
          cases hr with
          | list sz vs hn hcap hsz ha hl hrr ho =>
            refine .list sz vs hn hcap hsz (fun hx => ?_) hl (fun i c v e e' => (hrr i c v e e').mono hle) trivial
            obtain ⟨b, o, e, hf⟩ := ha hx
            exact ⟨b, o, e, fun i v hv => hle.fix _ _ _ (hf i v hv)⟩
        · split
          · rename_i hlen
            cases hr with
            | list sz vs hn hcap hsz ha hl hrr ho =>
              have hlf : ∀ x ∈ xs, (acells (view1 h n x)).length = (acells x).length := by
                intro x hx
                obtain ⟨i, hi2, rfl⟩ := List.getElem_of_mem hx
                have := congrArg (fun l => l[i]?) hlen
                simpa [hi2] using this
              have hcell := view_cells (E := E) (G := G) (w := w) n ihs xs hlf hrr
              refine .list sz vs (by simpa using hn) hcap (fun y hy => ?_) (fun hx => ?_) (by rw [hcell.1]; exact hl) hcell.2 trivial
              · obtain ⟨x, hx, rfl⟩ := List.mem_map.1 hy
                rw [hlf x hx]
                exact hsz x hx
              · obtain ⟨b, o, e, hf⟩ := ha (fun hx0 => hx (by rw [hx0]; rfl))
                exact ⟨b, o, e, fun i v hv => hle.fix _ _ _ (hf i v hv)⟩
          · exact .junk _
      · cases hr with
        | agg hl hrr => exact .agg (by simpa using hl) (hmapA hrr)
      · cases hr with
        | tuple hl hrr => exact .tuple (by simpa using hl) (hmapA hrr)
      · cases hr with
        | func hk hla hlb ha hb => exact .func hk (by simpa using hla) (by simpa using hlb) (hmapA ha) (hmapA hb)
      · exact .junk _
theorem Rep.viewV (hi : Inv E G h w) {a : AVal} {v : Value} (hr : Rep E G a v) : Rep E (viewG G h w) (viewV h a) v := hr.view hi _
theorem view_post (hi : Inv E G h w) : Post E G h w (viewG G h w) (h.map fun _ => .gone) w := by
  have hgone : ∀ {i : Nat} {o : AObj}, (h.map fun _ => AObj.gone)[i]? = some o → o = .gone := by
    intro i o e
    rw [List.getElem?_map] at e
    obtain ⟨o0, _, rfl⟩ := Option.map_eq_some_iff.1 e
    rfl
  refine ⟨viewG_le, ⟨fun b o v e => ?_, fun b o v e => ?_, fun i o e => by rw [hgone e]; trivial, fun i o i' o' b e e' ho => by rw [hgone e] at ho; exact ho.elim, fun i hl => hi.dom i (by simpa using hl), hi.tab.keep (fun b o v e => viewG_old e) fun _ _ => rfl⟩,
    Nat.le_refl _, fun _ _ _ => rfl, fun b o e => ?_, fun b ho => ?_, rfl, rfl, rfl⟩
  · rcases viewG_cases e with h1 | h1
    · exact hi.fix b o v h1
    · exact h1.2.1
  · rcases viewG_cases e with h1 | h1
    · exact hi.one b o v h1
    · exact h1.2.2
  · cases hx : (viewG G h w).fix b o with
    | none => exact absurd hx e
    | some v =>
      rcases viewG_cases hx with h1 | h1
      · exact .inl (by rw [h1]; simp)
      · exact .inr (.inl h1.1)
  · obtain ⟨i, o, e, ho⟩ := ho
    rw [hgone e] at ho
    exact ho.elim
end Go.Abs
