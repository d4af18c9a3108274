/-
  What ContainsAny answers at the signs that names may not hold. Conditions: none.
-/
import Derived.Test.YtlielgleabghlaaDoorSigY
import Derived.Test.YtlielgleabghlaaDoorSigV
import Derived.Test.YtlielgleabghlaaDoorC
import Derived.KernelRfl

set_option linter.unusedVariables false
set_option linter.unusedSimpArgs false
set_option maxRecDepth 100000
set_option maxHeartbeats 4000000
namespace Go.Abs

def chars : ByteArray := ⟨#[46, 40, 41, 35, 32]⟩
def isSet (n : Nat) : Bool := n == 46 || n == 40 || n == 41 || n == 35 || n == 32
def asciiCells : List AVal := (List.range 256).map fun i => .bool (isSet i)
theorem ascii_len : asciiCells.length = 256 := by simp [asciiCells]
theorem ascii_get {n : Nat} (h : n < 256) : asciiCells[n]? = some (.bool (isSet n)) := by simp [asciiCells, h]
theorem ascii_ren (ρ : Nat → Option Nat) : asciiCells.map (ren ρ) = asciiCells := by
  unfold asciiCells
  rw [List.map_map]
  exact List.map_congr_left fun i _ => rfl
theorem ascii_ids : asciiCells.flatMap idsV = [] := by
  unfold asciiCells
  rw [List.flatMap_map]
  exact List.flatMap_eq_nil_iff.2 fun i _ => rfl
theorem ascii_leaf : asciiCells.all leaf = true := by
  unfold asciiCells
  rw [List.all_map]
  exact List.all_eq_true.2 fun i _ => rfl
theorem ascii_data : isDataL asciiCells = true := isDataL_map _ (fun _ => rfl) _

theorem set80_run (pure : Nat → Bool) : (endFn fn80.results (aCodeN pure noCall 8 fn80.body ⟨initTm [.str chars], []⟩)).map (·.1) = some (.val (.tuple [.agg asciiCells, .bool true])) := by kernel_rfl
theorem set80 {L : Lib} (hL : Plain L) (hf : L.fns 80 = some fn80) (h : Heap) : pcall L 80 [.str chars] h = some (.val (.tuple [.agg asciiCells, .bool true]), h) := by
  have h1 := set80_run L.pure
  obtain ⟨⟨r, h'⟩, h2, h3⟩ := Option.map_eq_some_iff.1 h1
  dsimp only at h3
  subst h3
  have h4 := endFn_mono (rs := fn80.results) (aCodeN_aCode (pure := L.pure) (c1 := noCall) (c2 := call L) (fun _ _ _ => Le.none _) 8 fn80.body ⟨initTm [.str chars], []⟩) _ h2
  have hd : isData (AVal.tuple [.agg asciiCells, .bool true]) = true := by simp only [isData_tuple, isDataL_cons, isDataL_nil, isData_agg, ascii_data, isData_bool, Bool.and_self]
  have hw : wipeR (AVal.tuple [.agg asciiCells, .bool true]) = AVal.tuple [.agg asciiCells, .bool true] := by
    have : asciiCells.map wipeCell = asciiCells := by
      unfold asciiCells
      rw [List.map_map]
      exact List.map_congr_left fun i _ => rfl
    simp only [wipeR, wipe, List.map_cons, List.map_nil, this, wipeCell]
  have := pcall_of h' (hL.summ 80 (by rw [hf]; exact fun hx => by cases hx)) hf h4 (by rw [hw]; exact hd) h
  rw [hw] at this
  exact this

theorem con81 {L : Lib} (hL : Plain L) (hf : L.fns 81 = some fn81) (b : Nat) (hb : b < 256) : call L 81 [.ptr (some (0, 0)), .int .u8 b] [.box asciiCells] = some (.val (.bool (isSet b)), [.box asciiCells]) := by
  refine call_of (hL.summ 81 (by rw [hf]; exact fun hx => by cases hx)) hf ?_
  have h1 : ((b : Int) < 256) := by omega
  have h2 := ascii_get hb
  unfold fn81
  simp -implicitDefEqProofs only [code_ops, code_seq, code_ret, ops_cons, ops_nil, aOp, opd, upd_at, initTm_at, stepVal, aLoad1, endFn, aResults, aResult, tupled, Option.getD_some, List.getElem?_cons_zero, List.getElem?_cons_succ, ↓reduceIte, and_self, reduceCtorEq, Nat.zero_add, Nat.reduceEqDiff, Int.toNat_natCast, Int.natCast_nonneg, aIndexArr, Int.cast_ofNat_Int, h1, h2, Int.natCast_nonneg, Nat.mul_one]

def idx69_C (s : ByteArray) (i : Nat) : St := ⟨kt [0, 6, 8] [.str s, .ptr (some (0, 0)), .int .i64 i], [.box asciiCells]⟩
theorem idx69_l0 {L : Lib} (hL : Plain L) (h81 : L.fns 81 = some fn81) (s : ByteArray) (hs : s.size < 2 ^ 30) :
    loopF L.pure (call L) 1 [0, 6, 8] [4] 0 fn69_l0 (idx69_C s 0) = some (fromFind (fun i : Nat => ⟨kt [4] [.int .i64 i], [.box asciiCells]⟩) ⟨kt [4] [.junk], [.box asciiCells]⟩ (findFrom (fun (i : Nat) (b : UInt8) => if isSet b.toNat = true then some i else none) s.data.toList 0)) := by
  have hp := hL.pure
  have hlen : s.data.toList.length = s.size := rfl
  have hget : ∀ (i : Nat) (hi : i < s.data.toList.length), s[i]? = some s.data.toList[i] := fun i hi => by
    rw [getElem?_pos s i hi]
    rfl
  refine loopF_find s.data.toList (fun (i : Nat) (b : UInt8) => if isSet b.toNat = true then some i else none) (idx69_C s) ⟨kt [4] [.junk], [.box asciiCells]⟩ (fun i => ⟨kt [4] [.int .i64 i], [.box asciiCells]⟩) ?_ ?_ ?_
  · intro i hi hq
    have h1 : ((i : Int) < s.size) := by omega
    have h2 : IntKind.i64.wrap ((i : Int) + 1) = ((i + 1 : Nat) : Int) := by rw [wrap64 (by omega) (by omega)]; rfl
    have h3 := hget i hi
    have h4 := con81 hL h81 s.data.toList[i].toNat (UInt8.toNat_lt _)
    have h5 : isSet s.data.toList[i].toNat = false := by
      split at hq
      · cases hq
      · rename_i hx
        simpa using hx
    rw [h5] at h4
    generalize s.data.toList[i] = b at *
    unfold fn69_l0 idx69_C
    simp -implicitDefEqProofs only [code_skip, code_ops, code_seq, code_cond, code_block, ops_cons, ops_nil, aOp, opd, upd_at, kt_cons, stepVal, aBin, aLen, aInt, aIndexStr, isShift, gc_mk, gcIds_mk, newIds_nil, newIds_cons, gcMap_at, posOf, ren, renC, renO_box, idsV, idsC, idsO_box, wipe_int, wipe_ptr, isData_bool, isData_int, isData_str, isData_ptr, isDataL_nil, isDataL_cons, Option.map_some, Option.getD_some, List.map_cons, List.map_nil, List.flatMap_cons, List.flatMap_nil, List.length_cons, List.length_nil, List.nil_append, List.append_nil, List.getElem?_cons_zero, List.take_succ_cons, List.take_nil, List.all_cons, List.all_nil, List.not_mem_nil, ↓reduceIte, Bool.and_true, Bool.false_eq_true, and_true, not_false_eq_true, decide_true, and_self, Nat.le_refl, reduceCtorEq, Nat.zero_add, Nat.reduceEqDiff, Nat.reduceLT, Nat.reduceLeDiff, Int.toNat_natCast, Int.natCast_nonneg, roundF_eq, kt_nil, rCall_eq, rootsOf_eq, grow_eq, subHeap_eq, putBack_eq, pb_nil, pb_cons, backRes_val, h1, h2, h3, h4, ascii_ren, ascii_ids, doCall_p L hp, hp]
  · intro i hi r hq
    have h1 : ((i : Int) < s.size) := by omega
    have h3 := hget i hi
    have h4 := con81 hL h81 s.data.toList[i].toNat (UInt8.toNat_lt _)
    have h5 : isSet s.data.toList[i].toNat = true ∧ i = r := by
      split at hq
      · rename_i hx
        injection hq with hq
        exact ⟨hx, hq⟩
      · cases hq
    obtain ⟨h5, rfl⟩ := h5
    rw [h5] at h4
    generalize s.data.toList[i] = b at *
    unfold fn69_l0 idx69_C
    simp -implicitDefEqProofs only [code_skip, code_ops, code_seq, code_cond, code_block, code_ret, ops_cons, ops_nil, aOp, opd, upd_at, kt_cons, stepVal, aBin, aLen, aInt, aIndexStr, isShift, gcE, gc_mk, gcIds_mk, newIds_nil, newIds_cons, gcMap_at, posOf, ren, renC, renO_box, idsV, idsC, idsO_box, wipe_int, wipe_ptr, isData_bool, isData_int, isData_ptr, isDataL_nil, isDataL_cons, Option.map_some, Option.getD_some, List.map_cons, List.map_nil, List.flatMap_cons, List.flatMap_nil, List.length_cons, List.length_nil, List.nil_append, List.append_nil, List.getElem?_cons_zero, List.take_succ_cons, List.take_nil, List.all_cons, List.all_nil, List.not_mem_nil, ↓reduceIte, Bool.and_true, Bool.false_eq_true, not_false_eq_true, decide_true, and_self, Nat.le_refl, reduceCtorEq, Nat.zero_add, Nat.reduceEqDiff, Nat.reduceLT, Int.toNat_natCast, Int.natCast_nonneg, roundF_eq, kt_nil, rCall_eq, rootsOf_eq, grow_eq, subHeap_eq, putBack_eq, pb_nil, pb_cons, backRes_val, h1, h3, h4, ascii_ren, ascii_ids, doCall_p L hp, hp]
  · have h0 : ¬ ((s.size : Int) < s.size) := by omega
    rw [hlen]
    unfold fn69_l0 idx69_C
    simp -implicitDefEqProofs only [code_ops, code_seq, code_cond, code_exit, ops_cons, ops_nil, aOp, opd, upd_at, kt_cons, stepVal, aBin, aLen, aInt, isShift, gcE, gc_mk, gcIds_mk, newIds_nil, gcMap_at, posOf, ren, renC, renO_box, idsV, idsC, idsO_box, isData_junk, List.map_cons, List.map_nil, List.flatMap_cons, List.flatMap_nil, List.length_cons, List.length_nil, List.append_nil, List.take_succ_cons, List.take_nil, ↓reduceIte, Bool.false_eq_true, decide_false, Nat.le_refl, reduceCtorEq, Nat.zero_add, Nat.reduceEqDiff, roundF_eq, kt_nil, h0, ascii_ren, ascii_ids]

/-! ### Short names, rune by rune -/
def runeIdx (c : Int) : Int := if c = 46 then 0 else if c = 40 then 1 else if c = 41 then 2 else if c = 35 then 3 else if c = 32 then 4 else -1
def runeOk (c : Nat) : Prop := c < 128 ∨ c = 65533 ∨ Utf8.valid c = true
def entOk (e : AVal × AVal) : Prop := ∃ p c : Nat, e = (.int .i64 p, .int .i32 c) ∧ runeOk c
def hitOf : List (AVal × AVal) → Int
  | [] => -1
  | e :: es => match e with | (.int _ p, .int _ c) => if 0 ≤ runeIdx c then p else hitOf es | _ => hitOf es

def C69 : St := ⟨kt [1, 45] [.str chars, .ptr (some (0, 0))], [.gone]⟩
def E69 : St := ⟨upd (upd C69.tm (some 46) (.tuple [.bool false])) (some 47) (.bool false), C69.h⟩
theorem end69 {L : Lib} : rangeEnd (aOps L.pure (call L)) 0 fn69_k1 C69 = some (.normal, E69) := by
  unfold rangeEnd fn69_k1 E69 C69
  simp -implicitDefEqProofs only [ops_cons, ops_nil, aOp, opd, upd_at, kt_cons, stepVal, beq_self_eq_true, List.getElem?_cons_zero, ↓reduceIte, Bool.and_true, Nat.reduceEqDiff, itAt]
theorem round69 {L : Lib} (hL : Plain L) (p c : Nat) (hR : ∀ h, pcall L 78 [.str chars, .int .i32 c] h = some (.val (.int .i64 (runeIdx c)), h)) :
    if 0 ≤ runeIdx c then (rangeRound (aOps L.pure (call L)) 0 fn69_k1 (aCode L.pure (call L) fn69_b1) (.int .i64 p, .int .i32 c) C69).map (gcE 0 [4]) = some (.ret, ⟨kt [4] [.int .i64 p], []⟩)
    else (rangeRound (aOps L.pure (call L)) 0 fn69_k1 (aCode L.pure (call L) fn69_b1) (.int .i64 p, .int .i32 c) C69).map (fun r => (r.1, gc 1 fn69_k1.kr r.2)) = some (.normal, C69) := by
  have hp := hL.pure
  unfold rangeRound fn69_k1 fn69_b1 C69
  split
  · rename_i h1
    simp -implicitDefEqProofs only [code_ops, code_seq, code_cond, code_ret, ops_cons, ops_nil, aOp, opd, upd_at, upd_none, kt_cons, stepVal, aBin, aInt, isShift, gcE, gc_mk, gcIds_mk, newIds_nil, gcMap_at, posOf, ren, renC, idsV, idsC, wipe_int, wipe_str, isData_int, isData_str, isDataL_nil, isDataL_cons, beq_self_eq_true, Option.map_some, List.map_cons, List.map_nil, List.flatMap_cons, List.flatMap_nil, List.length_cons, List.length_nil, List.append_nil, List.getElem?_cons_zero, List.getElem?_cons_succ, List.take_zero, ↓reduceIte, Bool.and_true, Bool.false_eq_true, decide_true, and_self, Nat.zero_le, Nat.zero_add, Nat.reduceEqDiff, kt_nil, ge_iff_le, onlyVal, itAt, blockOf, thenR, hR, h1, doCall_p L hp, hp]
  · rename_i h1
    simp -implicitDefEqProofs only [code_skip, code_ops, code_seq, code_cond, ops_cons, ops_nil, aOp, opd, upd_at, upd_none, kt_cons, stepVal, aBin, aInt, isShift, gc_mk, gcIds_mk, newIds_nil, newIds_cons, gcMap_at, posOf, ren, renC, renO_gone, idsV, idsC, idsO_gone, wipe_int, wipe_str, isData_int, isData_str, isData_ptr, isDataL_nil, isDataL_cons, beq_self_eq_true, Option.map_some, List.map_cons, List.map_nil, List.flatMap_cons, List.flatMap_nil, List.length_cons, List.length_nil, List.nil_append, List.append_nil, List.getElem?_cons_zero, List.getElem?_cons_succ, List.take_succ_cons, List.take_nil, List.not_mem_nil, ↓reduceIte, Bool.and_true, Bool.false_eq_true, and_true, not_false_eq_true, decide_false, and_self, Nat.le_refl, Nat.zero_add, Nat.reduceEqDiff, Nat.reduceLT, Nat.reduceLeDiff, kt_nil, ge_iff_le, onlyVal, itAt, blockOf, thenR, hR, h1, doCall_p L hp, hp]
theorem run69 {L : Lib} (hL : Plain L) (hR : ∀ c : Nat, runeOk c → ∀ h, pcall L 78 [.str chars, .int .i32 c] h = some (.val (.int .i64 (runeIdx c)), h)) : ∀ (es : List (AVal × AVal)) (s : St), (∀ e ∈ es, entOk e) → gc 1 fn69_k1.kr s = C69 →
    (rangeRun (aOps L.pure (call L)) 0 fn69_k1 (aCode L.pure (call L) fn69_b1) es s = some (.normal, E69) ∧ hitOf es = -1) ∨
      ∃ s2, rangeRun (aOps L.pure (call L)) 0 fn69_k1 (aCode L.pure (call L) fn69_b1) es s = some (.ret, s2) ∧ gcE 0 [4] (.ret, s2) = (.ret, ⟨kt [4] [.int .i64 (hitOf es)], []⟩)
  | [], s, _, hs => by
    left
    refine ⟨?_, rfl⟩
    show rangeEnd _ 0 fn69_k1 (gc 1 fn69_k1.kr s) = _
    rw [hs]
    exact end69
  | e :: es, s, he, hs => by
    obtain ⟨p, c, rfl, hc⟩ := he e (by simp)
    have hr := round69 hL p c (hR c hc)
    rw [← hs] at hr
    simp only [hitOf]
    by_cases h0 : 0 ≤ runeIdx c
    · rw [if_pos h0] at hr ⊢
      obtain ⟨⟨x, s2⟩, h1, h2⟩ := Option.map_eq_some_iff.1 hr
      right
      have hx : x = .ret := by
        cases x <;> simp [gcE] at h2
        rfl
      subst hx
      refine ⟨s2, ?_, h2⟩
      show (match rangeRound _ 0 fn69_k1 _ _ (gc (0 + 1) fn69_k1.kr s) with | some (.normal, s') => rangeRun _ 0 fn69_k1 _ es s' | r => blockOf fn69_k1.id r) = _
      rw [h1]
      rfl
    · rw [if_neg h0] at hr ⊢
      obtain ⟨⟨x, s2⟩, h1, h2⟩ := Option.map_eq_some_iff.1 hr
      simp only [Prod.mk.injEq] at h2
      obtain ⟨rfl, h2⟩ := h2
      have h3 := run69 hL hR es s2 (fun e h => he e (by simp [h])) (h2.trans hs)
      have h4 : rangeRun (aOps L.pure (call L)) 0 fn69_k1 (aCode L.pure (call L) fn69_b1) ((.int .i64 p, .int .i32 c) :: es) s = rangeRun (aOps L.pure (call L)) 0 fn69_k1 (aCode L.pure (call L) fn69_b1) es s2 := by
        show (match rangeRound _ 0 fn69_k1 _ _ (gc (0 + 1) fn69_k1.kr s) with | some (.normal, s') => rangeRun _ 0 fn69_k1 _ es s' | r => blockOf fn69_k1.id r) = _
        rw [h1]
      rw [h4]
      exact h3

theorem decode_ok (s : ByteArray) (i : Nat) : runeOk (Utf8.decode s i).1 := by
  unfold runeOk Utf8.decode
  simp only []
  split
  · rename_i h
    left
    exact h
  · split
    · split
      · right; right
        unfold Utf8.valid
        simp only [Bool.or_eq_true, Bool.and_eq_true, decide_eq_true_eq]
        left
        omega
      · right; left
        rfl
    · split
      · split
        · rename_i h
          rw [Bool.and_eq_true] at h
          right; right
          exact h.2
        · right; left
          rfl
      · split
        · split
          · rename_i h
            rw [Bool.and_eq_true] at h
            right; right
            exact h.2
          · right; left
            rfl
        · right; left
          rfl
theorem runes_ok (s : ByteArray) : ∀ (n p : Nat), ∀ e ∈ runesFrom s n p, entOk e
  | 0, p, e, he => by cases he
  | n + 1, p, e, he => by
    rw [runesFrom] at he
    split at he
    · rcases List.mem_cons.1 he with rfl | he
      · exact ⟨p, (Utf8.decode s p).1, rfl, decode_ok s p⟩
      · exact runes_ok s n _ e he
    · cases he

theorem range69 {L : Lib} (hL : Plain L) (hR : ∀ c : Nat, runeOk c → ∀ h, pcall L 78 [.str chars, .int .i32 c] h = some (.val (.int .i64 (runeIdx c)), h)) (s : ByteArray) (tm : Tmps) (h0 : tm 0 = .str s) (h1 : tm 1 = .str chars) :
    aCode L.pure (call L) (.range fn69_k1 fn69_b1 fn69_a1) ⟨tm, []⟩ = some (.ret, ⟨kt [4] [.int .i64 (hitOf (runesFrom s s.size 0))], []⟩) := by
  refine code_range_of (s1 := ⟨upd tm (some 44) (.str s), []⟩) (es := runesFrom s s.size 0) ?_ ?_ ?_
  · unfold fn69_k1
    simp -implicitDefEqProofs only [ops_cons, ops_nil, aOp, opd, h0]
  · unfold fn69_k1
    simp -implicitDefEqProofs only [opd, upd_at, ↓reduceIte, entriesOf]
  · intro es' hes
    have hes' : es' = runesFrom s s.size 0 := hes
    subst hes'
    have hg : gc 1 fn69_k1.kr ⟨upd (upd tm (some 44) (.str s)) (some 45) (.ptr (some (0, 0))), [.gone]⟩ = C69 := by
      unfold C69 fn69_k1
      simp -implicitDefEqProofs only [upd_at, gc_mk, gcIds_mk, newIds_nil, newIds_cons, gcMap_at, posOf, ren, renC, renO_gone, idsV, idsC, idsO_gone, isData_str, isData_ptr, List.map_cons, List.map_nil, List.flatMap_cons, List.flatMap_nil, List.length_cons, List.length_nil, List.nil_append, List.append_nil, List.take_succ_cons, List.take_nil, List.not_mem_nil, ↓reduceIte, Bool.false_eq_true, and_true, not_false_eq_true, Nat.le_refl, Nat.zero_add, Nat.reduceEqDiff, Nat.reduceLT, Nat.reduceLeDiff, h1]
    unfold rangeOne
    have hm : opd (upd tm (some 44) (.str s)) fn69_k1.m = .str s := rfl
    have hit : fn69_k1.it = 45 := rfl
    have hk : fn69_k1.keep = [4] := rfl
    dsimp only
    rw [hm, hit, hk]
    simp only [List.length_nil]
    rcases run69 hL hR (runesFrom s s.size 0) ⟨upd (upd tm (some 44) (.str s)) (some 45) (.ptr (some (0, 0))), [.gone]⟩ (runes_ok s s.size 0) hg with ⟨hr, hh⟩ | ⟨s2, hr, hh⟩
    · show Option.map _ (match rangeRun _ 0 _ _ _ ⟨upd (upd tm (some 44) (.str s)) (some 45) (.ptr (some (0, 0))), [.gone]⟩ with | some (.normal, s2) => _ | some (e, s2) => _ | none => _) = _
      rw [hr, hh]
      unfold E69 C69 fn69_a1
      simp -implicitDefEqProofs only [code_ops, code_seq, code_ret, ops_cons, ops_nil, aOp, opd, upd_at, kt_cons, gcE, gc_mk, gcIds_mk, newIds_nil, gcMap_at, posOf, ren, renC, idsV, idsC, isData_int, Option.map_some, List.map_cons, List.map_nil, List.flatMap_cons, List.flatMap_nil, List.length_cons, List.length_nil, List.append_nil, List.take_zero, ↓reduceIte, Nat.zero_le, Nat.zero_add, Int.reduceNeg, kt_nil, unhide]
    · show Option.map _ (match rangeRun _ 0 _ _ _ ⟨upd (upd tm (some 44) (.str s)) (some 45) (.ptr (some (0, 0))), [.gone]⟩ with | some (.normal, s2) => _ | some (e, s2) => _ | none => _) = _
      rw [hr]
      show some (gcE 0 [4] (.ret, ⟨s2.tm, s2.h⟩)) = _
      exact congrArg some hh

/-- Whether a name holds one of the signs, as the code finds out. -/
def anyChar (s : ByteArray) : Bool := if (s.size : Int) > 8 then s.data.toList.any fun b => isSet b.toNat else decide (0 ≤ hitOf (runesFrom s s.size 0))

theorem any69 {L : Lib} (hL : Plain L) (h69 : L.fns 69 = some fn69) (h79 : L.fns 79 = some fn79) (h80 : L.fns 80 = some fn80) (h81 : L.fns 81 = some fn81) (hR : ∀ c : Nat, runeOk c → ∀ h, pcall L 78 [.str chars, .int .i32 c] h = some (.val (.int .i64 (runeIdx c)), h))
    (s : ByteArray) (hs : s.size < 2 ^ 30) : ∃ z : Int, decide (0 ≤ z) = anyChar s ∧ ∀ h, pcall L 69 [.str s, .str chars] h = some (.val (.int .i64 z), h) := by
  have hp := hL.pure
  have hc0 : decide (chars = ⟨#[]⟩) = false := by decide
  have hc1 : ((chars.size : Int) == 1) = false := by decide
  have h79' : ∀ h, pcall L 79 [.int .i64 s.size] h = some (.val (.bool (decide ((s.size : Int) > 8))), h) := fun h => by
    refine pcall_fn hL h79 rfl ?_ h
    unfold fn79
    simp -implicitDefEqProofs only [code_ops, code_seq, code_ret, ops_cons, ops_nil, aOp, opd, upd_at, initTm_at, stepVal, aBin, aInt, isShift, endFn, aResults, aResult, tupled, wipeR_bool, Option.getD_some, List.getElem?_cons_zero, ↓reduceIte, Bool.false_eq_true, reduceCtorEq, gt_iff_lt, outOf_val]
  unfold anyChar
  by_cases h8 : (s.size : Int) > 8
  · rw [if_pos h8]
    refine ⟨idxF (fun b : UInt8 => isSet b.toNat) s.data.toList, idxF_any _ _, fun h => ?_⟩
    have hset := set80 hL h80
    have hl := idx69_l0 hL h81 s hs
    unfold idx69_C at hl
    simp only [Int.natCast_zero] at hl
    have hdrop : (List.replicate 256 (AVal.bool false)).drop 256 = [] := rfl
    refine pcall_fn hL h69 rfl ?_ h
    unfold fn69 idxF
    cases hq : findFrom (fun (i : Nat) (b : UInt8) => if isSet b.toNat = true then some i else none) s.data.toList 0 <;> simp only [hq, fromFind] at hl <;>
      simp -implicitDefEqProofs only [code_skip, code_ops, code_seq, code_cond, code_ret, ops_cons, ops_nil, aOp, opd, upd_at, upd_none, initTm_at, kt_cons, stepVal, stepHeap, aBin, aStr, aLen, aInt, isShift, aStore, acells_agg, cellsSet, endFn, aResults, aResult, tupled, code_loopF, gc_mk, gcIds_mk, newIds_nil, newIds_cons, gcMap_at, posOf, ren, renC, renO_box, idsV, idsC, idsO_box, wipe_int, wipe_str, wipeR_int, isData_int, isData_str, isData_ptr, isDataL_nil, isDataL_cons, Option.getD_some, List.map_cons, List.map_nil, List.flatMap_cons, List.flatMap_nil, List.length_cons, List.length_nil, List.nil_append, List.append_nil, List.getElem?_cons_zero, List.getElem?_cons_succ, List.set_cons_zero, List.take_succ_cons, List.take_zero, List.take_nil, List.not_mem_nil, ↓reduceIte, Bool.and_true, Bool.false_eq_true, and_true, not_false_eq_true, decide_true, and_self, Nat.le_refl, reduceCtorEq, Nat.zero_add, Nat.reduceEqDiff, Nat.reduceLT, Nat.reduceLeDiff, Int.reduceNeg, gt_iff_lt, onlyVal, outOf_val, hc0, hc1, h79', h8, hset, hl, hq, ascii_ren, ascii_ids, ascii_len, ascii_leaf, ascii_data, hdrop, List.length_replicate, doCall_p L hp, hp]
  · rw [if_neg h8]
    refine ⟨hitOf (runesFrom s s.size 0), rfl, fun h => ?_⟩
    have hr := range69 hL hR s
    refine pcall_fn hL h69 rfl ?_ h
    unfold fn69
    simp -implicitDefEqProofs only [code_skip, code_ops, code_seq, code_cond, ops_cons, ops_nil, aOp, opd, upd_at, initTm_at, kt_cons, stepVal, aBin, aStr, aLen, aInt, isShift, endFn, aResults, aResult, tupled, wipe_int, wipeR_int, isData_int, isDataL_nil, isDataL_cons, Option.getD_some, List.map_cons, List.map_nil, List.getElem?_cons_zero, List.getElem?_cons_succ, ↓reduceIte, Bool.and_true, Bool.false_eq_true, decide_false, and_self, reduceCtorEq, Nat.reduceEqDiff, Int.reduceNeg, gt_iff_lt, onlyVal, outOf_val, hc0, hc1, h79', h8, hr, doCall_p L hp, hp]
theorem any50 {L : Lib} (hL : Plain L) (h50 : L.fns 50 = some fn50) (h69 : L.fns 69 = some fn69) (h79 : L.fns 79 = some fn79) (h80 : L.fns 80 = some fn80) (h81 : L.fns 81 = some fn81)
    (hR : ∀ c : Nat, runeOk c → ∀ h, pcall L 78 [.str chars, .int .i32 c] h = some (.val (.int .i64 (runeIdx c)), h)) (s : ByteArray) (hs : s.size < 2 ^ 30) (h : Heap) :
    pcall L 50 [.str s, .str chars] h = some (.val (.bool (anyChar s)), h) := by
  have hp := hL.pure
  obtain ⟨z, hz, h1⟩ := any69 hL h69 h79 h80 h81 hR s hs
  refine pcall_fn hL h50 rfl ?_ h
  unfold fn50
  rw [← hz]
  simp -implicitDefEqProofs only [code_ops, code_seq, code_ret, ops_cons, ops_nil, aOp, opd, upd_at, initTm_at, stepVal, aBin, aInt, isShift, endFn, aResults, aResult, tupled, wipe_str, wipeR_bool, isData_str, isDataL_nil, isDataL_cons, Option.getD_some, List.map_cons, List.map_nil, List.getElem?_cons_zero, List.getElem?_cons_succ, ↓reduceIte, Bool.and_true, Bool.false_eq_true, and_self, reduceCtorEq, Nat.reduceEqDiff, ge_iff_le, onlyVal, outOf_val, h1, doCall_p L hp, hp]
end Go.Abs
