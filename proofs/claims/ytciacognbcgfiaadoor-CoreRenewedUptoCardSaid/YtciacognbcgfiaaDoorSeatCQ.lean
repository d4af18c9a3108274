/-
  The seat's table of functions: each is the program's, as the kernel checks. Conditions: none.
-/
import Derived.Test.YtciacognbcgfiaaDoorSeatDP
import Derived.Test.YtciacognbcgfiaaDoorRC
import Derived.KernelRfl
set_option linter.unusedVariables false
set_option maxRecDepth 100000
set_option maxHeartbeats 4000000
namespace Go.Abs
open Go.Proofs Go.RowKit
def seatFns : Nat → Option AFn
  | 124 => some fm124
  | 130 => some fn130
  | 131 => some fn131
  | 132 => some fn132
  | 133 => some fn133
  | 134 => some fn134
  | 139 => some fn139
  | 140 => some fn140
  | 141 => some fm141
  | 151 => some fn151
  | 154 => some fn154
  | 159 => some fn159
  | 160 => some fm160
  | 161 => some fn161
  | 162 => some fn162
  | 163 => some fn163
  | 164 => some fn164
  | 165 => some fn165
  | 167 => some fn167
  | 171 => some fn171
  | 177 => some fn177
  | 181 => some fn181
  | 183 => some fn183
  | 187 => some fn187
  | 189 => some fn189
  | 190 => some fn190
  | 191 => some fn191
  | 192 => some fn192
  | 193 => some fn193
  | 194 => some fn194
  | 195 => some fn195
  | 196 => some fn196
  | 207 => some fn207
  | 208 => some fn208
  | 232 => some fn232
  | 234 => some fn234
  | 235 => some fn235
  | 236 => some fn236
  | 258 => some fn258
  | 259 => some fn259
  | 264 => some fn264
  | 265 => some fn265
  | 266 => some fn266
  | _ => none
noncomputable def seatSumm (k : Nat) : Option (List AVal → Heap → Option (ARes × Heap)) :=
  if k = 188 then some cloneS else if k = 138 then some sortS else match seatFns k with | some _ => none | none => some fun _ _ => none
noncomputable def lib : Lib := { pure := fun _ => true, summ := seatSumm, fns := seatFns }
theorem isFn124 : ((Tryd.prog.funcs[fnOf 124]?).bind fun fn => fn.body.map fun c => (okCode fn.ntmps c, cFn env fn fm124.body c)) = some (true, fm124) := by kernel_rfl
theorem isFn130 : ((Tryd.prog.funcs[fnOf 130]?).bind fun fn => fn.body.map fun c => (okCode fn.ntmps c, cFn env fn fn130.body c)) = some (true, fn130) := by kernel_rfl
theorem isFn131 : ((Tryd.prog.funcs[fnOf 131]?).bind fun fn => fn.body.map fun c => (okCode fn.ntmps c, cFn env fn fn131.body c)) = some (true, fn131) := by kernel_rfl
theorem isFn132 : ((Tryd.prog.funcs[fnOf 132]?).bind fun fn => fn.body.map fun c => (okCode fn.ntmps c, cFn env fn fn132.body c)) = some (true, fn132) := by kernel_rfl
theorem isFn133 : ((Tryd.prog.funcs[fnOf 133]?).bind fun fn => fn.body.map fun c => (okCode fn.ntmps c, cFn env fn fn133.body c)) = some (true, fn133) := by kernel_rfl
theorem isFn134 : ((Tryd.prog.funcs[fnOf 134]?).bind fun fn => fn.body.map fun c => (okCode fn.ntmps c, cFn env fn fn134.body c)) = some (true, fn134) := by kernel_rfl
theorem isFn139 : ((Tryd.prog.funcs[fnOf 139]?).bind fun fn => fn.body.map fun c => (okCode fn.ntmps c, cFn env fn fn139.body c)) = some (true, fn139) := by kernel_rfl
theorem isFn140 : ((Tryd.prog.funcs[fnOf 140]?).bind fun fn => fn.body.map fun c => (okCode fn.ntmps c, cFn env fn fn140.body c)) = some (true, fn140) := by kernel_rfl
theorem isFn141 : ((Tryd.prog.funcs[fnOf 141]?).bind fun fn => fn.body.map fun c => (okCode fn.ntmps c, cFn env fn fm141.body c)) = some (true, fm141) := by kernel_rfl
theorem isFn151 : ((Tryd.prog.funcs[fnOf 151]?).bind fun fn => fn.body.map fun c => (okCode fn.ntmps c, cFn env fn fn151.body c)) = some (true, fn151) := by kernel_rfl
theorem isFn154 : ((Tryd.prog.funcs[fnOf 154]?).bind fun fn => fn.body.map fun c => (okCode fn.ntmps c, cFn env fn fn154.body c)) = some (true, fn154) := by kernel_rfl
theorem isFn159 : ((Tryd.prog.funcs[fnOf 159]?).bind fun fn => fn.body.map fun c => (okCode fn.ntmps c, cFn env fn fn159.body c)) = some (true, fn159) := by kernel_rfl
theorem isFn160 : ((Tryd.prog.funcs[fnOf 160]?).bind fun fn => fn.body.map fun c => (okCode fn.ntmps c, cFn env fn fm160.body c)) = some (true, fm160) := by kernel_rfl
theorem isFn161 : ((Tryd.prog.funcs[fnOf 161]?).bind fun fn => fn.body.map fun c => (okCode fn.ntmps c, cFn env fn fn161.body c)) = some (true, fn161) := by kernel_rfl
theorem isFn162 : ((Tryd.prog.funcs[fnOf 162]?).bind fun fn => fn.body.map fun c => (okCode fn.ntmps c, cFn env fn fn162.body c)) = some (true, fn162) := by kernel_rfl
theorem isFn163 : ((Tryd.prog.funcs[fnOf 163]?).bind fun fn => fn.body.map fun c => (okCode fn.ntmps c, cFn env fn fn163.body c)) = some (true, fn163) := by kernel_rfl
theorem isFn164 : ((Tryd.prog.funcs[fnOf 164]?).bind fun fn => fn.body.map fun c => (okCode fn.ntmps c, cFn env fn fn164.body c)) = some (true, fn164) := by kernel_rfl
theorem isFn165 : ((Tryd.prog.funcs[fnOf 165]?).bind fun fn => fn.body.map fun c => (okCode fn.ntmps c, cFn env fn fn165.body c)) = some (true, fn165) := by kernel_rfl
theorem isFn167 : ((Tryd.prog.funcs[fnOf 167]?).bind fun fn => fn.body.map fun c => (okCode fn.ntmps c, cFn env fn fn167.body c)) = some (true, fn167) := by kernel_rfl
theorem isFn171 : ((Tryd.prog.funcs[fnOf 171]?).bind fun fn => fn.body.map fun c => (okCode fn.ntmps c, cFn env fn fn171.body c)) = some (true, fn171) := by kernel_rfl
theorem isFn177 : ((Tryd.prog.funcs[fnOf 177]?).bind fun fn => fn.body.map fun c => (okCode fn.ntmps c, cFn env fn fn177.body c)) = some (true, fn177) := by kernel_rfl
theorem isFn181 : ((Tryd.prog.funcs[fnOf 181]?).bind fun fn => fn.body.map fun c => (okCode fn.ntmps c, cFn env fn fn181.body c)) = some (true, fn181) := by kernel_rfl
theorem isFn183 : ((Tryd.prog.funcs[fnOf 183]?).bind fun fn => fn.body.map fun c => (okCode fn.ntmps c, cFn env fn fn183.body c)) = some (true, fn183) := by kernel_rfl
theorem isFn187 : ((Tryd.prog.funcs[fnOf 187]?).bind fun fn => fn.body.map fun c => (okCode fn.ntmps c, cFn env fn fn187.body c)) = some (true, fn187) := by kernel_rfl
theorem isFn189 : ((Tryd.prog.funcs[fnOf 189]?).bind fun fn => fn.body.map fun c => (okCode fn.ntmps c, cFn env fn fn189.body c)) = some (true, fn189) := by kernel_rfl
theorem isFn190 : ((Tryd.prog.funcs[fnOf 190]?).bind fun fn => fn.body.map fun c => (okCode fn.ntmps c, cFn env fn fn190.body c)) = some (true, fn190) := by kernel_rfl
theorem isFn191 : ((Tryd.prog.funcs[fnOf 191]?).bind fun fn => fn.body.map fun c => (okCode fn.ntmps c, cFn env fn fn191.body c)) = some (true, fn191) := by kernel_rfl
theorem isFn192 : ((Tryd.prog.funcs[fnOf 192]?).bind fun fn => fn.body.map fun c => (okCode fn.ntmps c, cFn env fn fn192.body c)) = some (true, fn192) := by kernel_rfl
theorem isFn193 : ((Tryd.prog.funcs[fnOf 193]?).bind fun fn => fn.body.map fun c => (okCode fn.ntmps c, cFn env fn fn193.body c)) = some (true, fn193) := by kernel_rfl
theorem isFn194 : ((Tryd.prog.funcs[fnOf 194]?).bind fun fn => fn.body.map fun c => (okCode fn.ntmps c, cFn env fn fn194.body c)) = some (true, fn194) := by kernel_rfl
theorem isFn195 : ((Tryd.prog.funcs[fnOf 195]?).bind fun fn => fn.body.map fun c => (okCode fn.ntmps c, cFn env fn fn195.body c)) = some (true, fn195) := by kernel_rfl
theorem isFn196 : ((Tryd.prog.funcs[fnOf 196]?).bind fun fn => fn.body.map fun c => (okCode fn.ntmps c, cFn env fn fn196.body c)) = some (true, fn196) := by kernel_rfl
theorem isFn207 : ((Tryd.prog.funcs[fnOf 207]?).bind fun fn => fn.body.map fun c => (okCode fn.ntmps c, cFn env fn fn207.body c)) = some (true, fn207) := by kernel_rfl
theorem isFn208 : ((Tryd.prog.funcs[fnOf 208]?).bind fun fn => fn.body.map fun c => (okCode fn.ntmps c, cFn env fn fn208.body c)) = some (true, fn208) := by kernel_rfl
theorem isFn232 : ((Tryd.prog.funcs[fnOf 232]?).bind fun fn => fn.body.map fun c => (okCode fn.ntmps c, cFn env fn fn232.body c)) = some (true, fn232) := by kernel_rfl
theorem isFn234 : ((Tryd.prog.funcs[fnOf 234]?).bind fun fn => fn.body.map fun c => (okCode fn.ntmps c, cFn env fn fn234.body c)) = some (true, fn234) := by kernel_rfl
theorem isFn235 : ((Tryd.prog.funcs[fnOf 235]?).bind fun fn => fn.body.map fun c => (okCode fn.ntmps c, cFn env fn fn235.body c)) = some (true, fn235) := by kernel_rfl
theorem isFn236 : ((Tryd.prog.funcs[fnOf 236]?).bind fun fn => fn.body.map fun c => (okCode fn.ntmps c, cFn env fn fn236.body c)) = some (true, fn236) := by kernel_rfl
theorem isFn258 : ((Tryd.prog.funcs[fnOf 258]?).bind fun fn => fn.body.map fun c => (okCode fn.ntmps c, cFn env fn fn258.body c)) = some (true, fn258) := by kernel_rfl
theorem isFn259 : ((Tryd.prog.funcs[fnOf 259]?).bind fun fn => fn.body.map fun c => (okCode fn.ntmps c, cFn env fn fn259.body c)) = some (true, fn259) := by kernel_rfl
theorem isFn264 : ((Tryd.prog.funcs[fnOf 264]?).bind fun fn => fn.body.map fun c => (okCode fn.ntmps c, cFn env fn fn264.body c)) = some (true, fn264) := by kernel_rfl
theorem isFn265 : ((Tryd.prog.funcs[fnOf 265]?).bind fun fn => fn.body.map fun c => (okCode fn.ntmps c, cFn env fn fn265.body c)) = some (true, fn265) := by kernel_rfl
theorem isFn266 : ((Tryd.prog.funcs[fnOf 266]?).bind fun fn => fn.body.map fun c => (okCode fn.ntmps c, cFn env fn fn266.body c)) = some (true, fn266) := by kernel_rfl
theorem lib_ok : ∀ f k, env.fm f = some k → FnOk env lib f k := by
  intro f k hf
  have := fm_one f k hf
  subst this
  by_cases h1 : k = 188
  · subst h1
    have e : fnOf 188 = 69 := by kernel_rfl
    rw [e]
    exact ⟨.inl ⟨cloneS, rfl, cloneS_ok⟩⟩
  · by_cases h2 : k = 138
    · subst h2
      have e : fnOf 138 = 19 := by kernel_rfl
      rw [e]
      exact ⟨.inl ⟨sortS, rfl, sortS_ok⟩⟩
    · cases hx : seatFns k with
      | none =>
        refine ⟨.inl ⟨fun _ _ => none, ?_, summ_none env _⟩⟩
        show seatSumm k = _
        unfold seatSumm
        rw [if_neg h1, if_neg h2, hx]
      | some fn =>
        have hs : lib.summ k = none := by
          show seatSumm k = _
          unfold seatSumm
          rw [if_neg h1, if_neg h2, hx]
        have hx2 := hx
        unfold seatFns at hx
        split at hx
        · exact fnOk_of hs rfl isFn124
        · exact fnOk_of hs rfl isFn130
        · exact fnOk_of hs rfl isFn131
        · exact fnOk_of hs rfl isFn132
        · exact fnOk_of hs rfl isFn133
        · exact fnOk_of hs rfl isFn134
        · exact fnOk_of hs rfl isFn139
        · exact fnOk_of hs rfl isFn140
        · exact fnOk_of hs rfl isFn141
        · exact fnOk_of hs rfl isFn151
        · exact fnOk_of hs rfl isFn154
        · exact fnOk_of hs rfl isFn159
        · exact fnOk_of hs rfl isFn160
        · exact fnOk_of hs rfl isFn161
        · exact fnOk_of hs rfl isFn162
        · exact fnOk_of hs rfl isFn163
        · exact fnOk_of hs rfl isFn164
        · exact fnOk_of hs rfl isFn165
        · exact fnOk_of hs rfl isFn167
        · exact fnOk_of hs rfl isFn171
        · exact fnOk_of hs rfl isFn177
        · exact fnOk_of hs rfl isFn181
        · exact fnOk_of hs rfl isFn183
        · exact fnOk_of hs rfl isFn187
        · exact fnOk_of hs rfl isFn189
        · exact fnOk_of hs rfl isFn190
        · exact fnOk_of hs rfl isFn191
        · exact fnOk_of hs rfl isFn192
        · exact fnOk_of hs rfl isFn193
        · exact fnOk_of hs rfl isFn194
        · exact fnOk_of hs rfl isFn195
        · exact fnOk_of hs rfl isFn196
        · exact fnOk_of hs rfl isFn207
        · exact fnOk_of hs rfl isFn208
        · exact fnOk_of hs rfl isFn232
        · exact fnOk_of hs rfl isFn234
        · exact fnOk_of hs rfl isFn235
        · exact fnOk_of hs rfl isFn236
        · exact fnOk_of hs rfl isFn258
        · exact fnOk_of hs rfl isFn259
        · exact fnOk_of hs rfl isFn264
        · exact fnOk_of hs rfl isFn265
        · exact fnOk_of hs rfl isFn266
        · cases hx
theorem lib_call : CallOk env (call lib) := call_ok env_ok lib lib_ok
theorem lib_plain : Plain lib := by
  refine ⟨fun _ => rfl, fun f hf => ?_⟩
  show seatSumm f = none
  have hf' : seatFns f ≠ none := hf
  unfold seatSumm
  split
  · rename_i h
    subst h
    exact absurd rfl hf'
  · split
    · rename_i h
      subst h
      exact absurd rfl hf'
    · split
      · rfl
      · rename_i h
        exact absurd h hf'
theorem pcall_lib {f : Nat} {args : List AVal} {v : AVal} {s : List AVal → Heap → Option (ARes × Heap)} (hs : lib.summ f = some s) (h1 : s args [] = some (.val v, [])) (hw : wipeR v = v) (hd : isData v = true) (h : Heap) :
    pcall lib f args h = some (.val v, h) := by
  have : call lib f args [] = some (.val v, []) := call_summ hs h1
  exact pcall_of_view this (by rw [dataR_of (by rw [hw]; exact hd), hw]) hd h
theorem clone_s (l : List Int) (h : Heap) (hl : l.length < 2 ^ 30) : cloneS [.list (l.map encI) none] h = some (.val (cloneV l h.length), h ++ cloneO l) := by
  unfold cloneS
  dsimp only
  rw [ints_all, List.length_map]
  by_cases hz : l = []
  · subst hz
    simp [cloneV, cloneO]
  · have : l.map encI ≠ [] := by simpa using hz
    rw [cloneV_ne hz, cloneO_ne hz, if_pos (by simp [hl]), if_neg this]
theorem lib_mut : MPrims lib := ⟨fun l h hl => call_summ (s := cloneS) rfl (clone_s l h hl)⟩
theorem lib_prims : CPrims lib sortInts := by
  refine ⟨fun l h hl => ?_, fun l hne hl => ?_, fun h => ?_⟩
  · have h1 := lib_mut.clone l [] hl
    refine pcall_of_view h1 ?_ (by rw [isData_list_none]; exact data_Ints l) h
    rcases clone_cases l with ⟨h2, h3⟩ | ⟨h2, h3⟩
    · rw [h2, h3, clone_nil h3]
      rfl
    · rw [h2, h3]
      unfold dataR
      have hv : viewV ([] ++ [.vec (l.map encI) 1]) (.vec ([] : Heap).length l.length) = .list (l.map encI) none := (HInts.view (H := [.vec (l.map encI) 1]) (l := l) (v := .vec 0 l.length) (f := [0]) (.inr ⟨clone_cons h3, 0, rfl, rfl, rfl⟩) 1999)
      rw [if_neg (by simp [wipeR, wipe, wipeCell, isData]), hv]
      rfl
  · refine call_summ (s := sortS) rfl ?_
    unfold sortS
    have hx : ∃ m, l.length = m + 1 := ⟨l.length - 1, by have := List.length_pos_iff.2 hne; omega⟩
    dsimp only
    rw [ints_all, List.length_map, ints_back]
    simp [hl]
  · exact pcall_lib (s := sortS) rfl rfl rfl rfl h
theorem lib_core : CLib2 lib := by
  constructor
  case toCLib =>
    constructor
    case plain => exact lib_plain
    case prims => exact lib_prims
    case grow => exact fun e h hl hf hT hh => grow_quiet lib_plain lib_mut rfl e h hl hf hT hh
    all_goals rfl
  all_goals rfl
end Go.Abs
