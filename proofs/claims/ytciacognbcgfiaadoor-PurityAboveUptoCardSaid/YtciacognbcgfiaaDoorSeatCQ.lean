/-
  The seat's table of functions: each is the program's, as the kernel checks. Conditions: none.
-/
import Derived.Test.YtciacognbcgfiaaDoorSeatCP
import Derived.Test.YtciacognbcgfiaaDoorPurH
import Derived.KernelRfl
set_option linter.unusedVariables false
set_option maxRecDepth 100000
set_option maxHeartbeats 4000000
namespace Go.Abs
open Go.Proofs Go.RowKit
def seatFns : Nat → Option AFn
  | 126 => some fn126
  | 130 => some fn130
  | 131 => some fn131
  | 132 => some fn132
  | 133 => some fn133
  | 134 => some fn134
  | 139 => some fn139
  | 144 => some fn144
  | 145 => some fn145
  | 151 => some fn151
  | 153 => some fn153
  | 154 => some fn154
  | 159 => some fn159
  | 160 => some fn160
  | 161 => some fn161
  | 162 => some fn162
  | 163 => some fn163
  | 164 => some fn164
  | 165 => some fn165
  | 167 => some fn167
  | 173 => some fn173
  | 174 => some fn174
  | 177 => some fn177
  | 181 => some fn181
  | 183 => some fn183
  | 187 => some fn187
  | 189 => some fn189
  | 190 => some fn190
  | 191 => some fn191
  | 192 => some fn192
  | 193 => some fn193
  | 194 => some fn194
  | 195 => some fn195
  | 196 => some fn196
  | 209 => some fn209
  | 210 => some fn210
  | 211 => some fn211
  | 232 => some fn232
  | 234 => some fn234
  | 235 => some fn235
  | 236 => some fn236
  | 243 => some fn243
  | 258 => some fn258
  | 259 => some fn259
  | 264 => some fn264
  | 265 => some fn265
  | 266 => some fn266
  | _ => none
noncomputable def seatSumm (k : Nat) : Option (List AVal → Heap → Option (ARes × Heap)) :=
  if k = 188 then some cloneS else if k = 138 then some sortS else match seatFns k with | some _ => none | none => some fun _ _ => none
noncomputable def lib : Lib := { pure := fun _ => true, summ := seatSumm, fns := seatFns }
theorem isFn126 : ((Tryd.prog.funcs[fnOf 126]?).bind fun fn => fn.body.map fun c => (okCode fn.ntmps c, cFn env fn fn126.body c)) = some (true, fn126) := by kernel_rfl
theorem isFn130 : ((Tryd.prog.funcs[fnOf 130]?).bind fun fn => fn.body.map fun c => (okCode fn.ntmps c, cFn env fn fn130.body c)) = some (true, fn130) := by kernel_rfl
theorem isFn131 : ((Tryd.prog.funcs[fnOf 131]?).bind fun fn => fn.body.map fun c => (okCode fn.ntmps c, cFn env fn fn131.body c)) = some (true, fn131) := by kernel_rfl
theorem isFn132 : ((Tryd.prog.funcs[fnOf 132]?).bind fun fn => fn.body.map fun c => (okCode fn.ntmps c, cFn env fn fn132.body c)) = some (true, fn132) := by kernel_rfl
theorem isFn133 : ((Tryd.prog.funcs[fnOf 133]?).bind fun fn => fn.body.map fun c => (okCode fn.ntmps c, cFn env fn fn133.body c)) = some (true, fn133) := by kernel_rfl
theorem isFn134 : ((Tryd.prog.funcs[fnOf 134]?).bind fun fn => fn.body.map fun c => (okCode fn.ntmps c, cFn env fn fn134.body c)) = some (true, fn134) := by kernel_rfl
theorem isFn139 : ((Tryd.prog.funcs[fnOf 139]?).bind fun fn => fn.body.map fun c => (okCode fn.ntmps c, cFn env fn fn139.body c)) = some (true, fn139) := by kernel_rfl
theorem isFn144 : ((Tryd.prog.funcs[fnOf 144]?).bind fun fn => fn.body.map fun c => (okCode fn.ntmps c, cFn env fn fn144.body c)) = some (true, fn144) := by kernel_rfl
theorem isFn145 : ((Tryd.prog.funcs[fnOf 145]?).bind fun fn => fn.body.map fun c => (okCode fn.ntmps c, cFn env fn fn145.body c)) = some (true, fn145) := by kernel_rfl
theorem isFn151 : ((Tryd.prog.funcs[fnOf 151]?).bind fun fn => fn.body.map fun c => (okCode fn.ntmps c, cFn env fn fn151.body c)) = some (true, fn151) := by kernel_rfl
theorem isFn153 : ((Tryd.prog.funcs[fnOf 153]?).bind fun fn => fn.body.map fun c => (okCode fn.ntmps c, cFn env fn fn153.body c)) = some (true, fn153) := by kernel_rfl
theorem isFn154 : ((Tryd.prog.funcs[fnOf 154]?).bind fun fn => fn.body.map fun c => (okCode fn.ntmps c, cFn env fn fn154.body c)) = some (true, fn154) := by kernel_rfl
theorem isFn159 : ((Tryd.prog.funcs[fnOf 159]?).bind fun fn => fn.body.map fun c => (okCode fn.ntmps c, cFn env fn fn159.body c)) = some (true, fn159) := by kernel_rfl
theorem isFn160 : ((Tryd.prog.funcs[fnOf 160]?).bind fun fn => fn.body.map fun c => (okCode fn.ntmps c, cFn env fn fn160.body c)) = some (true, fn160) := by kernel_rfl
theorem isFn161 : ((Tryd.prog.funcs[fnOf 161]?).bind fun fn => fn.body.map fun c => (okCode fn.ntmps c, cFn env fn fn161.body c)) = some (true, fn161) := by kernel_rfl
theorem isFn162 : ((Tryd.prog.funcs[fnOf 162]?).bind fun fn => fn.body.map fun c => (okCode fn.ntmps c, cFn env fn fn162.body c)) = some (true, fn162) := by kernel_rfl
theorem isFn163 : ((Tryd.prog.funcs[fnOf 163]?).bind fun fn => fn.body.map fun c => (okCode fn.ntmps c, cFn env fn fn163.body c)) = some (true, fn163) := by kernel_rfl
theorem isFn164 : ((Tryd.prog.funcs[fnOf 164]?).bind fun fn => fn.body.map fun c => (okCode fn.ntmps c, cFn env fn fn164.body c)) = some (true, fn164) := by kernel_rfl
theorem isFn165 : ((Tryd.prog.funcs[fnOf 165]?).bind fun fn => fn.body.map fun c => (okCode fn.ntmps c, cFn env fn fn165.body c)) = some (true, fn165) := by kernel_rfl
theorem isFn167 : ((Tryd.prog.funcs[fnOf 167]?).bind fun fn => fn.body.map fun c => (okCode fn.ntmps c, cFn env fn fn167.body c)) = some (true, fn167) := by kernel_rfl
theorem isFn173 : ((Tryd.prog.funcs[fnOf 173]?).bind fun fn => fn.body.map fun c => (okCode fn.ntmps c, cFn env fn fn173.body c)) = some (true, fn173) := by kernel_rfl
theorem isFn174 : ((Tryd.prog.funcs[fnOf 174]?).bind fun fn => fn.body.map fun c => (okCode fn.ntmps c, cFn env fn fn174.body c)) = some (true, fn174) := by kernel_rfl
theorem isFn177 : ((Tryd.prog.funcs[fnOf 177]?).bind fun fn => fn.body.map fun c => (okCode fn.ntmps c, cFn env fn fn177.body c)) = some (true, fn177) := by kernel_rfl
theorem isFn181 : ((Tryd.prog.funcs[fnOf 181]?).bind fun fn => fn.body.map fun c => (okCode fn.ntmps c, cFn env fn fn181.body c)) = some (true, fn181) := by kernel_rfl
theorem isFn183 : ((Tryd.prog.funcs[fnOf 183]?).bind fun fn => fn.body.map fun c => (okCode fn.ntmps c, cFn env fn fn183.body c)) = some (true, fn183) := by kernel_rfl
theorem isFn187 : ((Tryd.prog.funcs[fnOf 187]?).bind fun fn => fn.body.map fun c => (okCode fn.ntmps c, cFn env fn fn187.body c)) = some (true, fn187) := by kernel_rfl
theorem isFn189 : ((Tryd.prog.funcs[fnOf 189]?).bind fun fn => fn.body.map fun c => (okCode fn.ntmps c, cFn env fn fn189.body c)) = some (true, fn189) := by kernel_rfl
theorem isFn190 : ((Tryd.prog.funcs[fnOf 190]?).bind fun fn => fn.body.map fun c => (okCode fn.ntmps c, cFn env fn fn190.body c)) = some (true, fn190) := by kernel_rfl
theorem isFn191 : ((Tryd.prog.funcs[fnOf 191]?).bind fun fn => fn.body.map fun c => (okCode fn.ntmps c, cFn env fn fn191.body c)) = some (true, fn191) := by kernel_rfl
theorem isFn192 : ((Tryd.prog.funcs[fnOf 192]?).bind fun fn => fn.body.map fun c => (okCode fn.ntmps c, cFn env fn fn192.body c)) = some (true, fn192) := by kernel_rfl
theorem isFn193 : ((Tryd.prog.funcs[fnOf 193]?).bind fun fn => fn.body.map fun c => (okCode fn.ntmps c, cFn env fn fn193.body c)) = some (true, fn193) := by kernel_rfl
theorem isFn194 : ((Tryd.prog.funcs[fnOf 194]?).bind fun fn => fn.body.map fun c => (okCode fn.ntmps c, cFn env fn fn194.body c)) = some (true, fn194) := by kernel_rfl
theorem isFn195 : ((Tryd.prog.funcs[fnOf 195]?).bind fun fn => fn.body.map fun c => (okCode fn.ntmps c, cFn env fn fn195.body c)) = some (true, fn195) := by kernel_rfl
theorem isFn196 : ((Tryd.prog.funcs[fnOf 196]?).bind fun fn => fn.body.map fun c => (okCode fn.ntmps c, cFn env fn fn196.body c)) = some (true, fn196) := by kernel_rfl
theorem isFn209 : ((Tryd.prog.funcs[fnOf 209]?).bind fun fn => fn.body.map fun c => (okCode fn.ntmps c, cFn env fn fn209.body c)) = some (true, fn209) := by kernel_rfl
theorem isFn210 : ((Tryd.prog.funcs[fnOf 210]?).bind fun fn => fn.body.map fun c => (okCode fn.ntmps c, cFn env fn fn210.body c)) = some (true, fn210) := by kernel_rfl
theorem isFn211 : ((Tryd.prog.funcs[fnOf 211]?).bind fun fn => fn.body.map fun c => (okCode fn.ntmps c, cFn env fn fn211.body c)) = some (true, fn211) := by kernel_rfl
theorem isFn232 : ((Tryd.prog.funcs[fnOf 232]?).bind fun fn => fn.body.map fun c => (okCode fn.ntmps c, cFn env fn fn232.body c)) = some (true, fn232) := by kernel_rfl
theorem isFn234 : ((Tryd.prog.funcs[fnOf 234]?).bind fun fn => fn.body.map fun c => (okCode fn.ntmps c, cFn env fn fn234.body c)) = some (true, fn234) := by kernel_rfl
theorem isFn235 : ((Tryd.prog.funcs[fnOf 235]?).bind fun fn => fn.body.map fun c => (okCode fn.ntmps c, cFn env fn fn235.body c)) = some (true, fn235) := by kernel_rfl
theorem isFn236 : ((Tryd.prog.funcs[fnOf 236]?).bind fun fn => fn.body.map fun c => (okCode fn.ntmps c, cFn env fn fn236.body c)) = some (true, fn236) := by kernel_rfl
theorem isFn243 : ((Tryd.prog.funcs[fnOf 243]?).bind fun fn => fn.body.map fun c => (okCode fn.ntmps c, cFn env fn fn243.body c)) = some (true, fn243) := by kernel_rfl
theorem isFn258 : ((Tryd.prog.funcs[fnOf 258]?).bind fun fn => fn.body.map fun c => (okCode fn.ntmps c, cFn env fn fn258.body c)) = some (true, fn258) := by kernel_rfl
theorem isFn259 : ((Tryd.prog.funcs[fnOf 259]?).bind fun fn => fn.body.map fun c => (okCode fn.ntmps c, cFn env fn fn259.body c)) = some (true, fn259) := by kernel_rfl
theorem isFn264 : ((Tryd.prog.funcs[fnOf 264]?).bind fun fn => fn.body.map fun c => (okCode fn.ntmps c, cFn env fn fn264.body c)) = some (true, fn264) := by kernel_rfl
theorem isFn265 : ((Tryd.prog.funcs[fnOf 265]?).bind fun fn => fn.body.map fun c => (okCode fn.ntmps c, cFn env fn fn265.body c)) = some (true, fn265) := by kernel_rfl
theorem isFn266 : ((Tryd.prog.funcs[fnOf 266]?).bind fun fn => fn.body.map fun c => (okCode fn.ntmps c, cFn env fn fn266.body c)) = some (true, fn266) := by kernel_rfl
theorem lib_ok : ∀ f k, env.fm f = some k → FnOk env lib f k := by
  intro f k hf
  have := fm_one f k hf
  subst this
  by_cases h1 : k = 188
  · subst h1
    have e : fnOf 188 = 69 := by kernel_rfl
    rw [e]
    exact ⟨.inl ⟨cloneS, rfl, cloneS_ok⟩⟩
  · by_cases h2 : k = 138
    · subst h2
      have e : fnOf 138 = 19 := by kernel_rfl
      rw [e]
      exact ⟨.inl ⟨sortS, rfl, sortS_ok⟩⟩
    · cases hx : seatFns k with
      | none =>
        refine ⟨.inl ⟨fun _ _ => none, ?_, summ_none env _⟩⟩
        show seatSumm k = _
        unfold seatSumm
        rw [if_neg h1, if_neg h2, hx]
      | some fn =>
        have hs : lib.summ k = none := by
          show seatSumm k = _
          unfold seatSumm
          rw [if_neg h1, if_neg h2, hx]
        have hx2 := hx
        unfold seatFns at hx
        split at hx
        · exact fnOk_of hs rfl isFn126
        · exact fnOk_of hs rfl isFn130
        · exact fnOk_of hs rfl isFn131
        · exact fnOk_of hs rfl isFn132
        · exact fnOk_of hs rfl isFn133
        · exact fnOk_of hs rfl isFn134
        · exact fnOk_of hs rfl isFn139
        · exact fnOk_of hs rfl isFn144
        · exact fnOk_of hs rfl isFn145
        · exact fnOk_of hs rfl isFn151
        · exact fnOk_of hs rfl isFn153
        · exact fnOk_of hs rfl isFn154
        · exact fnOk_of hs rfl isFn159
        · exact fnOk_of hs rfl isFn160
        · exact fnOk_of hs rfl isFn161
        · exact fnOk_of hs rfl isFn162
        · exact fnOk_of hs rfl isFn163
        · exact fnOk_of hs rfl isFn164
        · exact fnOk_of hs rfl isFn165
        · exact fnOk_of hs rfl isFn167
        · exact fnOk_of hs rfl isFn173
        · exact fnOk_of hs rfl isFn174
        · exact fnOk_of hs rfl isFn177
        · exact fnOk_of hs rfl isFn181
        · exact fnOk_of hs rfl isFn183
        · exact fnOk_of hs rfl isFn187
        · exact fnOk_of hs rfl isFn189
        · exact fnOk_of hs rfl isFn190
        · exact fnOk_of hs rfl isFn191
        · exact fnOk_of hs rfl isFn192
        · exact fnOk_of hs rfl isFn193
        · exact fnOk_of hs rfl isFn194
        · exact fnOk_of hs rfl isFn195
        · exact fnOk_of hs rfl isFn196
        · exact fnOk_of hs rfl isFn209
        · exact fnOk_of hs rfl isFn210
        · exact fnOk_of hs rfl isFn211
        · exact fnOk_of hs rfl isFn232
        · exact fnOk_of hs rfl isFn234
        · exact fnOk_of hs rfl isFn235
        · exact fnOk_of hs rfl isFn236
        · exact fnOk_of hs rfl isFn243
        · exact fnOk_of hs rfl isFn258
        · exact fnOk_of hs rfl isFn259
        · exact fnOk_of hs rfl isFn264
        · exact fnOk_of hs rfl isFn265
        · exact fnOk_of hs rfl isFn266
        · cases hx
theorem lib_call : CallOk env (call lib) := call_ok env_ok lib lib_ok
theorem lib_plain : Plain lib := by
  refine ⟨fun _ => rfl, fun f hf => ?_⟩
  show seatSumm f = none
  have hf' : seatFns f ≠ none := hf
  unfold seatSumm
  split
  · rename_i h
    subst h
    exact absurd rfl hf'
  · split
    · rename_i h
      subst h
      exact absurd rfl hf'
    · split
      · rfl
      · rename_i h
        exact absurd h hf'
theorem pcall_lib {f : Nat} {args : List AVal} {v : AVal} {s : List AVal → Heap → Option (ARes × Heap)} (hs : lib.summ f = some s) (h1 : s args [] = some (.val v, [])) (hw : wipeR v = v) (hd : isData v = true) (h : Heap) :
    pcall lib f args h = some (.val v, h) := by
  have : call lib f args [] = some (.val v, []) := call_summ hs h1
  exact pcall_of_view this (by rw [dataR_of (by rw [hw]; exact hd), hw]) hd h
theorem lib_prims : CPrims lib sortInts := by
  refine ⟨fun l h hl => ?_, fun l hne hl => ?_, fun h => ?_⟩
  · refine pcall_lib (s := cloneS) rfl ?_ rfl (by rw [isData_list_none]; exact data_Ints l) h
    unfold cloneS
    dsimp only
    rw [ints_all, List.length_map]
    simp [hl]
  · refine call_summ (s := sortS) rfl ?_
    unfold sortS
    have hx : ∃ m, l.length = m + 1 := ⟨l.length - 1, by have := List.length_pos_iff.2 hne; omega⟩
    dsimp only
    rw [ints_all, List.length_map, ints_back]
    simp [hl]
  · exact pcall_lib (s := sortS) rfl rfl rfl rfl h
theorem lib_core : CLib2 lib := by
  constructor
  case toCLib =>
    constructor
    case plain => exact lib_plain
    case prims => exact lib_prims
    all_goals rfl
  all_goals rfl
theorem lib_pur : PLib lib := ⟨rfl, rfl, rfl, rfl, rfl, rfl⟩
end Go.Abs
