/-
  PARTS OF A PROOF, joined: an abstract machine for quiet code, its evaluation, and what the seat's functions answer on it. Conditions: none.
-/
import Derived.Test.YtpchghpipgpkfaaDoorHB
set_option linter.unusedVariables false
set_option linter.unusedSimpArgs false
set_option maxRecDepth 100000
set_option maxHeartbeats 4000000
namespace Go.Abs
abbrev RS:=IM Int × Int
section
end
def HKids (H:Heap):List CTree→List Nat→List (List Nat)→Prop
 | [],ps,fs=>ps=[]∧fs=[]
 | t::ts,ps,fs=>∃ p f ps' fs',ps=p::ps'∧fs=f::fs'∧HT H t p f∧HKids H ts ps' fs'
theorem HKids.frame {H H':Heap}:∀ {ts:List CTree} {ps:List Nat} {fs:List (List Nat)},HKids H ts ps fs→(∀ q∈fs.flatten,H'[q]? = H[q]?)→HKids H' ts ps fs
 | [],ps,fs,h,_=>h
 | t::ts,ps,fs,⟨p,f,ps',fs',e1,e2,h3,h4⟩,he=>⟨p,f,ps',fs',e1,e2,h3.frame fun q hq=>he q (by rw[e2];simp[hq]),h4.frame fun q hq=>he q (by
   rw[e2,List.flatten_cons]
   exact List.mem_append.2 (.inr hq))⟩
theorem HKids.snoc {H:Heap} {t:CTree} {p:Nat} {f:List Nat} (ht:HT H t p f):∀ {ts:List CTree} {ps:List Nat} {fs:List (List Nat)},HKids H ts ps fs→HKids H (ts++[t]) (ps++[p]) (fs++[f])
 | [],ps,fs,h => by
   obtain⟨rfl,rfl⟩:=h
   exact⟨p,f,[],[],rfl,rfl,ht,rfl,rfl⟩
 | t'::ts,ps,fs,⟨p',f',ps',fs',e1,e2,h3,h4⟩=>⟨p',f',_,_,by rw[e1];rfl,by rw[e2];rfl,h3,h4.snoc ht⟩
theorem HKids.len {H:Heap}:∀ {ts:List CTree} {ps:List Nat} {fs:List (List Nat)},HKids H ts ps fs→ps.length=ts.length
 | [],ps,fs,h=>by obtain⟨rfl,_⟩:=h;rfl
 | t::ts,ps,fs,⟨p,f,ps',fs',e1,e2,h3,h4⟩=>by rw[e1];simp[h4.len]
structure RE (H:Heap) (pm pf pw r:Nat) (s:RS):Prop where
 m:H[pm]? = some (.box [.map (some r)])
 f:H[pf]? = some (.box [.int .i64 s.2])
 w:H[pw]? = some (.box [.func 207 [] [qaD pm,qaD pf,qaD pw]])
 r:H[r]? = some (.map (encB s.1))
theorem RE.ne {H:Heap} {pm pf pw r:Nat} {s:RS} (h:RE H pm pf pw r s):pf≠pm∧pf≠r∧pm≠r∧pw≠pf∧pw≠r:=by
 have h1:=h.m
 have h2:=h.f
 have h3:=h.w
 have h4:=h.r
 refine⟨?_,?_,?_,?_,?_⟩<;>rintro rfl
 ·rw[h1] at h2;cases h2
 ·rw[h4] at h2;cases h2
 ·rw[h1] at h4;cases h4
 ·rw[h3] at h2;cases h2
 ·rw[h3] at h4;cases h4
theorem RE.frame {H H':Heap} {pm pf pw r:Nat} {s s':RS} (h:RE H pm pf pw r s) (hf:H'[pf]? = some (.box [.int .i64 s'.2])) (hr:H'[r]? = some (.map (encB s'.1))) (he:∀ q,q≠pf→q≠r→(q=pm∨q=pw)→H'[q]? = H[q]?):RE H' pm pf pw r s':=by
 obtain⟨a,b,c,d,e⟩:=h.ne
 exact⟨by rw[he pm (fun x=>a x.symm) c (.inl rfl)];exact h.m,hf,by rw[he pw d e (.inr rfl)];exact h.w,hr⟩
section
end
section
end
end Go.Abs
