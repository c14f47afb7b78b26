/- A memory-free reading of the model's values (part 21k): a function's code, read as it is named. -/
import Derived.Test.YtljchnfgjdjobaaGreatXaf
set_option linter.unusedVariables false
set_option linter.unusedSimpArgs false
set_option linter.defProp false
set_option linter.unusedSectionVars false
namespace Go.aI
open Go
theorem ion (n:Nat):Int.ofNat (no_index (OfNat.ofNat n))=(OfNat.ofNat n:Int):=rfl
theorem Xf:Int.negSucc 0=-1:=rfl
noncomputable def tkq:Nat → Nat → yL → yL
  | _,0,p => p
  | a,n+1,p => .take a true (tkq (a+1) n p)
@[reducible] def aH {P:Program} {g:FuncId} {fn:Func} {n:Nat} {i:IR} {rs:List RX} (hc:∀ (as:Array Value) (w:World),(callFunc g as).run P w=.ok (.enter g as) w)
 (hf:P.funcs[g]?=some fn) (hn:fn.ntmps=n) (an:CA) (lv:mr) (pl:ms)
 (h:(fn.body.bind fun c=>comp P an lv pl n c)=some i:=by conv=>
   lhs
   reduce
   try simp only [ion,Xf])
 (hr:iZ P fn.results.toList=some rs:=by conv=>
   lhs
   reduce
   try simp only [ion,Xf]):{fi:qq // gD P g fi}:=
 ⟨⟨n,i,rs⟩,by
   subst hn
   cases hb:fn.body with
   | none=>rw [hb] at h;cases h
   | some c=>exact ⟨hc,fn,c,an,lv,pl,hf,hb,rfl,by rw [hb] at h;exact h,hr⟩⟩
end Go.aI
