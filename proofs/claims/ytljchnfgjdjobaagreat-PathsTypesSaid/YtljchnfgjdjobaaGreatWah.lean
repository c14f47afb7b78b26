/- A memory-free reading of the model's values (part 22): what answers at once. -/
import Derived.Test.YtljchnfgjdjobaaGreatWaf
import Derived.Laws.Externs
set_option linter.unusedVariables false
set_option linter.unusedSimpArgs false
set_option linter.defProp false
set_option linter.unusedSectionVars false
namespace Go.aI
open Go
theorem xJ {P:Program} {f:FuncId} {args:List AV} {H:List aa} {x:AV} (hx:∀ own xs,x=.aj own xs→own=0)
 (h:∀ (M:Mem) (L:List Nat) (w:World) (vs:Array Value),vs.size=args.length→(∀ t,aZ M L (vs.getD t undef) (args.getD t .any))→∃ v,(callFunc f vs).run P w=.ok (.value v) w∧aZ M L v x) :
 ax P f args H fun r H'=>r=x∧H'=H:=by
 intro A M L w vs O hA hs bV
 obtain ⟨v,bL,hr⟩:=h M L w vs hs bV.env
 have k1:=bV.rY (fun _=>undef) (fun _=>.any) (fun _=>.any _) (fun _ _ _ e=>by cases e)
 exact .inr ⟨v,w,x,H,M,L,_,bL,⟨rfl,rfl⟩,k1.oK 0 hr hx,Ext.refl A M w,aaG L⟩
def nI:List AV→Option AV
 | [.str s,.int .u8 c]=>some (.int .i64 (firstIdx s c.toNat.toUInt8))
 | _=>none
theorem D5 {vs:Array Value} (h:vs.size=2):vs=#[vs.getD 0 undef,vs.getD 1 undef]:=by
 apply Array.ext
 ·simp [h]
 ·intro i h1 h2
  have:i=0∨i=1:=by omega
  rcases this with rfl | rfl <;> simp [Array.getD,h]
theorem B2 {P:Program} {f:FuncId} {fn:Func} (hf:P.funcs[f]?=some fn) (hname:(fn.name == "runtime.NumGoroutine")=false)
 (hb:fn.body.isNone=true) (hn:Extern.findNext fn=none) (he:Extern.find fn=some Extern.BytealgIndexByte.indexByte):vA P f (.xH nI):=by
 intro args r H h
 unfold nI at h
 split at h <;> cases h
 rename_i s c
 refine xJ (by intro _ _ e;cases e) fun M L w vs hs hr=>⟨.int .i64 (firstIdx s c.toNat.toUInt8),?_,.int _ _⟩
 have h0:=hr 0
 have h1:=hr 1
 rw [D5 hs]
 generalize vs.getD 0 undef=v0 at h0
 generalize vs.getD 1 undef=v1 at h1
 cases h0
 cases h1
 rw [run_callFunc_extern hf hname hb hn he,run_indexByte_string]
 rfl
def countP:List AV→Option AV
 | [.str s,.int .u8 c]=>some (.int .i64 (s.foldl (fun n x=>if x == c.toNat.toUInt8 then n + 1 else n) (0:Nat)))
 | _=>none
theorem J3 {P:Program} (s:ByteArray) (c:Int) (w:World) :
 (Extern.BytealgCount.count #[.string s,.int .u8 c]).run P w=.ok (.int .i64 (s.foldl (fun n x=>if x == c.toNat.toUInt8 then n + 1 else n) (0:Nat))) w:=by
 change Sem.run P (do
  let b ← Extern.Bytes.bytesOf (.string s)
  let c' ← Extern.Bytes.asByte (.int .u8 c)
  pure (goInt (b.foldl (fun n x=>if x == c' then n + 1 else n) (0:Nat)))) w=_
 simp only [Extern.Bytes.bytesOf,Extern.Bytes.asByte,Sem.run_bind,Sem.run_pure,Result.andThen]
 simp [goInt]
theorem Mg {P:Program} {f:FuncId} {fn:Func} (hf:P.funcs[f]?=some fn) (hname:(fn.name == "runtime.NumGoroutine")=false)
 (hb:fn.body.isNone=true) (hn:Extern.findNext fn=none) (he:Extern.find fn=some Extern.BytealgCount.count):vA P f (.xH countP):=by
 intro args r H h
 unfold countP at h
 split at h <;> cases h
 rename_i s c
 refine xJ (by intro _ _ e;cases e) fun M L w vs hs hr=>⟨.int .i64 (s.foldl (fun n x=>if x == c.toNat.toUInt8 then n + 1 else n) (0:Nat)),?_,.int _ _⟩
 have h0:=hr 0
 have h1:=hr 1
 rw [D5 hs]
 generalize vs.getD 0 undef=v0 at h0
 generalize vs.getD 1 undef=v1 at h1
 cases h0
 cases h1
 rw [run_callFunc_extern hf hname hb hn he,J3]
 rfl
end Go.aI
