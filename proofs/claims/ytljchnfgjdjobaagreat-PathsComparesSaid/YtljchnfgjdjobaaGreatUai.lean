/- Part 9 of 19 of the proof. -/
import Derived.Test.YtljchnfgjdjobaaGreatUag
import Derived.Test.YtljchnfgjdjobaaGreatUah
import Derived.KernelRfl
set_option linter.unusedVariables false
set_option linter.unusedSimpArgs false
set_option linter.defProp false
set_option linter.unusedSectionVars false
section
open Go Go.Proofs Go.aI
namespace Go.aI
theorem wW (o:Nat) (xs:List AV) (H:List aa) (h1:qP 1 xs) (hb:xs.length * 8≤140737488355328) (mj:aj H.length xs=true) :
 aw Tryz.prog 118 [.ap o xs] H fun r H'=>r=.ap 1 xs∧H'=H:=by
 refine Ou.2.Ba (ac0 rfl) ?_
 simp only [Ou,aJ,mn,jP,sH,bB,put,get,aq,eM,uL,bV,AV.ab,List.map,Nat.reduceEqDiff,reduceIte,b8,sM]
 have lQ:∀ (x:AV) ,x.le (.ap 1 xs)→∃ m,H.length≤m∧∃ r,x.le r∧r.a9 m=true∧r=AV.ap 1 xs∧List.take m H=H:=
  fun x hx=>⟨H.length,oN _,_,hx,by simpa [AV.a9] using mj,rfl,by simp⟩
 cases xs with
 | nil=>
   simp only [dk,isNil,fe,bu,bE,ns,dn,List.replicate]
   exact ⟨⟨fun _=>⟨.inr trivial,lQ _ (.inr (.inr (.inr (.inl ⟨rfl,1,rfl⟩))))⟩,by simp⟩,by simp,fun _=>⟨by simp,by simp [qP],.inr trivial,lQ _ (.inl rfl)⟩⟩
 | cons x xs=>
   simp only [dk,isNil,fe,bu,bE,ns,dn,List.replicate]
   exact ⟨by simp,fun _=>⟨by simpa using hb,h1,.inr trivial,lQ _ (.inl rfl)⟩⟩
theorem zp (H:List aa):aw Tryz.prog 118 [.ag] H fun r H'=>r=.ap 1 []∧H'=H:=by
 refine Ou.2.Ba (ac0 rfl) ?_
 simp only [Ou,aJ,mn,jP,sH,bB,put,get,aq,eM,uL,bV,AV.ab,List.map,Nat.reduceEqDiff,reduceIte,b8,sM]
 simp only [dk,isNil,fe]
 exact ⟨fun _=>⟨.inr trivial,H.length,oN _,_,.inr (.inr (.inr (.inl ⟨rfl,1,rfl⟩))),rfl,rfl,by simp⟩,by simp⟩
def Bf:List AV→Option AV
 | [.ap _ xs]=>if (xs.all fun y=>y.cells.length == 1 && y.cells.all AV.one)=true∧xs.length * 8≤140737488355328∧aj 0 xs=true then some (.ap 1 xs) else none
 | [.ag]=>some (.ap 1 [])
 | _=>none
theorem Bg {xs:List AV} (h:aj 0 xs=true) (k:Nat):aj k xs=true:=bD (ab0 _) xs h
theorem C9:uw Tryz.prog 118 (.wT Bf):=by
 intro args r H h
 unfold Bf at h
 split at h <;> try cases h
 rotate_left
 ·exact zp H
 split at h <;> cases h
 rename_i hc
 refine wW _ _ _ ?_ hc.2.1 (Bg hc.2.2 _)
 intro y hy
 have:=aaJ.1 hc.1 y hy
 simpa using this
end Go.aI
end
section
set_option maxRecDepth 100000
namespace Go.aI
open Go Go.Proofs
theorem X9:uw Tryz.prog 238 (.wT mS):=Be Tryz.func238 (by kernel_rfl) (by kernel_rfl) (by kernel_rfl) (by kernel_rfl)
theorem Ya:uw Tryz.prog 231 (.wT countP):=KV Tryz.func231 (by kernel_rfl) (by kernel_rfl) (by kernel_rfl) (by kernel_rfl)
end Go.aI
end
section
set_option maxRecDepth 100000
namespace Go.aI
open Go Go.Proofs
noncomputable def S6:zk:=[(53,.ir Rb.1),(59,.ir k59.1),(62,.ir k62.1),(64,.ir WL),(65,.ir VW.1),(81,.ir S1),(92,.ir k92.1),(100,.ir C5.1),(102,.ir C6.1),(108,.ir Ot.1),(114,.ir C7.1),(118,.wT Bf),(121,.ir WX.1),(126,.ir WZ.1),(130,.ir Ov.1),(141,.ir KS),(142,.ir Ow.1),(143,.ir KT),(144,.ir KU),(161,.ir Ox.1),(165,.ir Xl.1),(171,.ir Oy.1),(172,.ir Oz.1),(173,.ir OA.1),(178,.ir Xq.1),(179,.ir Xr.1),(180,.ir Xs.1),(181,.ir Xt.1),(190,.ir OB.1),(191,.ir OC.1),(192,.ir OD.1),(193,.ir OE.1),(194,.ir OF.1),(211,.ir OJ.1),(216,.ir XN.1),(217,.ir XO.1),(218,.ir XP.1),(219,.ir XQ.1),(228,.ir OK.1),(229,.ir OL.1),(230,.ir X0.1),(231,.wT countP),(237,.ir X3.1),(238,.wT mS),(240,.ir X4.1),(241,.ir X5.1),(245,.ir X6.1),(246,.ir X7.1),(247,.ir X8.1)]
theorem sU:zm Tryz.prog S6:=⟨Rb.2,k59.2,k62.2,abG,VW.2,WN,k92.2,C5.2,C6.2,Ot.2,C7.2,C9,WX.2,WZ.2,Ov.2,Re,Ow.2,Rg,Ri,Ox.2,Xl.2,Oy.2,Oz.2,OA.2,Xq.2,Xr.2,Xs.2,Xt.2,OB.2,OC.2,OD.2,OE.2,OF.2,OJ.2,XN.2,XO.2,XP.2,XQ.2,OK.2,OL.2,X0.2,Ya,X3.2,X9,X4.2,X5.2,X6.2,X7.2,X8.2,trivial⟩
end Go.aI
end
