/- Part 9 of 19 of the proof. -/
import Derived.Test.YtljchnfgjdjobaaGreatYag
import Derived.Test.YtljchnfgjdjobaaGreatYah
import Derived.KernelRfl
set_option linter.unusedVariables false
set_option linter.unusedSimpArgs false
set_option linter.defProp false
set_option linter.unusedSectionVars false
section
open Go Go.Proofs Go.aJ
namespace Go.aJ
theorem wH (o:Nat) (xs:List AV) (H:List aa) (h1:sq 1 xs) (hb:xs.length * 8≤140737488355328) (nD:ak H.length xs=true) :
 aw Tryz.prog 118 [.al o xs] H fun r H'=>r=.al 1 xs∧H'=H:=by
 refine NI.2.AG (adD rfl) ?_
 simp only [NI,aK,m9,jB,sy,bp,put,get,au,eJ,uB,b8,AV.ae,List.map,Nat.reduceEqDiff,reduceIte,bV,sE]
 have lB:∀ (x:AV) ,x.le (.al 1 xs)→∃ m,H.length≤m∧∃ r,x.le r∧r.a8 m=true∧r=AV.al 1 xs∧List.take m H=H:=
  fun x hx=>⟨H.length,yo _,_,hx,by simpa [AV.a8] using nD,rfl,by simp⟩
 cases xs with
 | nil=>
   simp only [dl,isNil,fc,bj,bw,m8,dB,List.replicate]
   exact ⟨⟨fun _=>⟨.inr trivial,lB _ (.inr (.inr (.inr (.inl ⟨rfl,1,rfl⟩))))⟩,by simp⟩,by simp,fun _=>⟨by simp,by simp [sq],.inr trivial,lB _ (.inl rfl)⟩⟩
 | cons x xs=>
   simp only [dl,isNil,fc,bj,bw,m8,dB,List.replicate]
   exact ⟨by simp,fun _=>⟨by simpa using hb,h1,.inr trivial,lB _ (.inl rfl)⟩⟩
theorem yW (H:List aa):aw Tryz.prog 118 [.ah] H fun r H'=>r=.al 1 []∧H'=H:=by
 refine NI.2.AG (adD rfl) ?_
 simp only [NI,aK,m9,jB,sy,bp,put,get,au,eJ,uB,b8,AV.ae,List.map,Nat.reduceEqDiff,reduceIte,bV,sE]
 simp only [dl,isNil,fc]
 exact ⟨fun _=>⟨.inr trivial,H.length,yo _,_,.inr (.inr (.inr (.inl ⟨rfl,1,rfl⟩))),rfl,rfl,by simp⟩,by simp⟩
def AL:List AV→Option AV
 | [.al _ xs]=>if (xs.all fun y=>y.cells.length == 1 && y.cells.all AV.one)=true∧xs.length * 8≤140737488355328∧ak 0 xs=true then some (.al 1 xs) else none
 | [.ah]=>some (.al 1 [])
 | _=>none
theorem AM {xs:List AV} (h:ak 0 xs=true) (k:Nat):ak k xs=true:=bu (ac1 _) xs h
theorem CK:ug Tryz.prog 118 (.wE AL):=by
 intro args r H h
 unfold AL at h
 split at h <;> try cases h
 rotate_left
 ·exact yW H
 split at h <;> cases h
 rename_i hc
 refine wH _ _ _ ?_ hc.2.1 (AM hc.2.2 _)
 intro y hy
 have:=aaL.1 hc.1 y hy
 simpa using this
end Go.aJ
end
section
set_option maxRecDepth 100000
namespace Go.aJ
open Go Go.Proofs
theorem WO:ug Tryz.prog 238 (.wE mC):=AK Tryz.func238 (by kernel_rfl) (by kernel_rfl) (by kernel_rfl) (by kernel_rfl)
theorem WQ:ug Tryz.prog 231 (.wE countP):=Ks Tryz.func231 (by kernel_rfl) (by kernel_rfl) (by kernel_rfl) (by kernel_rfl)
end Go.aJ
end
section
set_option maxRecDepth 100000
namespace Go.aJ
open Go Go.Proofs
noncomputable def Sb:yT:=[(53,.ir Qu.1),(59,.ir Zw.1),(62,.ir Zx.1),(64,.ir VU),(65,.ir U2.1),(81,.ir R6),(92,.ir Zy.1),(100,.ir CF.1),(102,.ir CG.1),(108,.ir NH.1),(114,.ir CH.1),(118,.wE AL),(121,.ir NJ.1),(126,.ir NK.1),(130,.ir NL.1),(141,.ir Kp),(142,.ir NM.1),(143,.ir Kq),(144,.ir Kr),(161,.ir Ip.1),(165,.ir NN.1),(171,.ir NO.1),(172,.ir NP.1),(173,.ir NQ.1),(178,.ir NR.1),(179,.ir NS.1),(180,.ir NT.1),(181,.ir NU.1),(190,.ir NV.1),(191,.ir NW.1),(192,.ir NX.1),(193,.ir NY.1),(194,.ir NZ.1),(211,.ir N3.1),(216,.ir N4.1),(217,.ir N5.1),(218,.ir N6.1),(219,.ir N7.1),(228,.ir N8.1),(229,.ir N9.1),(230,.ir WI.1),(231,.wE countP),(237,.ir Ob.1),(238,.wE mC),(240,.ir WK.1),(241,.ir WL.1),(245,.ir Oe.1),(246,.ir Of.1),(247,.ir WN.1)]
theorem sM:yU Tryz.prog Sb:=⟨Qu.2,Zw.2,Zx.2,aar,U2.2,VW,Zy.2,CF.2,CG.2,NH.2,CH.2,CK,NJ.2,NK.2,NL.2,Qw,NM.2,Qy,QA,Ip.2,NN.2,NO.2,NP.2,NQ.2,NR.2,NS.2,NT.2,NU.2,NV.2,NW.2,NX.2,NY.2,NZ.2,N3.2,N4.2,N5.2,N6.2,N7.2,N8.2,N9.2,WI.2,WQ,Ob.2,WO,WK.2,WL.2,Oe.2,Of.2,WN.2,trivial⟩
end Go.aJ
end
