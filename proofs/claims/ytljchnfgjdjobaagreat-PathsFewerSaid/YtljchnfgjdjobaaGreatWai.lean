/- Part 9 of 18 of the proof. -/
import Derived.Test.YtljchnfgjdjobaaGreatWag
import Derived.Test.YtljchnfgjdjobaaGreatWah
import Derived.KernelRfl
set_option linter.unusedVariables false
set_option linter.unusedSimpArgs false
set_option linter.defProp false
set_option linter.unusedSectionVars false
section
open Go Go.Proofs Go.aH
namespace Go.aH
theorem vG (o:Nat) (xs:List AV) (H:List aa) (h1:sR 1 xs) (hb:xs.length * 8≤140737488355328) (ni:aj H.length xs=true) :
 aq Tryz.prog 118 [.ap o xs] H fun r H'=>r=.ap 1 xs∧H'=H:=by
 refine My.2.zU (Nat.le_of_ble_eq_true rfl) ?_
 simp only [My,aJ,mP,jm,rH,bo,put,get,al,eE,tL,bX,AV.ab,List.map,Nat.reduceEqDiff,reduceIte,bR,rM]
 have j4:∀ (x:AV) ,x.le (.ap 1 xs)→∃ m,H.length≤m∧∃ r,x.le r∧r.aZ m=true∧r=AV.ap 1 xs∧List.take m H=H:=
  fun x hx=>⟨H.length,Nat.le_refl _,_,hx,by simpa [AV.aZ] using ni,rfl,by simp⟩
 cases xs with
 | nil=>
   simp only [dj,isNil,eX,bi,bp,mO,dw,List.replicate]
   exact ⟨⟨fun _=>⟨.inr trivial,j4 _ (.inr (.inr (.inr (.inl ⟨rfl,1,rfl⟩))))⟩,by simp⟩,by simp,fun _=>⟨by simp,by simp [sR],.inr trivial,j4 _ (.inl rfl)⟩⟩
 | cons x xs=>
   simp only [dj,isNil,eX,bi,bp,mO,dw,List.replicate]
   exact ⟨by simp,fun _=>⟨by simpa using hb,h1,.inr trivial,j4 _ (.inl rfl)⟩⟩
theorem yb (H:List aa):aq Tryz.prog 118 [.ah] H fun r H'=>r=.ap 1 []∧H'=H:=by
 refine My.2.zU (Nat.le_of_ble_eq_true rfl) ?_
 simp only [My,aJ,mP,jm,rH,bo,put,get,al,eE,tL,bX,AV.ab,List.map,Nat.reduceEqDiff,reduceIte,bR,rM]
 simp only [dj,isNil,eX]
 exact ⟨fun _=>⟨.inr trivial,H.length,Nat.le_refl _,_,.inr (.inr (.inr (.inl ⟨rfl,1,rfl⟩))),rfl,rfl,by simp⟩,by simp⟩
def zZ:List AV→Option AV
 | [.ap _ xs]=>if (xs.all fun y=>y.cells.length == 1 && y.cells.all AV.one)=true∧xs.length * 8≤140737488355328∧aj 0 xs=true then some (.ap 1 xs) else none
 | [.ah]=>some (.ap 1 [])
 | _=>none
theorem z4 {xs:List AV} (h:aj 0 xs=true) (k:Nat):aj k xs=true:=bD (Nat.zero_le _) xs h
theorem BX:tw Tryz.prog 118 (.vD zZ):=by
 intro args r H h
 unfold zZ at h
 split at h <;> try cases h
 rotate_left
 ·exact yb H
 split at h <;> cases h
 rename_i hc
 refine vG _ _ _ ?_ hc.2.1 (z4 hc.2.2 _)
 intro y hy
 have:=List.all_eq_true.1 hc.1 y hy
 simpa using this
end Go.aH
end
section
set_option maxRecDepth 100000
namespace Go.aH
open Go Go.Proofs
theorem VD:tw Tryz.prog 238 (.vD mh):=zY Tryz.func238 (by kernel_rfl) (by kernel_rfl) (by kernel_rfl) (by kernel_rfl)
theorem VE:tw Tryz.prog 231 (.vD countP):=Jw Tryz.func231 (by kernel_rfl) (by kernel_rfl) (by kernel_rfl) (by kernel_rfl)
end Go.aH
end
section
set_option maxRecDepth 100000
namespace Go.aH
open Go Go.Proofs
noncomputable def Q0:x8:=[(53,.ir Pj.1),(59,.ir Yg.1),(62,.ir Yh.1),(64,.ir UH),(65,.ir TT.1),(81,.ir QV),(92,.ir k92.1),(100,.ir BT.1),(102,.ir BU.1),(108,.ir Mx.1),(114,.ir BV.1),(118,.vD zZ),(121,.ir Mz.1),(126,.ir MA.1),(130,.ir MB.1),(141,.ir Jt),(142,.ir MC.1),(143,.ir Ju),(144,.ir Jv),(161,.ir Hk.1),(165,.ir Vd.1),(171,.ir MD.1),(172,.ir ME.1),(173,.ir MF.1),(178,.ir MG.1),(179,.ir MH.1),(180,.ir MJ.1),(181,.ir MK.1),(190,.ir ML.1),(191,.ir MM.1),(192,.ir MN.1),(193,.ir MO.1),(194,.ir MP.1),(211,.ir MT.1),(216,.ir MU.1),(217,.ir MV.1),(218,.ir MW.1),(219,.ir MX.1),(228,.ir MY.1),(229,.ir MZ.1),(230,.ir Vx.1),(231,.vD countP),(237,.ir M4.1),(238,.vD mh),(240,.ir Vz.1),(241,.ir VA.1),(245,.ir M5.1),(246,.ir M6.1),(247,.ir VC.1)]
theorem rU:x9 Tryz.prog Q0:=⟨Pj.2,Yg.2,Yh.2,Zb,TT.2,UJ,k92.2,BT.2,BU.2,Mx.2,BV.2,BX,Mz.2,MA.2,MB.2,Pl,MC.2,Pn,Pp,Hk.2,Vd.2,MD.2,ME.2,MF.2,MG.2,MH.2,MJ.2,MK.2,ML.2,MM.2,MN.2,MO.2,MP.2,MT.2,MU.2,MV.2,MW.2,MX.2,MY.2,MZ.2,Vx.2,VE,M4.2,VD,Vz.2,VA.2,M5.2,M6.2,VC.2,trivial⟩
end Go.aH
end
