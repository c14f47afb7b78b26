/- Part 9 of 20 of the proof. -/
import Derived.Test.YtljchnfgjdjobaaGreatVag
import Derived.Test.YtljchnfgjdjobaaGreatVah
import Derived.KernelRfl
set_option linter.unusedVariables false
set_option linter.unusedSimpArgs false
set_option linter.defProp false
set_option linter.unusedSectionVars false
section
open Go Go.Proofs Go.aK
namespace Go.aK
theorem xE (o:Nat) (xs:List AV) (H:List aa) (h1:rE 1 xs) (hb:xs.length * 8≤140737488355328) (me:aj H.length xs=true) :
 ax Tryz.prog 118 [.al o xs] H fun r H'=>r=.al 1 xs∧H'=H:=by
 refine Ps.2.BY (adp rfl) ?_
 simp only [Ps,aG,mO,kg,tD,bC,put,get,aq,eZ,vJ,b7,AV.ab,List.map,Nat.reduceEqDiff,reduceIte,bV,tJ]
 have mq:∀ (x:AV) ,x.le (.al 1 xs)→∃ m,H.length≤m∧∃ r,x.le r∧r.bc m=true∧r=AV.al 1 xs∧List.take m H=H:=
  fun x hx=>⟨H.length,rC _,_,hx,by simpa [AV.bc] using me,rfl,by simp⟩
 cases xs with
 | nil=>
   simp only [dz,isNil,fy,bw,bF,nS,dB,List.replicate]
   exact ⟨⟨fun _=>⟨.inr trivial,mq _ (.inr (.inr (.inr (.inl ⟨rfl,1,rfl⟩))))⟩,by simp⟩,by simp,fun _=>⟨by simp,by simp [rE],.inr trivial,mq _ (.inl rfl)⟩⟩
 | cons x xs=>
   simp only [dz,isNil,fy,bw,bF,nS,dB,List.replicate]
   exact ⟨by simp,fun _=>⟨by simpa using hb,h1,.inr trivial,mq _ (.inl rfl)⟩⟩
theorem Al (H:List aa):ax Tryz.prog 118 [.ag] H fun r H'=>r=.al 1 []∧H'=H:=by
 refine Ps.2.BY (adp rfl) ?_
 simp only [Ps,aG,mO,kg,tD,bC,put,get,aq,eZ,vJ,b7,AV.ab,List.map,Nat.reduceEqDiff,reduceIte,bV,tJ]
 simp only [dz,isNil,fy]
 exact ⟨fun _=>⟨.inr trivial,H.length,rC _,_,.inr (.inr (.inr (.inl ⟨rfl,1,rfl⟩))),rfl,rfl,by simp⟩,by simp⟩
def B3:List AV→Option AV
 | [.al _ xs]=>if (xs.all fun y=>y.cells.length == 1 && y.cells.all AV.one)=true∧xs.length * 8≤140737488355328∧aj 0 xs=true then some (.al 1 xs) else none
 | [.ag]=>some (.al 1 [])
 | _=>none
theorem B4 {xs:List AV} (h:aj 0 xs=true) (k:Nat):aj k xs=true:=bE (acA _) xs h
theorem DY:vq Tryz.prog 118 (.xB B3):=by
 intro args r H h
 unfold B3 at h
 split at h <;> try cases h
 rotate_left
 ·exact Al H
 split at h <;> cases h
 rename_i hc
 refine xE _ _ _ ?_ hc.2.1 (B4 hc.2.2 _)
 intro y hy
 have:=abF.1 hc.1 y hy
 simpa using this
end Go.aK
end
section
set_option maxRecDepth 100000
namespace Go.aK
open Go Go.Proofs
theorem Zg:vq Tryz.prog 238 (.xB nA):=B2 Tryz.func238 (by kernel_rfl) (by kernel_rfl) (by kernel_rfl) (by kernel_rfl)
theorem Zh:vq Tryz.prog 231 (.xB countP):=LW Tryz.func231 (by kernel_rfl) (by kernel_rfl) (by kernel_rfl) (by kernel_rfl)
end Go.aK
end
section
set_option maxRecDepth 100000
namespace Go.aK
open Go Go.Proofs
noncomputable def T2:Ai:=[(53,.ir Sd.1),(59,.ir k59.1),(62,.ir k62.1),(64,.ir XI),(65,.ir WT.1),(81,.ir TW),(92,.ir k92.1),(100,.ir DU.1),(102,.ir DV.1),(108,.ir Pq.1),(114,.ir DW.1),(118,.xB B3),(121,.ir XV.1),(126,.ir XX.1),(130,.ir Pt.1),(141,.ir LS),(142,.ir Pu.1),(143,.ir LU),(144,.ir LV),(161,.ir Pv.1),(165,.ir Yo.1),(171,.ir Pw.1),(172,.ir Py.1),(173,.ir Pz.1),(178,.ir Yv.1),(179,.ir Yw.1),(180,.ir Yx.1),(181,.ir Yy.1),(190,.ir PD.1),(191,.ir PE.1),(192,.ir PF.1),(193,.ir PG.1),(194,.ir PH.1),(211,.ir PL.1),(216,.ir YV.1),(217,.ir YW.1),(218,.ir YX.1),(219,.ir YY.1),(228,.ir PM.1),(229,.ir PN.1),(230,.ir Y7.1),(231,.xB countP),(237,.ir Za.1),(238,.xB nA),(240,.ir Zb.1),(241,.ir Zc.1),(245,.ir Zd.1),(246,.ir Ze.1),(247,.ir Zf.1)]
theorem tS:Aj Tryz.prog T2:=⟨Sd.2,k59.2,k62.2,acT,WT.2,XK,k92.2,DU.2,DV.2,Pq.2,DW.2,DY,XV.2,XX.2,Pt.2,Sf,Pu.2,Sj,Sl,Pv.2,Yo.2,Pw.2,Py.2,Pz.2,Yv.2,Yw.2,Yx.2,Yy.2,PD.2,PE.2,PF.2,PG.2,PH.2,PL.2,YV.2,YW.2,YX.2,YY.2,PM.2,PN.2,Y7.2,Zh,Za.2,Zg,Zb.2,Zc.2,Zd.2,Ze.2,Zf.2,trivial⟩
end Go.aK
end
