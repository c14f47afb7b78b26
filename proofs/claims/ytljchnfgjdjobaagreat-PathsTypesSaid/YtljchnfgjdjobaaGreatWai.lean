/- Part 9 of 20 of the proof. -/
import Derived.Test.YtljchnfgjdjobaaGreatWag
import Derived.Test.YtljchnfgjdjobaaGreatWah
import Derived.KernelRfl
set_option linter.unusedVariables false
set_option linter.unusedSimpArgs false
set_option linter.defProp false
set_option linter.unusedSectionVars false
section
open Go Go.Proofs Go.aI
namespace Go.aI
theorem xK (o:Nat) (xs:List AV) (H:List aa) (h1:qQ 1 xs) (hb:xs.length * 8≤140737488355328) (mV:al H.length xs=true) :
 ax Tryz.prog 118 [.aj o xs] H fun r H'=>r=.aj 1 xs∧H'=H:=by
 refine PU.2.BY (ad3 rfl) ?_
 simp only [PU,aH,mX,ku,tM,bD,put,get,au,fa,vO,bY,AV.ab,List.map,Nat.reduceEqDiff,reduceIte,bS,tS]
 have mw:∀ (x:AV) ,x.le (.aj 1 xs)→∃ m,H.length≤m∧∃ r,x.le r∧r.bb m=true∧r=AV.aj 1 xs∧List.take m H=H:=
  fun x hx=>⟨H.length,tv _,_,hx,by simpa [AV.bb] using mV,rfl,by simp⟩
 cases xs with
 | nil=>
   simp only [dx,isNil,fA,bm,bw,oa,dA,List.replicate]
   exact ⟨⟨fun _=>⟨.inr trivial,mw _ (.inr (.inr (.inr (.inl ⟨rfl,1,rfl⟩))))⟩,by simp⟩,by simp,fun _=>⟨by simp,by simp [qQ],.inr trivial,mw _ (.inl rfl)⟩⟩
 | cons x xs=>
   simp only [dx,isNil,fA,bm,bw,oa,dA,List.replicate]
   exact ⟨by simp,fun _=>⟨by simpa using hb,h1,.inr trivial,mw _ (.inl rfl)⟩⟩
theorem Ao (H:List aa):ax Tryz.prog 118 [.ag] H fun r H'=>r=.aj 1 []∧H'=H:=by
 refine PU.2.BY (ad3 rfl) ?_
 simp only [PU,aH,mX,ku,tM,bD,put,get,au,fa,vO,bY,AV.ab,List.map,Nat.reduceEqDiff,reduceIte,bS,tS]
 simp only [dx,isNil,fA]
 exact ⟨fun _=>⟨.inr trivial,H.length,tv _,_,.inr (.inr (.inr (.inl ⟨rfl,1,rfl⟩))),rfl,rfl,by simp⟩,by simp⟩
def B3:List AV→Option AV
 | [.aj _ xs]=>if (xs.all fun y=>y.cells.length == 1 && y.cells.all AV.one)=true∧xs.length * 8≤140737488355328∧al 0 xs=true then some (.aj 1 xs) else none
 | [.ag]=>some (.aj 1 [])
 | _=>none
theorem B4 {xs:List AV} (h:al 0 xs=true) (k:Nat):al k xs=true:=bF (acR _) xs h
theorem D6:vA Tryz.prog 118 (.xH B3):=by
 intro args r H h
 unfold B3 at h
 split at h <;> try cases h
 rotate_left
 ·exact Ao H
 split at h <;> cases h
 rename_i hc
 refine xK _ _ _ ?_ hc.2.1 (B4 hc.2.2 _)
 intro y hy
 have:=aaO.1 hc.1 y hy
 simpa using this
end Go.aI
end
section
set_option maxRecDepth 100000
namespace Go.aI
open Go Go.Proofs
theorem ZA:vA Tryz.prog 238 (.xH nI):=B2 Tryz.func238 (by kernel_rfl) (by kernel_rfl) (by kernel_rfl) (by kernel_rfl)
theorem ZB:vA Tryz.prog 231 (.xH countP):=Mg Tryz.func231 (by kernel_rfl) (by kernel_rfl) (by kernel_rfl) (by kernel_rfl)
end Go.aI
end
section
set_option maxRecDepth 100000
namespace Go.aI
open Go Go.Proofs
noncomputable def UA:Al:=[(53,.ir SR.1),(59,.ir k59.1),(62,.ir k62.1),(64,.ir Yf),(65,.ir Xq.1),(81,.ir Uv),(92,.ir k92.1),(100,.ir D2.1),(102,.ir D3.1),(108,.ir PT.1),(114,.ir D4.1),(118,.xH B3),(121,.ir PV.1),(126,.ir PW.1),(130,.ir PX.1),(141,.ir Md),(142,.ir PY.1),(143,.ir Me),(144,.ir Mf),(161,.ir J2.1),(165,.ir YL.1),(171,.ir PZ.1),(172,.ir P1.1),(173,.ir P2.1),(178,.ir P3.1),(179,.ir P4.1),(180,.ir P5.1),(181,.ir P6.1),(190,.ir P7.1),(191,.ir P8.1),(192,.ir P9.1),(193,.ir Qa.1),(194,.ir Qb.1),(211,.ir Qf.1),(216,.ir Qg.1),(217,.ir Qh.1),(218,.ir Qi.1),(219,.ir Qj.1),(228,.ir Qk.1),(229,.ir Ql.1),(230,.ir Zl.1),(231,.xH countP),(237,.ir Qm.1),(238,.xH nI),(240,.ir Zr.1),(241,.ir Zs.1),(245,.ir Qn.1),(246,.ir Qo.1),(247,.ir Zw.1)]
theorem ua:Am Tryz.prog UA:=⟨SR.2,k59.2,k62.2,adu,Xq.2,Yh,k92.2,D2.2,D3.2,PT.2,D4.2,D6,PV.2,PW.2,PX.2,SU,PY.2,SW,SY,J2.2,YL.2,PZ.2,P1.2,P2.2,P3.2,P4.2,P5.2,P6.2,P7.2,P8.2,P9.2,Qa.2,Qb.2,Qf.2,Qg.2,Qh.2,Qi.2,Qj.2,Qk.2,Ql.2,Zl.2,ZB,Qm.2,ZA,Zr.2,Zs.2,Qn.2,Qo.2,Zw.2,trivial⟩
end Go.aI
end
