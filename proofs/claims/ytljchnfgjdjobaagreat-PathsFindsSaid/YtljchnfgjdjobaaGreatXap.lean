/- Part 16 of 20 of the proof. -/
import Derived.Test.YtljchnfgjdjobaaGreatXao
import Derived.Test.YtljchnfgjdjobaaGreatXam
import Derived.KernelRfl
import Derived.Test.YtljchnfgjdjobaaGreatXal
import Derived.Test.YtljchnfgjdjobaaGreatXaf
import Derived.Test.YtljchnfgjdjobaaGreatXaj
import Derived.Laws.Runes
set_option linter.unusedVariables false
set_option linter.unusedSimpArgs false
set_option linter.defProp false
set_option linter.unusedSectionVars false
section
set_option maxRecDepth 100000
namespace Go.aI
open Go Go.Proofs Go.dD
theorem ysI {t:Ty} (ht:zt t) {ops:List Int} {vo:AV} (ho:IL vo ops) (hr:∀ i∈ops,0≤i∧i < t.s.ops.length) (jZ:ops.length≤1000000) {pl:List Int} (vU:pl.length=ops.length) (H W:List aa) (es:List AV) (yS:es=mG 41 [(2,.ah t.av),(3,.ah vo),(4,.ptr H.length 0),(5,.ptr (H.length + 1) 0),(6,.ah (bu pl)),(21,.fn (.func 205) [] [.ah (.int .i64 ops.length),.ah (.int .i64 1),.ah (.int .i64 3)])]) :
 YS ops.length (cM 1 ((3:Int) + 1 - 1).toNat) (H.length + 2 + W.length) (fun s:Fo=>fP H W s++[.loop (jV s) bG es]) (fun s=>s=none) (df t ops pl):=by
 refine ⟨fun l s X hl _ hs=>?_,fun l s hs bT=>?_,fun s s'=>?_⟩
 ·subst hs
  have:=Nl ht ho hr jZ vU H W es yS l hl X _ rfl
  have el:jV none=.ready:=rfl
  refine gK.mono (by simpa [el,l8] using this) fun r H' h=>?_
  refine ⟨h.1,?_⟩
  rw [h.2];simp
 ·subst hs
  unfold df at *
  split at bT
  ·cases bT
  ·rename_i h;rw [if_neg h]
 ·simp [fC]
theorem Nm {vals:List Int}:∀ {n:Nat} {l:List Int},l∈iu vals n→l.length=n∧∀ x∈l,x∈vals
 | 0,l,h=>by
   simp only [iu,aak,abA,or_false] at h
   subst h;exact ⟨rfl,fun x hx=>by cases hx⟩
 | n + 1,l,h=>by
   simp only [iu,abY,aaw] at h
   obtain ⟨x,hx,y,hy,rfl⟩:=h
   obtain ⟨h1,h2⟩:=Nm hy
   exact ⟨by simp [h1],fun z hz=>by
    rcases aak.1 hz with rfl | hz
    ·exact hx
    ·exact h2 z hz⟩
theorem Nn {t:Ty} (ht:zt t) {ops:List Int} {vo:AV} (ho:IL vo ops) (hr:∀ i∈ops,0≤i∧i < t.s.ops.length) (jZ:ops.length≤1000000) (H:List aa) (es:List AV) (yS:es=mG 41 [(2,.ah t.av),(3,.ah vo),(4,.ptr H.length 0),(5,.ptr (H.length + 1) 0),(14,.fn (.func 205) [] [.ah (.int .i64 ops.length),.ah (.int .i64 0),.ah (.int .i64 ((ops.length:Int) - 1))])])
 (pl:List Int) (vU:pl.length=ops.length) (mg:∀ x∈pl,x≤1000000) (Y:List aa) :
 l8 Tryz.prog (H.length + 2) [bu pl] (fP H [] none++.loop .ready bh es::Y) fun r H'=>r=.bool (ej t ops none pl).2∧H'=fP H [] (ej t ops none pl).1++.loop (jV (ej t ops none pl).1) bh es::Y:=by
 have ees:es=[.any,.any,.ah t.av,.ah vo,.ptr H.length 0,.ptr (H.length + 1) 0,.any,.any,.any,.any,.any,.any,.any,.any,.fn (.func 205) [] [.ah (.int .i64 ops.length),.ah (.int .i64 0),.ah (.int .i64 ((ops.length:Int) - 1))],.any,.any,.any,.any,.any,.any,.any,.any,.any,.any,.any,.any,.any,.any,.any,.any,.any,.any,.any,.any,.any,.any,.any,.any,.any,.any]:=by rw [yS];rfl
 have hk:∀ s,(fP H [] s).length=H.length + 2:=fun s=>by rw [fC];rfl
 have e0:∀ s st Y,(fP H [] s++aa.loop st bh es::Y)[H.length + 2]?=some (.loop st bh es):=fun s st Y=>wx _ _ _ _ (hk s)
 have iJ:∀ s st st' Y,(fP H [] s++aa.loop st bh es::Y).set (H.length + 2) (.loop st' bh es)=fP H [] s++aa.loop st' bh es::Y:=fun s st st' Y=>wy _ _ _ _ _ (hk s)
 refine tT (lc:=bh) (es:=es) (e0 none .ready Y) UA UB ⟨by rw [ees,Ci];rfl,by rw [yo];rfl,by rw [yo,Ci];rfl,?_,?_⟩ (yh ?_)
 ·rw [ees];intro x hx;simp only [aak,abA,or_false] at hx
  repeat' (first | (rcases hx with hx | hx;· subst hx;rfl) | (subst hx;rfl))
 ·intro x hx;simp only [aak,abA,or_false] at hx;subst hx;exact (aL pl).2.1
 ·have ez:(bh.ps.zip [bu pl]).reverse++cc 0 es=(15,bu pl)::cc 0 es:=by rw [yo];rfl
  rw [ez]
  generalize zw:cc 0 es=ea
  have g2:get ea 2=.ah t.av:=by rw [← zw,ees];rfl
  have g3:get ea 3=.ah vo:=by rw [← zw,ees];rfl
  have g4:get ea 4=.ptr H.length 0:=by rw [← zw,ees];rfl
  have g5:get ea 5=.ptr (H.length + 1) 0:=by rw [← zw,ees];rfl
  simp only [Mf,Mg]
  have hb:∀ K,mf (H.length + 2) (fP H [] none++.loop .ready bh es::Y) K=K (fP H [] none++.loop .busy bh es::Y):=fun K=>by rw [uz (e0 none .ready Y),iJ]
  obtain ⟨a1,a2,a3,a4⟩:=ho.one
  obtain ⟨b1,b2,b3,b4,b5⟩:=aL pl
  have lvo:∀ (H:List aa) (φ:AV→Prop),a8 none (.ah vo) H φ=φ vo:=fun H φ=>by simp [a8,a1,a2]
  have ip:IL (bu pl) pl:=.inl rfl
  have hlen:(fP H [] none++.loop .ready bh es::Y).length=H.length + 2 + (Y.length + 1):=by rw [aaj,hk];rfl
  have endN:∀ n0 Z,n0=H.length + 2 + (Y.length + 1)→ej t ops none pl=(none,true)→vK n0 (H.length + 2) (fun r H'=>r=.bool (ej t ops none pl).2∧H'=fP H [] (ej t ops none pl).1++.loop (jV (ej t ops none pl).1) bh es::Y) .normal (fP H [] none++.loop .busy bh es::(Y++Z)):=by
   intro n0 Z Ba bT
   rw [GO (e0 none .busy _),iJ,bT]
   refine ⟨by rw [aaj,hk];simp;omega,rfl,?_⟩
   rw [Ba,← hlen,show fP H [] none++aa.loop .ready bh es::(Y++Z)=(fP H [] none++aa.loop .ready bh es::Y)++Z by simp,aeg]
   rfl
  have endR:∀ n0 Z s,n0=H.length + 2 + (Y.length + 1)→ej t ops none pl=(s,false)→s.isSome=true→vK n0 (H.length + 2) (fun r H'=>r=.bool (ej t ops none pl).2∧H'=fP H [] (ej t ops none pl).1++.loop (jV (ej t ops none pl).1) bh es::Y) .ret (fP H [] s++.loop .busy bh es::(Y++Z)):=by
   intro n0 Z s Ba bT hs
   have hlen2:(fP H [] s++.loop (.jump .ret) bh es::Y).length=H.length + 2 + (Y.length + 1):=by rw [aaj,hk];rfl
   rw [Nj (e0 _ .busy _),iJ,bT]
   refine ⟨by rw [aaj,hk];simp;omega,rfl,?_⟩
   rw [Ba,← hlen2,show fP H [] s++aa.loop (.jump .ret) bh es::(Y++Z)=(fP H [] s++aa.loop (.jump .ret) bh es::Y)++Z by simp,aeg]
   have:jV s=.jump .ret:=if_pos hs
   rw [this]
  simp +contextual only [g2,g3,g4,g5,hb,b7,b1,b2,b4,b5,sZ,Nat.reduceEqDiff,Nat.reduceAdd,↓reduceIte]
  refine ae (aeP pl ip (by omega) mg) ?_
  cases hd:ji pl with
  | false=>
    have bT:ej t ops none pl=(none,true):=by rw [ej,if_neg (by rw [hd];simp)]
    simp +contextual only [Bool.not_false,sZ,Nat.reduceEqDiff,↓reduceIte]
    have:=endN ((fP H [] none).length + (Y.length + 1)) [] (by rw [hk]) bT
    rwa [abJ] at this
  | true=>
    have bT:ej t ops none pl=eG (df t ops pl) (iu (cM 1 3) ops.length) none:=by rw [ej,if_pos hd]
    simp +contextual only [Bool.not_true,lvo,ho.aO,ho.len (by omega),sZ,Nat.reduceEqDiff,Nat.reduceAdd,↓reduceIte]
    refine ae (aaC ops.length 1 3) ?_
    simp +contextual only [nU,sZ,Nat.reduceEqDiff,↓reduceIte]
    obtain ⟨W,hW⟩:∃ W,W=aa.loop .busy bh es::Y:=⟨_,rfl⟩
    have hH2:fP H [] none++aa.loop .busy bh es::Y=fP H W none:=by rw [hW];simp [fP]
    have hA:∀ s,fP H W s=fP H [] s++aa.loop .busy bh es::Y:=fun s=>by rw [hW];simp [fP]
    obtain ⟨esI,aaE⟩:∃ esI,esI=mG 41 [(2,AV.ah t.av),(3,.ah vo),(4,.ptr H.length 0),(5,.ptr (H.length + 1) 0),(6,.ah (bu pl)),(21,.fn (.func 205) [] [.ah (.int .i64 ops.length),.ah (.int .i64 1),.ah (.int .i64 3)])]:=⟨_,rfl⟩
    have ys:=ysI ht ho hr jZ vU H W esI aaE
    have rO:(3:Int) + 1 - 1=3:=rfl
    have hvt:((3:Int)).toNat=3:=rfl
    rw [rO,hvt] at ys
    have No:=aaB (n:=ops.length) (lo:=1) (hi:=3) (by omega) (by omega) jZ (Good:=fun s:Fo=>s=none) (hy:=by rw [rO,hvt];exact ys) (fun s=>by simp [fC]) none rfl
    rw [rO,hvt] at No
    rw [hH2]
    have eln:(fP H W none).length=H.length + 2 + W.length:=fC H W none
    refine uy (P:=Tryz.prog) (R:=fun r H'=>r=.tuple []∧H'=fP H W (eG (df t ops pl) (iu (cM 1 3) ops.length) none).1++[.loop (jV (eG (df t ops pl) (iu (cM 1 3) ops.length) none).1) bG esI]) 205 [] _ bG _ _ _ Tryz.call205 ?_ ?_
    ·rw [Cj,← aaE,eln]
     exact No
    ·have h2:=Ck t ops pl (iu (cM 1 3) ops.length) none rfl
     rintro r H' ⟨rfl,rfl⟩
     generalize SL:(eG (df t ops pl) (iu (cM 1 3) ops.length) none).1=s' at h2
     have aaF:ej t ops none pl=(s',s'.isNone):=by rw [bT];exact Prod.ext SL h2
     rw [eln]
     have eget:∀ st,(fP H W s'++[aa.loop st bG esI])[H.length + 2 + W.length]?=some (.loop st bG esI):=fun st=>wx _ _ _ _ (fC H W s')
     have eset:∀ st st',(fP H W s'++[aa.loop st bG esI]).set (H.length + 2 + W.length) (.loop st' bG esI)=fP H W s'++[.loop st' bG esI]:=fun st st'=>wy _ _ _ _ _ (fC H W s')
     cases s' with
     | none=>
       have el:jV none=.ready:=rfl
       rw [el,yg (eget _),eset]
       simp +contextual only [sk]
       have:=endN ((fP H [] none).length + (Y.length + 1)) [.loop .fQ bG esI] (by rw [hk]) aaF
       rw [hA]
       simpa using this
     | some o=>
       have el:jV (some o)=.jump .ret:=rfl
       rw [el,EC (eget _),eset]
       simp +contextual only [sk]
       have:=endR ((fP H [] none).length + (Y.length + 1)) [.loop .fQ bG esI] (some o) (by rw [hk]) aaF rfl
       rw [hA]
       simpa using this
end Go.aI
end
section
set_option maxRecDepth 100000
namespace Go.aI
open Go Go.Proofs Go.dD
theorem ysO {t:Ty} (ht:zt t) {ops:List Int} {vo:AV} (ho:IL vo ops) (hr:∀ i∈ops,0≤i∧i < t.s.ops.length) (jZ:ops.length≤1000000) (H:List aa) (es:List AV) (yS:es=mG 41 [(2,.ah t.av),(3,.ah vo),(4,.ptr H.length 0),(5,.ptr (H.length + 1) 0),(14,.fn (.func 205) [] [.ah (.int .i64 ops.length),.ah (.int .i64 0),.ah (.int .i64 ((ops.length:Int) - 1))])]) :
 YS ops.length (cM 0 ops.length) (H.length + 2) (fun s:Fo=>fP H [] s++[.loop (jV s) bh es]) (fun s=>s=none) (ej t ops):=by
 refine ⟨fun l s X hl hm hs=>?_,fun l s hs bT=>?_,fun s s'=>?_⟩
 ·subst hs
  have:=Nn ht ho hr jZ H es yS l hl (fun x hx=>by have:=AL.1 (hm x hx);omega) X
  have el:jV none=.ready:=rfl
  refine gK.mono (by simpa [el,l8] using this) fun r H' h=>?_
  refine ⟨h.1,?_⟩
  rw [h.2];simp
 ·subst hs
  have h2:(ej t ops none l).2=(ej t ops none l).1.isNone:=by
   unfold ej
   split
   ·exact Ck t ops l _ none rfl
   ·rfl
  rw [bT] at h2
  exact Option.isNone_iff_eq_none.1 h2.symm
 ·simp [fC]
def foA (s:Fo):AV:=match s with | none=>dE [] [] | some (P,S)=>dE P S
theorem Iq (n0 s s':Nat) (sz sz':Option Nat) (env:Env) (H:List aa) (R:AV→List aa→Prop):bP n0 [.c s sz,.c s' sz'] env H R=a8 sz (get env s) H fun x=>a8 sz' (get env s') H fun y=>vh n0 [x,y] H R:=agq
theorem c93 {t:Ty} (ht:zt t) {ops:List Int} {vo:AV} (ho:IL vo ops) (hr:∀ i∈ops,0≤i∧i < t.s.ops.length) (jZ:ops.length≤1000000):Pure Tryz.prog 93 [t.av,vo] (.tuple [foA (pG t ops),.bool (pG t ops).isSome]):=by
 refine fun H=>acZ.calls rfl ?_
 simp only [Xl,Xk]
 obtain ⟨e1,e2,e3,e4,e5,e6⟩:=Ty.facts t
 obtain ⟨a1,a2,a3,a4⟩:=ho.one
 have lvo:∀ (H:List aa) (φ:AV→Prop),a8 none (.ah vo) H φ=φ vo:=fun H φ=>by simp [a8,a1,a2]
 have zf2:List.map AV.ab [AV.ag,.ag]=[.ag,.ag]:=rfl
 have zb2:∀ n,aw n [AV.ag,.ag]=true:=fun _=>rfl
 have hw:IntKind.i64.wrap ((ops.length:Int) - 1)=(ops.length:Int) - 1:=cp _ (by omega)
 simp +contextual only [e1,a3,lvo,zf2,zb2,ho.aO,ho.len (by omega),hw,sZ,Nat.reduceEqDiff,Nat.reduceAdd,↓reduceIte,reduceCtorEq]
 refine ae (aaC ops.length 0 ((ops.length:Int) - 1)) ?_
 simp +contextual only [nU,sZ,Nat.reduceEqDiff,↓reduceIte,reduceCtorEq]
 have hA0:H++[aa.cells [AV.ag,.ag],.cells [.bool false]]=fP H [] none:=rfl
 rw [hA0]
 obtain ⟨esO,yS⟩:∃ esO,esO=mG 41 [(2,AV.ah t.av),(3,.ah vo),(4,.ptr H.length 0),(5,.ptr (H.length + 1) 0),(14,.fn (.func 205) [] [.ah (.int .i64 ops.length),.ah (.int .i64 0),.ah (.int .i64 ((ops.length:Int) - 1))])]:=⟨_,rfl⟩
 have ys:=ysO ht ho hr jZ H esO yS
 have hv:((ops.length:Int) - 1 + 1 - 0).toNat=ops.length:=by omega
 have No:=aaB (n:=ops.length) (lo:=0) (hi:=(ops.length:Int) - 1) (by omega) (by omega) jZ (Good:=fun s:Fo=>s=none) (hy:=by rw [hv];exact ys) (fun s=>by simp [fC]) none rfl
 rw [hv] at No
 have eln:∀ s,(fP H [] s).length=H.length + 2:=fun s=>fC H [] s
 refine uy (P:=Tryz.prog) (R:=fun r H'=>r=.tuple []∧H'=fP H [] (pG t ops)++[.loop (jV (pG t ops)) bh esO]) 205 [] _ bh _ _ _ Tryz.call205 ?_ ?_
 ·rw [Ci,← yS,eln]
  exact No
 ·rintro r H' ⟨rfl,rfl⟩
  generalize pG t ops=s'
  have eget:∀ st,(fP H [] s'++[aa.loop st bh esO])[H.length + 2]?=some (.loop st bh esO):=fun st=>wx _ _ _ _ (eln s')
  have eset:∀ st st',(fP H [] s'++[aa.loop st bh esO]).set (H.length + 2) (.loop st' bh esO)=fP H [] s'++[.loop st' bh esO]:=fun st st'=>wy _ _ _ _ _ (eln s')
  have k4:=Sm H [] [.loop .fQ bh esO] s'
  have k5:=Sn H [] [.loop .fQ bh esO] s'
  have htk:(fP H [] s'++[aa.loop .fQ bh esO]).take H.length=H:=by rw [abd (by rw [eln];omega),fP,aeg]
  have sp2:∀ (a b x y:AV),ai [a,b] 0 [x,y]=[x,y]:=fun _ _ _ _=>rfl
  rw [eln]
  cases s' with
  | none=>
    have el:jV none=.ready:=rfl
    rw [el,yg (eget _),eset]
    have o4n:o4 none=.cells [.ag,.ag]:=rfl
    have o5n:o5 none=.cells [.bool false]:=rfl
    rw [o4n] at k4
    rw [o5n] at k5
    have k4s:=fun o=>Sx (a:=o) (aS k4)
    have k5s:∀ o,((fP H [] none++[aa.loop .fQ bh esO]).set H.length o)[H.length + 1]?=some (.cells [.bool false]):=fun o=>by rw [zA (by omega)];exact k5
    have k5t:∀ o o',(((fP H [] none++[aa.loop .fQ bh esO]).set H.length o).set (H.length + 1) o')[H.length + 1]?=some o':=fun o o'=>Sx (by rw [ab7];exact aS k5)
    have k4t:∀ o o',(((fP H [] none++[aa.loop .fQ bh esO]).set H.length o).set (H.length + 1) o')[H.length]?=some o:=fun o o'=>by rw [zA (by omega)];exact k4s o
    have aeS:∀ o o',(((fP H [] none++[aa.loop .fQ bh esO]).set H.length o).set (H.length + 1) o').take H.length=H:=fun o o'=>by rw [abz (by omega),abz (by omega),htk]
    simp +contextual only [sk,k4,k5s,k4t,k5t,zf2,zb2,sp2,Iq,sZ,Nat.reduceEqDiff,Nat.reduceAdd,Nat.reduceLT,↓reduceIte,reduceCtorEq]
    exact RE (aeS _ _) ((aR [] []).2.2.2.2.2 _) rfl rfl rfl ⟨rfl,rfl⟩
  | some o=>
    obtain ⟨P,S⟩:=o
    have el:jV (some (P,S))=.jump .ret:=rfl
    rw [el,EC (eget _),eset]
    have o4n:o4 (some (P,S))=.cells [.al 0 (ints P),.al 0 (ints S)]:=rfl
    have o5n:o5 (some (P,S))=.cells [.bool true]:=rfl
    rw [o4n] at k4
    rw [o5n] at k5
    simp +contextual only [sk,k4,k5,Iq,sZ,Nat.reduceEqDiff,Nat.reduceAdd,Nat.reduceLT,↓reduceIte,reduceCtorEq]
    exact RE htk ((aR P S).2.2.2.2.2 _) rfl rfl rfl ⟨rfl,rfl⟩
end Go.aI
end
section
set_option maxRecDepth 100000
namespace Go.aI
open Go Go.Proofs Go.dD
theorem c66 {a b:List Int} {va vb:AV} (ha:IL va a) (hb:IL vb b) (la:a.length≤1000000000) (lb:b.length≤1000000000):Pure Tryz.prog 66 [va,vb] (.bool (decide (a=b))):=by
 refine fun H=>k66.2.calls rfl ?_
 simp only [k66,aH]
 obtain ⟨a1,a2,a3,a4⟩:=ha.one
 obtain ⟨b1,b2,b3,b4⟩:=hb.one
 simp +contextual only [a2,b2,ha.aO,hb.aO,ha.len (by omega),hb.len (by omega),sZ,Nat.reduceEqDiff,Nat.reduceAdd,↓reduceIte,reduceCtorEq]
 refine ⟨fun dP=>aK rfl (by rw [decide_eq_false (fun e=>dP (by rw [e]))]),fun heq=>?_⟩
 refine aq a.length (fun i=>∀ j,j < i→a.getD j 0=b.getD j 0)
  (fun i=>[(0,va),(1,vb),(12,.int .i64 b.length),(13,.int .i64 i)]) (fun i=>H) ⟨fun j hj=>by omega,ax _ _ _⟩ fun i hi hI=>?_
 simp +contextual only [a2,b2,ha.lens,hb.lens,ha.idx,hb.idx,zB,sZ,Nat.reduceEqDiff,↓reduceIte,reduceCtorEq]
 refine ⟨fun aM=>⟨by omega,by omega,fun dP=>?_,fun he=>?_⟩,fun fV=>?_⟩
 ·refine aK rfl (by rw [decide_eq_false (fun e=>dP (by rw [e]))])
 ·refine ⟨i + 1,⟨by omega,fun j hj=>?_⟩,by omega,ay (by rw [aj i (by omega)]) rfl⟩
  by_cases h:j=i
  ·subst h;exact he
  ·exact hI j (by omega)
 ·refine aK rfl (by rw [decide_eq_true (Av (by omega) fun j hj=>hI j (by omega))])
noncomputable def rH (e:Int) (t:Ty) (ps ss:List Int):Int×Bool×Int:=
 if e≠0 then (0,false,e) else if jy t.s ps ss≠0 then (0,false,jy t.s ps ss) else (max (jr t ps ss) 0,decide (0≤jr t ps ss),0)
def GU (p:Int×Bool×Int):AV:=.tuple [.int .i64 p.1,.bool p.2.1,.int .i64 p.2.2]
theorem c31 {t:Ty} {e:Int} (h62:Pure Tryz.prog 62 [t.av] (.int .i64 e)) (ht:e=0→zt t) (ps ss:List Int):Pure Tryz.prog 31 [t.av,dE ps ss] (GU (rH e t ps ss)):=by
 refine fun H=>k31.2.calls rfl ?_
 simp only [k31,aH]
 obtain ⟨q1,q2,q3,q4,q5,q6⟩:=aR ps ss
 obtain ⟨e1,e2,e3,e4,e5,e6⟩:=Ty.facts t
 simp +contextual only [q1,e1,e4,gl,sZ,Nat.reduceEqDiff,Nat.reduceAdd,↓reduceIte,reduceCtorEq]
 refine ae h62 ?_
 by_cases h0:e=0
 ·subst h0
  simp +contextual only [aC,q4,bQ,vR,sZ,Nat.reduceEqDiff,Nat.reduceAdd,↓reduceIte]
  refine ae (c24 t.s ps ss) ?_
  by_cases h1:jy t.s ps ss=0
  ·have hv:=(x8.1 h1).2
   simp +contextual only [h1,q4,e4,bQ,gl,sZ,Nat.reduceEqDiff,Nat.reduceAdd,↓reduceIte]
   refine ae (c89 t ps ss hv.va fun q hq=>(ht rfl).eq q hq ps hv.1) ?_
   simp +contextual only [sZ,Nat.reduceEqDiff,↓reduceIte,reduceCtorEq]
   have e0:rH 0 t ps ss=(max (jr t ps ss) 0,decide (0≤jr t ps ss),0):=by unfold rH;rw [if_neg (by simp),if_neg (by simp [h1])]
   rw [e0]
   exact Aw (by decide) aby ⟨rfl,rfl,rfl⟩ rfl rfl rfl ⟨rfl,rfl⟩
  ·have e0:rH 0 t ps ss=(0,false,jy t.s ps ss):=by unfold rH;rw [if_neg (by simp),if_pos h1]
   rw [e0]
   simp +contextual only [h1,sZ,Nat.reduceEqDiff,↓reduceIte,reduceCtorEq]
   exact Aw (by decide) aby ⟨rfl,rfl,rfl⟩ rfl rfl rfl ⟨rfl,rfl⟩
 ·have e0:rH e t ps ss=(0,false,e):=by unfold rH;rw [if_pos h0]
  rw [e0]
  simp +contextual only [h0,sZ,Nat.reduceEqDiff,↓reduceIte,reduceCtorEq]
  exact Aw (by decide) aby ⟨rfl,rfl,rfl⟩ rfl rfl rfl ⟨rfl,rfl⟩
noncomputable def QI (e:Int) (t:Ty) (ps ss:List Int):Int:=if (rH e t ps ss).2.2=0∧(rH e t ps ss).2.1=true then 60 else (rH e t ps ss).2.2
theorem GV (p:Int×Bool×Int) (φ:AV→Prop):bM (GU p) 0 φ=φ (.int .i64 p.1)∧bM (GU p) 1 φ=φ (.bool p.2.1)∧bM (GU p) 2 φ=φ (.int .i64 p.2.2):=by simp [GU,bM,pj,pS]
theorem Ir (p:Int×Bool×Int):(GU p).ab=GU p:=rfl
theorem c33 {t:Ty} {e:Int} (h62:Pure Tryz.prog 62 [t.av] (.int .i64 e)) (ht:e=0→zt t) (ps ss:List Int):Pure Tryz.prog 33 [t.av,dE ps ss] (.int .i64 (QI e t ps ss)):=by
 refine fun H=>k33.2.calls rfl ?_
 simp only [k33,aH]
 obtain ⟨q1,q2,q3,q4,q5,q6⟩:=aR ps ss
 obtain ⟨e1,e2,e3,e4,e5,e6⟩:=Ty.facts t
 simp +contextual only [q1,q4,e1,e4,bQ,gl,sZ,Nat.reduceEqDiff,Nat.reduceAdd,↓reduceIte,reduceCtorEq]
 refine ae (c31 h62 ht ps ss) ?_
 unfold QI
 generalize rH e t ps ss=p
 have x1:=fun φ=>(GV p φ).1
 have x2:=fun φ=>(GV p φ).2.1
 have x3:=fun φ=>(GV p φ).2.2
 obtain ⟨n,b,m⟩:=p
 simp only at x1 x2 x3
 by_cases h0:m=0
 ·subst h0
  cases b <;>
  simp +contextual only [x1,x2,x3,Ir,sZ,Nat.reduceEqDiff,↓reduceIte,reduceCtorEq] <;>
  exact aK rfl rfl
 ·have hm:(m=0)=False:=eq_false h0
  simp +contextual only [x1,x2,x3,Ir,hm,decide_false,sZ,Nat.reduceEqDiff,↓reduceIte,reduceCtorEq]
  exact aK rfl (by simp [h0])
theorem yq {H e:List aa} {u v w x y z:AV} (hb:x.bc H.length=true∧y.bc H.length=true∧z.bc H.length=true) (hx:u.ab=x) (hy:v.ab=y) (hz:w.ab=z):vh H.length [u,v,w] (H++e) fun r H'=>r=.tuple [x,y,z]∧H'=H:=by
 subst hx;subst hy;subst hz
 exact ⟨H.length,zy _,_,da _,by show aw _ [u.ab,v.ab,w.ab]=true;rw [bL,bL,bL,cV,hb.1,hb.2.1,hb.2.2];rfl,rfl,by simp⟩
theorem AN (f:Fo):∃ P S,foA f=dE P S:=by
 cases f with
 | none=>exact ⟨_,_,rfl⟩
 | some p=>exact ⟨_,_,rfl⟩
noncomputable def zx (e:Int) (t:Ty) (ops:List Int):Fo×Int:=if e≠0 then (none,e) else if 4 < ops.length then (none,2) else (pG t ops,0)
theorem c35 {t:Ty} {e:Int} {ops:List Int} (h62:Pure Tryz.prog 62 [t.av] (.int .i64 e)) (h92:e=0→Pure Tryz.prog 92 [t.av] (.al 0 (ints ops))) (ht:e=0→zt t) (hr:e=0→∀ i∈ops,0≤i∧i < t.s.ops.length) (hl:ops.length≤1000000) :
 Pure Tryz.prog 35 [t.av] (.tuple [foA (zx e t ops).1,.bool (zx e t ops).1.isSome,.int .i64 (zx e t ops).2]):=by
 refine fun H=>k35.2.calls rfl ?_
 simp only [k35,aH]
 obtain ⟨e1,e2,e3,e4,e5,e6⟩:=Ty.facts t
 have zf2:List.map AV.ab [AV.ag,.ag]=[.ag,.ag]:=rfl
 have zb2:∀ n,aw n [AV.ag,.ag]=true:=fun _=>rfl
 simp +contextual only [e1,e4,gl,zf2,zb2,sZ,Nat.reduceEqDiff,Nat.reduceAdd,↓reduceIte]
 refine ae h62 ?_
 have gz:(H++[aa.cells [AV.ag,.ag]])[H.length]?=some (.cells [.ag,.ag]):=by simp
 by_cases h0:e=0
 ·subst h0
  simp +contextual only [e4,gl,sZ,Nat.reduceEqDiff,Nat.reduceAdd,↓reduceIte]
  refine ae (h92 rfl) ?_
  by_cases h4:4 < ops.length
  ·have Vo:((4:Int) < ops.length)=True:=eq_true (by omega)
   have e0:zx 0 t ops=(none,2):=by unfold zx;rw [if_neg (by simp),if_pos h4]
   rw [e0]
   have sp2:∀ (a b x y:AV),ai [a,b] 0 [x,y]=[x,y]:=fun _ _ _ _=>rfl
   simp +contextual only [zf2,zb2,ap,Vo,decide_true,gz,gG,sp2,sZ,Nat.reduceEqDiff,Nat.reduceAdd,↓reduceIte,reduceCtorEq]
   exact fun _=>yq ⟨rfl,rfl,rfl⟩ rfl rfl rfl
  ·have Vo:((4:Int) < ops.length)=False:=eq_false (by omega)
   have e0:zx 0 t ops=(pG t ops,0):=by unfold zx;rw [if_neg (by simp),if_neg h4]
   rw [e0]
   simp +contextual only [e4,gl,ap,Vo,decide_false,sZ,Nat.reduceEqDiff,Nat.reduceAdd,↓reduceIte]
   intro hl9
   refine ae (c93 (ht rfl) (.inr rfl) (hr rfl) hl) ?_
   generalize pG t ops=f
   obtain ⟨P,S,ef⟩:=AN f
   obtain ⟨q1,q2,q3,q4,q5,q6⟩:=aR P S
   rw [ef]
   have zo:(dE P S).cells=[.al 0 (ints P),.al 0 (ints S)]:=rfl
   have sp2:∀ (a b x y:AV),ai [a,b] 0 [x,y]=[x,y]:=fun _ _ _ _=>rfl
   simp +contextual only [gz,q1,q4,gG,zo,sp2,bQ,aJ,sZ,Nat.reduceEqDiff,Nat.reduceAdd,Nat.reduceLT,↓reduceIte,reduceCtorEq]
   exact yq ⟨q6 _,rfl,rfl⟩ rfl rfl rfl
 ·have hm:(e=0)=False:=eq_false h0
  have e0:zx e t ops=(none,e):=by unfold zx;rw [if_pos h0]
  rw [e0]
  have sp2:∀ (a b x y:AV),ai [a,b] 0 [x,y]=[x,y]:=fun _ _ _ _=>rfl
  simp +contextual only [zf2,zb2,hm,gz,gG,sp2,sZ,Nat.reduceEqDiff,Nat.reduceAdd,↓reduceIte,reduceCtorEq]
  exact yq ⟨rfl,rfl,rfl⟩ rfl rfl rfl
end Go.aI
end
section
set_option maxRecDepth 100000
set_option maxHeartbeats 1000000
namespace Go.aI
open Go Go.Proofs Go.dD
theorem aeT (t:Ty) (e:iL):Pure Tryz.prog 180 ([e.av]++[.ah t.av]) (.bool (!jh t.s e)):=by
 refine fun H=>Yb.2.calls rfl ?_
 simp only [Yb,aH]
 obtain ⟨e1,e2,e3,e4,e5,e6⟩:=Ty.facts t
 obtain ⟨g1,g2,g3,g4,g5,g6⟩:=e.facts
 simp +contextual only [aC,g1,g4,vR,qP,sZ,Nat.reduceEqDiff,Nat.reduceAdd,↓reduceIte,reduceCtorEq]
 refine ae (aeH t.s e) ?_
 simp +contextual only [sZ,↓reduceIte,reduceCtorEq]
 exact aK rfl rfl
theorem aaH (g:Nat) (cap:List AV) (bY:cap.map AV.ab=cap) (p:iL→Bool) (l:List iL) (hf:∀ x∈l,Pure Tryz.prog g ([x.av]++cap) (.bool (p x))):Pure Tryz.prog 161 [.al 0 (mq l),.fn (.func g) [] cap] (.int .i64 (m9 p l 0)):=by
 refine fun H=>P5.2.calls rfl ?_
 simp only [P5,aH]
 simp +contextual only [dx,sZ,Nat.reduceEqDiff,Nat.reduceAdd,↓reduceIte,reduceCtorEq]
 intro hl
 refine aq l.length (fun i=>m9 p (l.drop i) i=m9 p l 0) (fun i=>[(0,.al 0 (mq l)),(1,.fn (.func g) [] cap),(7,.int .i64 l.length),(8,.int .i64 i)]) (fun _=>H) ⟨rfl,ax _ _ _⟩ fun i hi hI=>?_
 obtain ⟨e1,e2,e3,e4,e5,e6⟩:=iL.facts (l.getD i default)
 simp +contextual only [bY,fB,idx_eq,qP,e4,sZ,Nat.reduceEqDiff,Nat.reduceAdd,↓reduceIte,reduceCtorEq]
 refine ⟨fun aM=>?_,fun fV=>?_⟩
 ·have aM:=bp aM
  rw [qf aM] at hI
  refine ⟨aM,ae (hf _ (oc aM)) ?_⟩
  cases hb:p (l.getD i default) with
  | true=>
    rw [if_pos hb] at hI
    simp +contextual only [sZ,Nat.reduceEqDiff,↓reduceIte,reduceCtorEq]
    exact aK rfl (by rw [← hI])
  | false=>
    rw [if_neg (by rw [hb];simp)] at hI
    simp +contextual only [sZ,Nat.reduceEqDiff,↓reduceIte,reduceCtorEq]
    exact ⟨i + 1,⟨aM,hI⟩,by omega,ay (by rw [aj i (by omega)]) rfl⟩
 ·rw [aap (bZ fV)] at hI
  exact aK rfl (by rw [← hI];rfl)
theorem aeU (g:Nat) (cap:List AV) (bY:cap.map AV.ab=cap) (p:iL→Bool) (l:List iL) (hf:∀ x∈l,Pure Tryz.prog g ([x.av]++cap) (.bool (p x))):Pure Tryz.prog 179 [.al 0 (mq l),.fn (.func g) [] cap] (.bool (l.any p)):=by
 refine fun H=>Ya.2.calls rfl ?_
 simp only [Ya,aH]
 simp +contextual only [sZ,Nat.reduceEqDiff,Nat.reduceAdd,↓reduceIte,reduceCtorEq]
 refine ae (aaH g cap bY p l hf) ?_
 simp +contextual only [sZ,↓reduceIte,reduceCtorEq]
 refine aK rfl ?_
 congr 1
 rw [abV,afS]
 simpa using Ch l 0
def Is (t:Ty):Bool:=jw t.s && (decide ((t.es.length:Int)≤400) && t.es.all (jh t.s))
theorem aeV (t:Ty):Pure Tryz.prog 126 [t.av] (.bool (Is t)):=by
 refine fun H=>Xw.2.calls rfl ?_
 simp only [Xw,aH]
 obtain ⟨e1,e2,e3,e4,e5,e6⟩:=Ty.facts t
 simp +contextual only [aC,e1,vR,sZ,Nat.reduceEqDiff,Nat.reduceAdd,↓reduceIte]
 refine ae (c81 t.s) ?_
 cases h:jw t.s with
 | false=>
   rw [if_neg (by simp)]
   simp +contextual only [sZ,Nat.reduceEqDiff,↓reduceIte,reduceCtorEq,Int.reduceEq]
   exact aK rfl (by rw [Is,h];rfl)
 | true=>
 rw [if_pos rfl]
 by_cases h2:(t.es.length:Int)≤400
 ·have f:(400 < (t.es.length:Int))=False:=eq_false (by omega)
  simp +contextual only [Cg,dx,f,decide_false,sZ,Nat.reduceEqDiff,Nat.reduceAdd,↓reduceIte]
  refine fun _=>ae (aeU 180 [.ah t.av] rfl _ t.es fun x _=>aeT t x) ?_
  simp +contextual only [sZ,↓reduceIte,reduceCtorEq]
  refine aK rfl ?_
  rw [Is,h,decide_eq_true h2]
  congr 1
  rw [abV]
  simp
 ·have f:(400 < (t.es.length:Int))=True:=eq_true (by omega)
  simp +contextual only [Cg,dx,f,decide_true,sZ,Nat.reduceEqDiff,↓reduceIte,reduceCtorEq]
  exact fun _=>aK rfl (by rw [Is,h,decide_eq_false h2];rfl)
def yJ (t:Ty):Int:=if Is t=true then 0 else 5
theorem c62 (t:Ty):Pure Tryz.prog 62 [t.av] (.int .i64 (yJ t)):=by
 refine fun H=>k62.2.calls rfl ?_
 simp only [k62,aH]
 obtain ⟨e1,e2,e3,e4,e5,e6⟩:=Ty.facts t
 simp +contextual only [e1,e4,gl,sZ,Nat.reduceEqDiff,Nat.reduceAdd,↓reduceIte]
 refine ae (aeV t) ?_
 cases h:Is t with
 | true=>simp +contextual only [sZ,↓reduceIte,reduceCtorEq];exact aK rfl (by rw [yJ,h];rfl)
 | false=>simp +contextual only [sZ,↓reduceIte,reduceCtorEq];exact aK rfl (by rw [yJ,h];rfl)
theorem Cl {s:Sg} {vs:List Int}:∀ (N:Nat) (t:T),wt t≤N→t.shaped=true→(ln s vs t).isSome=true→vO (fun n=>0≤n∧n < s.ops.length) t
 | 0,t,h,_,_=>by have:=dt t;omega
 | N + 1,.mk k n l,h,hs,ho=>by
   have hk:=(fN hs).2
   have hn:0≤n:=by
    rw [T.dn] at hs
    simp only [zC,abC,abQ,decide_eq_false_iff_not] at hs
    exact Int.not_lt.1 hs.1.1.1.1
   simp only [ln] at ho
   by_cases MC:k=1
   ·subst MC
    have A6:l=[]:=by
     rw [T.dn] at hs
     simp only [zC,abC,abQ,afj,decide_eq_false_iff_not] at hs
     rcases hs.1.1.1.2 with h | h
     ·exact absurd rfl h
     ·exact abE.1 (Nat.eq_zero_of_not_pos h)
    subst A6
    exact .mk _ _ _ (fun h=>absurd h (by decide)) (fun x hx=>by cases hx)
   ·rw [if_neg MC] at ho
    split at ho
    ·cases ho
    ·rename_i h1
     split at ho
     ·rename_i h2
      have key:∀ (l:List T) (a:List Int),GL s vs l a=true→∀ x∈l,(ln s vs x).isSome=true:=by
       intro l
       induction l with
       | nil=>intro a _ x hx;cases hx
       | cons y r N0=>
         intro a h x hx
         simp only [GL,zC,decide_eq_true_eq] at h
         rcases aak.1 hx with rfl | hx
         ·rw [h.1];rfl
         ·exact N0 _ h.2 x hx
      exact .mk _ _ _ (fun _=>⟨hn,by omega⟩) (fun x hx=>Cl N x (by have:=ch (a:=.mk k n l) hx;omega) (hk x hx) (key l _ h2 x hx))
     ·cases ho
theorem Np {t:Ty} (h:yJ t=0):zt t:=by
 unfold yJ at h
 split at h
 ·rename_i hb
  unfold Is at hb
  simp only [zC,decide_eq_true_eq] at hb
  obtain ⟨h1,h2,h3⟩:=hb
  refine ⟨?_,fun e he ps qD=>?_⟩
  ·unfold jw at h1
   simp only [zC,decide_eq_true_eq] at h1
   omega
  ·have:=abc.1 h3 e he
   unfold jh at this
   simp only [zC,decide_eq_true_eq] at this
   obtain ⟨_,j2,_,_,j5,j6,_⟩:=this
   have two:∀ a b:T,dy t.s e.vs a b=true→(a.tree=true∧vO (fun n=>0≤n∧n < ps.length) a)∧b.tree=true∧vO (fun n=>0≤n∧n < ps.length) b:=fun a b hp=>by
    unfold dy at hp
    simp only [zC] at hp
    rw [qD]
    exact ⟨⟨hp.1,Cl _ a (zy _) ((T.cI a).1 hp.1).2.2 hp.2.2.1⟩,hp.2.1,Cl _ b (zy _) ((T.cI b).1 hp.2.1).2.2 hp.2.2.2.1⟩
   have all (x:T) (hx:x∈e.a::e.rest):x.tree=true∧vO (fun n=>0≤n∧n < ps.length) x:=by
    rcases aak.1 hx with rfl | hx
    ·exact (two _ _ j5).1
    ·rcases aak.1 hx with rfl | hx
     ·exact (two _ _ j5).2
     ·obtain ⟨c,hc,hx⟩:=abY.1 hx
      have hp:=two _ _ (abc.1 j6 c hc)
      rcases aak.1 hx with rfl | hx
      ·exact hp.1
      ·rw [aay.1 hx];exact hp.2
   exact ⟨by omega,fun x hx=>(all x hx).1,fun x hx=>(all x hx).2⟩
 ·cases h
end Go.aI
end
section
set_option maxRecDepth 1000000
namespace Go.aI
open Go Go.Proofs Go.dD
def vT (n:Int):T:=.mk 1 n []
def oT (n:Int) (l:List T):T:=.mk 2 n l
def gH:Sg:=⟨[⟨#[78]⟩],[⟨⟨#[122]⟩,[],0⟩,⟨⟨#[115]⟩,[0],0⟩,⟨⟨#[97,100,100]⟩,[0,0],0⟩]⟩
def aaI:iL:=⟨[0],[],oT 2 [vT 0,oT 0 []],vT 0⟩
def cF:iL:=⟨[0,0],[],oT 2 [vT 0,oT 1 [vT 1]],oT 1 [oT 2 [vT 0,vT 1]]⟩
def cN:Ty:=⟨gH,[aaI,cF]⟩
theorem So (z:List AV) (l:List (Nat×Nat×AV)) (φ:AV→Prop):cr z l φ=gb z l fun xs=>φ (.agg xs):=rfl
theorem Nq (z:List AV) (φ:List AV→Prop):gb z [] φ=φ z:=rfl
theorem It (z:List AV) (o n:Nat) (x:AV) (r:List (Nat×Nat×AV)) (φ:List AV→Prop):gb z ((o,n,x)::r) φ=(x.val=true∧x.cells.length=n∧o + n≤z.length∧gb (ai z o (x.cells.map AV.ab)) r φ):=rfl
theorem aeW (n:Int) (o:Nat) (xs:List AV) (φ:AV→Prop):cr [.int .i64 0,.int .i64 0,.ag] [(0,1,.int .i64 2),(1,1,.int .i64 n),(2,1,.al o xs)] φ=φ (.agg [.int .i64 2,.int .i64 n,.al 0 xs]):=by
 simp only [cr,gb,eq_iff_iff]
 exact ⟨fun h=>h.2.2.2.2.2.2.2.2.2,fun h=>⟨rfl,rfl,by simp,rfl,rfl,by simp [ai,AV.cells],rfl,rfl,by simp [ai,AV.cells],h⟩⟩
theorem aaJ (n:Int) (φ:AV→Prop):cr [.int .i64 0,.int .i64 0,.ag] [(0,1,.int .i64 2),(1,1,.int .i64 n),(2,1,.ag)] φ=φ (.agg [.int .i64 2,.int .i64 n,.ag]):=by
 simp only [cr,gb,eq_iff_iff]
 exact ⟨fun h=>h.2.2.2.2.2.2.2.2.2,fun h=>⟨rfl,rfl,by simp,rfl,rfl,by simp [ai,AV.cells],rfl,rfl,by simp [ai,AV.cells],h⟩⟩
theorem GW (n:Int):Pure Tryz.prog 59 [.int .i64 n] (vT n).av:=by
 refine fun H=>k59.2.calls rfl ?_
 simp only [k59,aH]
 simp +contextual only [sZ,Nat.reduceEqDiff,Nat.reduceAdd,↓reduceIte,reduceCtorEq]
 exact HL rfl rfl
theorem QJ (n:Int) (l:List T):Pure Tryz.prog 65 [.int .i64 n,.al 0 (bN l)] (oT n l).av:=by
 refine fun H=>k65.2.calls rfl ?_
 simp only [k65,aH]
 simp +contextual only [aeW,sZ,Nat.reduceEqDiff,Nat.reduceAdd,↓reduceIte,reduceCtorEq]
 exact HL (by simp [xq,bL,cV,ja,bA,ee]) rfl
theorem Nr (n:Int):Pure Tryz.prog 65 [.int .i64 n,.ag] (oT n []).av:=by
 refine fun H=>k65.2.calls rfl ?_
 simp only [k65,aH]
 simp +contextual only [aaJ,sZ,Nat.reduceEqDiff,Nat.reduceAdd,↓reduceIte,reduceCtorEq]
 exact HL rfl rfl
theorem c64:Pure Tryz.prog 64 [] cN.av:=by
 refine fun H=>acX.calls rfl ?_
 simp only [Xh,Xg]
 simp +contextual only [So,Nq,It,ai,List.take_succ_cons,List.take_zero,List.drop_succ_cons,List.drop_zero,List.cons_append,List.nil_append,abJ,List.length_cons,List.length_nil,List.all_cons,List.all_nil,List.map_cons,List.map_nil,acj,bi.a9,AV.drop,AV.ab,sZ,Nat.reduceEqDiff,Nat.reduceAdd,Nat.reduceLeDiff,↓reduceIte,reduceCtorEq]
 refine aB (GW 0) ?_
 simp +contextual only [sZ]
 refine aB (Nr 0) ?_
 simp +contextual only [sZ]
 refine aB (QJ 2 [vT 0,oT 0 []]) ?_
 simp +contextual only [sZ]
 refine aB (GW 0) ?_
 simp +contextual only [sZ]
 refine aB (GW 0) ?_
 simp +contextual only [sZ]
 refine aB (GW 1) ?_
 simp +contextual only [sZ]
 refine aB (QJ 1 [vT 1]) ?_
 simp +contextual only [sZ]
 refine aB (QJ 2 [vT 0,oT 1 [vT 1]]) ?_
 simp +contextual only [sZ]
 refine aB (GW 0) ?_
 simp +contextual only [sZ]
 refine aB (GW 1) ?_
 simp +contextual only [sZ]
 refine aB (QJ 2 [vT 0,vT 1]) ?_
 simp +contextual only [sZ]
 refine aB (QJ 1 [oT 2 [vT 0,vT 1]]) ?_
 simp +contextual only [List.map_cons,List.map_nil,bi.a9,AV.drop,sZ]
 have li:∀ (H:List aa) (l ys:List AV) (x:Nat) (φ:AV→Prop),a8 (some 2) (AV.agg [.al 0 l,.al x ys]).ah H φ=φ (.agg [.al 0 l,.al x ys]):=fun H l ys x φ=>by simp [a8,AV.cells]
 simp +contextual only [Ma,So,Nq,It,ai,T.sE,li,List.take_succ_cons,List.take_zero,List.drop_succ_cons,List.drop_zero,List.cons_append,List.nil_append,abJ,List.length_cons,List.length_nil,List.all_cons,List.all_nil,List.map_cons,List.map_nil,acj,bi.a9,AV.drop,AV.ab,sZ,Nat.reduceEqDiff,Nat.reduceAdd,Nat.reduceLeDiff,↓reduceIte,reduceCtorEq]
 exact ⟨H.length,zy _,cN.av,.inl rfl,(Ty.facts cN).2.2.2.2.2 _,rfl,by simp⟩
theorem QK:yJ cN=0:=by kernel_rfl
theorem QL:yI cN=[0,1,2]:=by kernel_rfl
theorem Cm:Pure Tryz.prog 62 [cN.av] (.int .i64 0):=QK ▸ c62 cN
theorem Vp:Pure Tryz.prog 92 [cN.av] (.al 0 (ints [0,1,2])):=QL ▸ c92 cN (by decide)
end Go.aI
end
section
namespace Go.aI
open Go Go.Proofs Go.dD
end Go.aI
end
section
namespace Go.dD
open Go.aI
def Sp {G:T→T→Prop} [h:∀ x y,Decidable (G x y)]:∀ l m,Decidable (Lx G l m)
 | [],_=>isFalse (fun h=>h)
 | _::_,[]=>isTrue trivial
 | x::l,y::m=>@instDecidableOr _ _ (@instDecidableAnd _ _ inferInstance (Sp l m)) (h x y)
def aaK {G:T→T→Prop} [h:∀ x y,Decidable (G x y)] (l m:List T):Decidable (Mu G l m):=by unfold Mu;exact inferInstance
def aaL {sp:Int→Int} {G:T→T→Prop} [h:∀ x y,Decidable (G x y)] (a b:T):Decidable (Fm sp G a b):=by
 unfold Fm
 have:=@Sp G h
 have:=@aaK G h
 exact inferInstance
def Ns (sp:Int→Int):∀ (f:Nat) (a b:T),Decidable (Oi sp f a b)
 | 0,_,_=>isFalse (fun h=>h)
 | f + 1,a,b=>@aaL sp (Oi sp f) (Ns sp f) a b
instance aaM (sp:Int→Int) (a b:T):Decidable (Gt sp a b):=Ns sp (wt a + wt b) a b
instance aaN (O:Od) (a b:T):Decidable (R O a b):=aaM O.sp (norm O a) (norm O b)
instance aaO (O:Od) (a b:T):Decidable (E O a b):=inferInstanceAs (Decidable (norm O a=norm O b))
end Go.dD
end
section
namespace Go.aI
open Go Go.Proofs Go.dD
mutual
def EE (n:Nat):T→Bool
 | .mk k m l=>(!decide (k=2) || (decide (0≤m) && decide (m < n))) && Co n l
def Co (n:Nat):List T→Bool
 | []=>true
 | x::r=>EE n x && Co n r
end
mutual
theorem Iu {n:Nat}:∀ {t:T},EE n t=true→vO (fun m=>0≤m∧m < n) t
 | .mk k m l,h=>by
   simp only [EE,zC,abU,abC,decide_eq_false_iff_not,decide_eq_true_eq] at h
   exact .mk k m l (fun hk=>h.1.resolve_left fun hn=>hn hk) (EF h.2)
theorem EF {n:Nat}:∀ {l:List T},Co n l=true→∀ x∈l,vO (fun m=>0≤m∧m < n) x
 | [],_=>fun x hx=>by cases hx
 | y::r,h=>by
   simp only [Co,zC] at h
   have h1:=Iu h.1
   have h2:=EF h.2
   intro x hx
   rcases aak.1 hx with rfl | hx
   ·exact h1
   ·exact h2 x hx
end
def EG (ps ss:List Int) (a b:T):Bool:=match aaN (iq ps ss) a b with | .isTrue _=>true | .isFalse _=>false
theorem Cp {ps ss:List Int} {a b:T}:EG ps ss a b=true↔R (iq ps ss) a b:=by
 unfold EG
 cases aaN (iq ps ss) a b with
 | isTrue h=>simp [h]
 | isFalse h=>simp [h]
end Go.aI
end
section
set_option maxRecDepth 1000000
namespace Go.aI
open Go Go.Proofs Go.dD
theorem Cq (ps ss:List Int) (a b:T):oO ps ss a b=EG ps ss a b:=by rw [abV,dF,Cp]
def Iv (ps ss:List Int) (a b:T):Bool:=match aaO (iq ps ss) a b with | .isTrue _=>true | .isFalse _=>false
theorem Iw (ps ss:List Int) (a b:T):ZZ ps ss a b=Iv ps ss a b:=by
 rw [abV,Ig]
 unfold Iv
 cases aaO (iq ps ss) a b with
 | isTrue h=>simp [h]
 | isFalse h=>simp [h]
def Vq (s:Sg) (ps ss:List Int):Bool:=decide (ps.length=s.ops.length) && (decide (ss.length=s.ops.length) && ((List.range ps.length).all (fun j=>decide (0≤ps.getD j 0∧ps.getD j 0≤255∧1≤ss.getD j 0∧ss.getD j 0≤3)) && (List.range ps.length).all fun j=>(List.range ps.length).all fun k=>!decide (ps.getD j 0=ps.getD k 0) || decide (ss.getD j 0=ss.getD k 0)))
theorem Nt {s:Sg} {ps ss:List Int}:Vq s ps ss=true↔dQ s ps ss:=by
 simp only [Vq,zC,decide_eq_true_eq,abc,abG,abU,abC,decide_eq_false_iff_not]
 constructor
 ·rintro ⟨h1,h2,h3,h4⟩
  exact ⟨h1,h2,h3,fun j k hj hk he=>(h4 j hj k hk).resolve_left fun hn=>hn he⟩
 ·rintro ⟨h1,h2,h3,h4⟩
  refine ⟨h1,h2,h3,fun j hj k hk=>?_⟩
  by_cases h:ps.getD j 0=ps.getD k 0
  ·exact .inr (h4 j k hj hk h)
  ·exact .inl h
def yr (s:Sg) (ps ss:List Int):Int:=if jw s=true then (if Vq s ps ss=true then 0 else 60) else 40
theorem sY (s:Sg) (ps ss:List Int):jy s ps ss=yr s ps ss:=by
 unfold jy yr
 by_cases h:dQ s ps ss
 ·rw [if_pos h,if_pos (Nt.2 h)]
 ·rw [if_neg h,if_neg (fun k=>h (Nt.1 k))]
def yu (s:Sg) (ps ss:List Int) (l:List T):Int:=if yr s ps ss=0 then (if (l.all fun t=>t.tree && ry s t)=true then 0 else 4) else yr s ps ss
theorem jW (s:Sg) (ps ss:List Int) (l:List T):fF s ps ss l=yu s ps ss l:=by unfold fF yu;rw [sY]
def Nu (ps ss:List Int) (e:iL):Bool:=e.rest.all fun y=>EG ps ss e.a y
theorem Nv (ps ss:List Int) (e:iL):oM ps ss e=Nu ps ss e:=by
 rw [abV]
 simp only [oM,B6,Nu,abc,Cp]
 exact @decide_eq_true_iff _ (Classical.propDecidable _)
def yv (t:Ty) (ps ss:List Int):Int:=m9 (fun e=>!Nu ps ss e) t.es 0
theorem uC (t:Ty) (ps ss:List Int):jr t ps ss=yv t ps ss:=by
 unfold jr yv
 congr 1
 funext e
 rw [Nv]
def GX (t:Ty) (ops pl st:List Int):Bool:=decide (yr t.s (oq t.s.ops.length ops pl) (ot t.s.ops.length ops st)=0) && decide (yv t (oq t.s.ops.length ops pl) (ot t.s.ops.length ops st) < 0)
theorem Kk (t:Ty) (ops pl st:List Int):pF t ops pl st=GX t ops pl st:=by
 unfold pF GX
 rw [sY,uC,abV]
 simp
def GY (t:Ty) (ops pl:List Int) (s:Fo) (st:List Int):Fo×Bool:=if GX t ops pl st=true then (some (oq t.s.ops.length ops pl,ot t.s.ops.length ops st),false) else (s,true)
def GZ (t:Ty) (ops:List Int) (s:Fo) (pl:List Int):Fo×Bool:=if ji pl=true then eG (GY t ops pl) (iu (cM 1 3) ops.length) s else (s,true)
def Nw (t:Ty) (ops:List Int):Fo:=(eG (GZ t ops) (iu (cM 0 ops.length) ops.length) none).1
theorem Nx (t:Ty) (ops:List Int):pG t ops=Nw t ops:=by
 have h1:df t ops=GY t ops:=by funext pl s st;unfold df GY;rw [Kk]
 have h2:ej t ops=GZ t ops:=by funext s pl;unfold ej GZ;rw [h1]
 unfold pG Nw;rw [h2]
def gI:List Int:=[0,0,1]
def oL:List Int:=[1,1,1]
def stM:List Int:=[1,1,3]
def EH:List Int:=[0,0,0]
theorem Vr:yu gH gI oL [cF.a,cF.b]=0:=by kernel_rfl
theorem aaP:yu gH gI oL [cF.b,cF.a]=0:=by kernel_rfl
theorem gr1:EG gI oL cF.a cF.b=true:=by kernel_rfl
theorem gr2:EG gI oL cF.b cF.a=false:=by kernel_rfl
theorem aeX:yu gH gI stM [oT 2 [vT 0,vT 1],oT 2 [vT 1,vT 0]]=0:=by kernel_rfl
theorem aeY:yu gH gI oL [oT 2 [vT 0,vT 1],oT 2 [vT 1,vT 0]]=0:=by kernel_rfl
theorem eq1:Iv gI stM (oT 2 [vT 0,vT 1]) (oT 2 [vT 1,vT 0])=true:=by kernel_rfl
theorem eq2:Iv gI oL (oT 2 [vT 0,vT 1]) (oT 2 [vT 1,vT 0])=false:=by kernel_rfl
theorem aeZ:yr gH gI oL=0:=by kernel_rfl
theorem ae0:yr gH EH oL=0:=by kernel_rfl
theorem aaQ:yv cN gI oL=-1:=by kernel_rfl
theorem aaR:yv cN EH oL=1:=by kernel_rfl
theorem ae1:Nw cN [0,1,2]=some (gI,oL):=by kernel_rfl
def AO:List T:=[oT 1 [oT 0 []],vT 0,oT 0 [],oT 2 [oT 0 [],oT 0 []]]
theorem ae2:yu gH gI oL AO=0:=by kernel_rfl
theorem ae3:vk (EG gI oL) 4 AO=[vT 0,oT 0 [],oT 1 [oT 0 []],oT 2 [oT 0 [],oT 0 []]]:=by kernel_rfl
theorem s5:zt cN:=by
 refine ⟨by decide,fun e he ps hp=>?_⟩
 have hp3:ps.length=3:=hp
 have key:∀ e∈cN.es,e.cs.length≤1000∧(∀ t∈e.a::e.rest,t.tree=true)∧∀ t∈e.a::e.rest,EE 3 t=true:=by
  intro e he
  have h:(cN.es.all fun e=>decide (e.cs.length≤1000) && ((e.a::e.rest).all (fun t=>t.tree) && (e.a::e.rest).all fun t=>EE 3 t))=true:=by kernel_rfl
  have:=abc.1 h e he
  simp only [zC,decide_eq_true_eq,abc] at this
  exact this
 obtain ⟨k1,k2,k3⟩:=key e he
 exact ⟨k1,k2,fun t ht=>by rw [hp3];exact Iu (k3 t ht)⟩
end Go.aI
end
section
set_option maxRecDepth 100000
namespace Go.aI
open Go Go.Proofs Go.dD
theorem ae4 (a b c d e f:Int) (o o':Nat) (φ:AV→Prop):cr [.ag,.ag] [(0,1,.al o [.int .i64 a,.int .i64 b,.int .i64 c]),(1,1,.al o' [.int .i64 d,.int .i64 e,.int .i64 f])] φ=φ (dE [a,b,c] [d,e,f]):=by
 simp only [cr,gb,eq_iff_iff]
 exact ⟨fun h=>h.2.2.2.2.2.2,fun h=>⟨rfl,rfl,by simp,rfl,rfl,by simp [ai,AV.cells],h⟩⟩
theorem Ny (t:T):a9 t.av=t.av:=by cases t;rfl
theorem bs4 (a b c d:T) (φ:List AV→Prop):bi (List.replicate 4 (a9 (.agg [.int .i64 0,.int .i64 0,.ag]))) 3 [(0,a.av),(1,b.av),(2,c.av),(3,d.av)] φ=φ [a.av,b.av,c.av,d.av]:=by
 have hv:∀ t:T,t.av.val=true:=fun t=>by cases t;rfl
 have hl:∀ t:T,t.av.cells.length=3:=fun t=>(xX t).len
 simp only [bi,Ny,hv,hl,List.replicate,List.set,List.length_cons,List.length_nil,eq_iff_iff]
 constructor
 ·intro h;simpa using h
 ·intro h;simpa using h
theorem Nz (t:T) (φ:AV→Prop):au 1 none (.ah t.av) φ=φ (.ah (.int .i64 t.n)):=by cases t;simp [au,T.av,apart,AV.cells,AV.one,T.n]
theorem aaS (o:Nat) (a b c d:T):(∀ (own:Nat) (xs:List AV),AV.al o [a.av,b.av,c.av,d.av]=AV.al own xs→∀ z∈xs,z.cells.length=3)=True:=by
 simp only [eq_iff_iff,iff_true]
 intro own xs e z hz
 cases e
 have:z=a.av∨z=b.av∨z=c.av∨z=d.av:=by simpa using hz
 rcases this with rfl | rfl | rfl | rfl <;> exact (xX _).len
theorem ix4 (o:Nat) (a b c d:AV) (φ:AV→Prop):aG 3 (.al o [a,b,c,d]) (.int .i64 0) φ=φ (.ah a)∧aG 3 (.al o [a,b,c,d]) (.int .i64 1) φ=φ (.ah b)∧aG 3 (.al o [a,b,c,d]) (.int .i64 2) φ=φ (.ah c)∧aG 3 (.al o [a,b,c,d]) (.int .i64 3) φ=φ (.ah d):=by
 simp [aG]
theorem sg1:Pure Tryz.prog 20 [cN.s.av,dE [0,0,1] [1,1,1],cF.a.av,cF.b.av] (.tuple [.bool true,.int .i64 0]):=by
 have:=c20 gH gI oL cF.a cF.b
 rw [jW,Vr,if_pos rfl,Cq,gr1] at this
 exact this
theorem sg2:Pure Tryz.prog 20 [cN.s.av,dE [0,0,1] [1,1,1],cF.b.av,cF.a.av] (.tuple [.bool false,.int .i64 0]):=by
 have:=c20 gH gI oL cF.b cF.a
 rw [jW,aaP,if_pos rfl,Cq,gr2] at this
 exact this
theorem p1 (H:List aa):aA Tryz.prog 27 [cN.s.av,dE [0,0,1] [1,1,1],cF.a.av,cF.b.av] H fun r H'=>(∃ p,Sh (iq gI oL) p cF.a cF.b∧r=.tuple [eT p,.bool true,.int .i64 0])∧H'=H:=by
 refine (c27 gH gI oL cF.a cF.b H).mono ?_
 rintro r H' ⟨h,rfl⟩
 refine ⟨?_,rfl⟩
 rcases h with ⟨h,_⟩ | ⟨_,h,_⟩ | ⟨_,h⟩
 ·rw [jW,Vr] at h;exact absurd rfl h
 ·exact absurd (Cp.1 gr1) h
 ·exact h
theorem v1 {p:PP} (hp:Sh (iq gI oL) p cF.a cF.b):Pure Tryz.prog 28 [cN.s.av,dE [0,0,1] [1,1,1],cF.a.av,cF.b.av,eT p] (.int .i64 0):=by
 have:=c28 gH gI oL cF.a cF.b p
 have e:Eu gH gI oL cF.a cF.b p=0:=by unfold Eu;rw [if_pos (by rw [jW,Vr]),if_pos hp]
 rw [e] at this
 exact this
theorem v2 (p:PP):Pure Tryz.prog 28 [cN.s.av,dE [0,0,1] [1,1,1],cF.b.av,cF.a.av,eT p] (.int .i64 61):=by
 have:=c28 gH gI oL cF.b cF.a p
 have hn:¬ Sh (iq gI oL) p cF.b cF.a:=fun h=>by
  have:=Cp.2 h.gt
  rw [gr2] at this;cases this
 have e:Eu gH gI oL cF.b cF.a p=61:=by unfold Eu;rw [if_pos (by rw [jW,aaP]),if_neg hn]
 rw [e] at this
 exact this
theorem q1:Pure Tryz.prog 22 [cN.s.av,dE [0,0,1] [1,1,3],(oT 2 [vT 0,vT 1]).av,(oT 2 [vT 1,vT 0]).av] (.tuple [.bool true,.int .i64 0]):=by
 have:=c22 gH gI stM (oT 2 [vT 0,vT 1]) (oT 2 [vT 1,vT 0])
 rw [jW,aeX,if_pos rfl,Iw,eq1] at this
 exact this
theorem q2:Pure Tryz.prog 22 [cN.s.av,dE [0,0,1] [1,1,1],(oT 2 [vT 0,vT 1]).av,(oT 2 [vT 1,vT 0]).av] (.tuple [.bool false,.int .i64 0]):=by
 have:=c22 gH gI oL (oT 2 [vT 0,vT 1]) (oT 2 [vT 1,vT 0])
 rw [jW,aeY,if_pos rfl,Iw,eq2] at this
 exact this
theorem ae5:rH 0 cN gI oL=(0,false,0):=by
 unfold rH
 rw [if_neg (by simp),sY,if_neg (by rw [show cN.s=gH from rfl,aeZ];simp),uC,aaQ];rfl
theorem aaT:rH 0 cN EH oL=(1,true,0):=by
 unfold rH
 rw [if_neg (by simp),sY,if_neg (by rw [show cN.s=gH from rfl,ae0];simp),uC,aaR];rfl
theorem k1:Pure Tryz.prog 33 [cN.av,dE [0,0,1] [1,1,1]] (.int .i64 0):=by
 have:=c33 Cm (fun _=>s5) gI oL
 rw [QI,ae5] at this
 exact this
theorem k2:Pure Tryz.prog 33 [cN.av,dE [0,0,0] [1,1,1]] (.int .i64 60):=by
 have:=c33 Cm (fun _=>s5) EH oL
 rw [QI,aaT] at this
 exact this
theorem bl1:Pure Tryz.prog 31 [cN.av,dE [0,0,0] [1,1,1]] (.tuple [.int .i64 1,.bool true,.int .i64 0]):=by
 have:=c31 Cm (fun _=>s5) EH oL
 rw [aaT] at this
 exact this
theorem fi1:Pure Tryz.prog 35 [cN.av] (.tuple [dE [0,0,1] [1,1,1],.bool true,.int .i64 0]):=by
 have:=c35 (ops:=[0,1,2]) Cm (fun _=>Vp) (fun _=>s5) (fun _ i hi=>by
  have h:i=0∨i=1∨i=2:=by simpa using hi
  have e:cN.s.ops.length=3:=rfl
  rw [e];omega) (by decide)
 have e:zx 0 cN [0,1,2]=(some (gI,oL),0):=by
  unfold zx
  rw [if_neg (by simp),if_neg (by decide),Nx,ae1]
 rw [e] at this
 exact this
def aaU:List T:=[vT 0,oT 0 [],oT 1 [oT 0 []],oT 2 [oT 0 [],oT 0 []]]
theorem so1:Pure Tryz.prog 37 [cN.s.av,dE [0,0,1] [1,1,1],.al 0 (bN AO)] (.tuple [.al 0 (bN aaU),.int .i64 0]):=by
 have:=c37 gH gI oL AO (by decide)
 have hg:oO gI oL=EG gI oL:=by funext a b;exact Cq _ _ _ _
 have e:oa gH gI oL AO=(aaU,0):=by
  unfold oa
  rw [if_pos (by rw [jW,ae2]),if_neg (by decide),hg,show AO.length=4 from rfl,ae3]
  rfl
 rw [e] at this
 exact this
theorem c17:Pure Tryz.prog 17 [] (.bool true):=by
 refine fun H=>k17.2.calls rfl ?_
 simp only [k17,aH]
 simp +contextual only [sZ]
 refine ae c64 ?_
 have o01:Pure Tryz.prog 65 [.int .i64 2,.al 0 [(vT 0).av,(vT 1).av]] (oT 2 [vT 0,vT 1]).av:=QJ 2 [vT 0,vT 1]
 have o10:Pure Tryz.prog 65 [.int .i64 2,.al 0 [(vT 1).av,(vT 0).av]] (oT 2 [vT 1,vT 0]).av:=QJ 2 [vT 1,vT 0]
 have o00:Pure Tryz.prog 65 [.int .i64 2,.al 0 [(oT 0 []).av,(oT 0 []).av]] (oT 2 [oT 0 [],oT 0 []]).av:=QJ 2 [oT 0 [],oT 0 []]
 have o1:Pure Tryz.prog 65 [.int .i64 1,.al 0 [(oT 0 []).av]] (oT 1 [oT 0 []]).av:=QJ 1 [oT 0 []]
 have so2:Pure Tryz.prog 37 [cN.s.av,dE [0,0,1] [1,1,1],.al 0 [(oT 1 [oT 0 []]).av,(vT 0).av,(oT 0 []).av,(oT 2 [oT 0 [],oT 0 []]).av]] (.tuple [.al 0 [(vT 0).av,(oT 0 []).av,(oT 1 [oT 0 []]).av,(oT 2 [oT 0 [],oT 0 []]).av],.int .i64 0]):=so1
 have ae6:Pure Tryz.prog 66 [.al 0 (ints [0,0,1]),.al 0 (ints [0,0,1])] (.bool true):=c66 (a:=[0,0,1]) (b:=[0,0,1]) (.inr rfl) (.inr rfl) (by decide) (by decide)
 have ae7:Pure Tryz.prog 66 [.al 0 (ints [1,1,1]),.al 0 (ints [1,1,1])] (.bool true):=c66 (a:=[1,1,1]) (b:=[1,1,1]) (.inr rfl) (.inr rfl) (by decide) (by decide)
 have i40:=fun o a b c d φ=>(ix4 o a b c d φ).1
 have i41:=fun o a b c d φ=>(ix4 o a b c d φ).2.1
 have i42:=fun o a b c d φ=>(ix4 o a b c d φ).2.2.1
 have i43:=fun o a b c d φ=>(ix4 o a b c d φ).2.2.2
 have n1:((vT 0).k=1)=True:=eq_true rfl
 have n2:((oT 0 []).n=0)=True:=eq_true rfl
 have n3:((oT 1 [oT 0 []]).n=1)=True:=eq_true rfl
 have n4:((oT 2 [oT 0 [],oT 0 []]).n=2)=True:=eq_true rfl
 have f44:(((4:Nat):Int)=4)=True:=eq_true rfl
 obtain ⟨e1,e2,e3,e4,e5,e6⟩:=Ty.facts cN
 obtain ⟨a1,a2,a3,a4,a5,a6⟩:=aR [0,0,1] [1,1,1]
 obtain ⟨b1,b2,b3,b4,b5,b6⟩:=aR [0,0,1] [1,1,3]
 obtain ⟨c1,c2,c3,c4,c5,c6⟩:=aR [0,0,0] [1,1,1]
 have ix:∀ φ,aG 8 (.al 0 (mq cN.es)) (.int .i64 1) φ=φ (.ah cF.av):=by
  intro φ
  have:=idx_eq 8 0 cN.es .i64 1 φ
  rw [show ((1:Nat):Int)=1 from rfl] at this
  rw [this]
  exact propext ⟨fun h=>h.2,fun h=>⟨by decide,h⟩⟩
 have su:cN.s.av.ab=cN.s.av:=rfl
 simp +contextual only [e1,e2,e3,ae4,a1,a2,a3,a4,b1,b2,b3,c1,c2,c3,bQ,vR,Cg,ix,CF,KC,sR,fB,su,sZ,Nat.reduceEqDiff,Nat.reduceAdd,↓reduceIte]
 refine ⟨ae sg1 ?_,ae sg1 ?_⟩
 all_goals
  simp +contextual only [a4,bQ,vR,sR,su,sZ,Nat.reduceEqDiff,Nat.reduceAdd,Nat.reduceLT,↓reduceIte]
  refine ae sg2 ?_
  simp +contextual only [a4,bQ,vR,sR,su,sZ,Nat.reduceEqDiff,Nat.reduceAdd,Nat.reduceLT,↓reduceIte]
  refine af (p1 _) ?_
  rintro r H' ⟨⟨p,hp,rfl⟩,rfl⟩
  obtain ⟨r1,r2,r3,r4,r5,r6,r7,r8,r9⟩:=bf p
  simp +contextual only [a4,bQ,vR,sR,su,r1,r2,r3,r4,sW,sZ,Nat.reduceEqDiff,Nat.reduceAdd,Nat.reduceLT,↓reduceIte]
  refine ae (v1 hp) ?_
  simp +contextual only [a4,bQ,vR,sR,su,r4,sW,sZ,Nat.reduceEqDiff,Nat.reduceAdd,↓reduceIte]
  refine ae (v2 p) ?_
  simp +contextual only [sZ,Nat.reduceEqDiff,↓reduceIte]
  refine aB (GW 0) ?_
  simp +contextual only [sZ]
  refine aB (GW 1) ?_
  simp +contextual only [sZ,Nat.reduceEqDiff,↓reduceIte]
  refine aB (o01) ?_
  simp +contextual only [sZ]
  refine aB (GW 1) ?_
  simp +contextual only [sZ]
  refine aB (GW 0) ?_
  simp +contextual only [sZ,Nat.reduceEqDiff,↓reduceIte]
  refine aB (o10) ?_
  simp +contextual only [b4,bQ,vR,sR,su,sZ,Nat.reduceEqDiff,↓reduceIte]
  refine aB (q1) ?_
  simp +contextual only [sZ,Nat.reduceEqDiff,Nat.reduceAdd,Nat.reduceLT,↓reduceIte]
  refine aB (GW 0) ?_
  simp +contextual only [sZ]
  refine aB (GW 1) ?_
  simp +contextual only [sZ,Nat.reduceEqDiff,↓reduceIte]
  refine aB (o01) ?_
  simp +contextual only [sZ]
  refine aB (GW 1) ?_
  simp +contextual only [sZ]
  refine aB (GW 0) ?_
  simp +contextual only [sZ,Nat.reduceEqDiff,↓reduceIte]
  refine aB (o10) ?_
  simp +contextual only [a4,bQ,vR,sR,su,sZ,Nat.reduceEqDiff,↓reduceIte]
  refine aB (q2) ?_
  simp +contextual only [e4,gl,a4,bQ,sZ,Nat.reduceEqDiff,Nat.reduceAdd,Nat.reduceLT,↓reduceIte]
  refine ae (k1) ?_
  simp +contextual only [e4,gl,c4,bQ,sZ,Nat.reduceEqDiff,Nat.reduceAdd,↓reduceIte]
  refine ae (k2) ?_
  simp +contextual only [e4,gl,c4,bQ,sZ,Nat.reduceEqDiff,Nat.reduceAdd,↓reduceIte]
  refine ae (bl1) ?_
  simp +contextual only [e4,gl,sZ,Nat.reduceEqDiff,Nat.reduceAdd,Nat.reduceLT,↓reduceIte]
  refine ae (fi1) ?_
  simp +contextual only [a1,a2,a3,a4,rv,sZ,Nat.reduceEqDiff,Nat.reduceAdd,Nat.reduceLT,↓reduceIte]
  refine ae (ae6) ?_
  simp +contextual only [sT,sZ,Nat.reduceEqDiff,Nat.reduceAdd,↓reduceIte]
  refine ae (ae7) ?_
  simp +contextual only [sZ,Nat.reduceEqDiff,↓reduceIte]
  refine aB (Nr 0) ?_
  simp +contextual only [sZ,↓reduceIte]
  refine aB (o1) ?_
  simp +contextual only [sZ]
  refine aB (GW 0) ?_
  simp +contextual only [sZ]
  refine aB (Nr 0) ?_
  simp +contextual only [sZ]
  refine aB (Nr 0) ?_
  simp +contextual only [sZ]
  refine aB (Nr 0) ?_
  simp +contextual only [sZ,Nat.reduceEqDiff,↓reduceIte]
  refine aB (o00) ?_
  simp +contextual only [a4,bQ,vR,sR,su,bs4,sZ,Nat.reduceEqDiff,↓reduceIte]
  refine aB (so2) ?_
  simp +contextual only [H7,Nz,aaS,i40,i41,i42,i43,f44,n1,n2,n3,n4,decide_true,sZ,Nat.reduceEqDiff,Nat.reduceAdd,Nat.reduceLT,↓reduceIte,reduceCtorEq]
  exact aT H.length (zy _) rfl ⟨rfl,by simp⟩
end Go.aI
end
section
set_option maxRecDepth 100000
namespace Go.aI
open Go Go.Proofs Go.dD
def Vs (S:List aa→Prop) (r:AV) (H':List aa):Prop:=(∃ b,r=.bool b)∧S H'
theorem Kl {S:List aa→Prop} (hl:Ax S) {s:Nat} {b:Bool} {H H':List aa} (hS:S H) (Zu:S H'):bP H.length [.t s] [(s,.bool b)] H' (Vs S):=by
 refine aT H.length (zy _) (by rw [aD,if_pos rfl];rfl) ?_
 rw [aD,if_pos rfl,aax (by rw [hl H H' hS Zu];exact zy _)]
 exact ⟨⟨b,rfl⟩,Zu⟩
theorem aaV {S:List aa→Prop} (hS:Ax S) (g:Nat) (cP:List AV) (bY:cP.map AV.ab=cP) (l:List T) (hf:∀ x∈l,∀ H,S H→aA Tryz.prog g ([x.av]++cP) H (Vs S)) {H:List aa} (hH:S H) :
 aA Tryz.prog 114 [.al 0 (bN l),.fn (.func g) [] cP] H fun r H'=>(∃ n,r=.int .i64 n)∧S H':=by
 refine JX.2.calls rfl ?_
 simp only [JX,aH]
 simp +contextual only [sZ,Nat.reduceEqDiff,Nat.reduceAdd,↓reduceIte,reduceCtorEq]
 intro hl
 have fin:∀ (n:Int) (G:List aa),S G→bP H.length [.t 4] [(4,.int .i64 n)] G fun r H'=>(∃ n,r=.int .i64 n)∧S H':=by
  intro n G hG
  refine aT H.length (zy _) (by rw [aD,if_pos rfl];rfl) ?_
  rw [aD,if_pos rfl,aax (by rw [hS H G hH hG];exact zy _)]
  exact ⟨⟨n,rfl⟩,hG⟩
 refine aF l.length (fun i (G:List aa)=>S G) (fun i G=>[(0,.al 0 (bN l)),(1,.fn (.func g) [] cP),(7,.int .i64 l.length),(8,.int .i64 i)]) (fun i G=>G) H ⟨hH,ax _ _ _⟩ fun i G hi hG=>?_
 simp +contextual only [bY,sZ,Nat.reduceEqDiff,Nat.reduceAdd,↓reduceIte,reduceCtorEq]
 refine ⟨fun aM=>?_,fun fV=>?_⟩
 ·have aM:=bp aM
  refine ⟨aM,af (hf _ (dM aM) G hG) ?_⟩
  rintro r G' ⟨⟨b,rfl⟩,fa⟩
  cases b with
  | true=>simp +contextual only [sZ,Nat.reduceEqDiff,↓reduceIte,reduceCtorEq];exact fin _ _ fa
  | false=>simp +contextual only [sZ,Nat.reduceEqDiff,↓reduceIte,reduceCtorEq];exact ⟨i + 1,G',⟨aM,fa⟩,by omega,ay (by rw [aj i (by omega)]) rfl⟩
 ·exact fin _ _ hG
theorem aaW {S:List aa→Prop} (hS:Ax S) (g:Nat) (cP:List AV) (bY:cP.map AV.ab=cP) (l:List T) (hf:∀ x∈l,∀ H,S H→aA Tryz.prog g ([x.av]++cP) H (Vs S)) {H:List aa} (hH:S H) :
 aA Tryz.prog 53 [.al 0 (bN l),.fn (.func g) [] cP] H (Vs S):=by
 refine V7.2.calls rfl ?_
 simp only [V7,aH]
 simp +contextual only [sZ,Nat.reduceEqDiff,Nat.reduceAdd,↓reduceIte,reduceCtorEq]
 refine af (aaV hS g cP bY l hf hH) ?_
 rintro r G ⟨⟨n,rfl⟩,hG⟩
 simp +contextual only [sZ,↓reduceIte,reduceCtorEq]
 exact Kl hS hH hG
structure Fw (q q2:Nat) (H0 H:List aa):Prop where
 len:H.length=H0.length
 cnt:∃ n,H[q]?=some (.cells [.int .i64 n])
 fn:H[q2]?=some (.cells [.fn (.func 71) [] [.ptr q 0,.ptr q2 0]])
 get:∀ j,j≠q→H[j]?=H0[j]?
theorem Fw.Ax (q q2:Nat) (H0:List aa):Go.aI.Ax (Fw q q2 H0):=fun H H' h h'=>h'.len.trans h.len.symm
theorem Fw.set {q q2:Nat} {H0 H:List aa} (h:Fw q q2 H0 H) (hn:q≠q2) (n:Int):Fw q q2 H0 (H.set q (.cells [.int .i64 n])):=by
 obtain ⟨m,hm⟩:=h.cnt
 exact ⟨by simp [h.len],⟨n,Sx (aS hm)⟩,by rw [zA hn];exact h.fn,fun j hj=>by rw [zA (Ne.symm hj)];exact h.get j hj⟩
theorem c71 {q q2:Nat} (hn:q≠q2) {H0:List aa}:∀ (N:Nat) (t:T),wt t≤N→∀ (d:Int) (H:List aa),Fw q q2 H0 H→aA Tryz.prog 71 [t.av,.int .i64 d,.ptr q 0,.ptr q2 0] H (Vs (Fw q q2 H0)):=by
 intro N
 induction N with
 | zero=>intro t h;have:=dt t;omega
 | succ N ih=>
   intro t hw d H hH
   refine k71.2.calls rfl ?_
   simp only [k71,aH]
   have hwe:=vn t
   obtain ⟨m,hm⟩:=hH.cnt
   have iJ:∀ o,(H.set q o)[q]?=some o:=fun o=>Sx (aS hm)
   simp +contextual only [hm,iJ,sZ,Nat.reduceEqDiff,Nat.reduceAdd,Nat.reduceLT,↓reduceIte,reduceCtorEq]
   have c72:∀ x∈t.l,∀ H,Fw q q2 H0 H→aA Tryz.prog 72 ([x.av]++[.ptr q2 0,.ah (.int .i64 d)]) H (Vs (Fw q q2 H0)):=by
    intro x hx H hH
    refine k72.2.calls rfl ?_
    simp only [k72,aH,List.cons_append,List.nil_append]
    have hfn:=hH.fn
    simp +contextual only [hfn,sZ,Nat.reduceEqDiff,Nat.reduceAdd,Nat.reduceLT,↓reduceIte,reduceCtorEq]
    refine af (ih x (by have:=ch hx;omega) _ H hH) ?_
    rintro r G ⟨⟨b,rfl⟩,hG⟩
    simp +contextual only [sZ,↓reduceIte,reduceCtorEq]
    exact Kl (Fw.Ax q q2 H0) hH hG
   refine ⟨fun _=>⟨fun _=>af (aaW (Fw.Ax q q2 H0) 72 [.ptr q2 0,.ah (.int .i64 d)] rfl t.l c72 (hH.set hn _)) ?_,fun _=>Kl (Fw.Ax q q2 H0) hH (hH.set hn _)⟩,fun _=>Kl (Fw.Ax q q2 H0) hH (hH.set hn _)⟩
   rintro r G ⟨⟨b,rfl⟩,hG⟩
   simp +contextual only [sZ,Nat.reduceEqDiff,↓reduceIte,reduceCtorEq]
   exact Kl (Fw.Ax q q2 H0) hH hG
theorem c19 (n:Int) (l:List T) (H:List aa):aA Tryz.prog 19 [.int .i64 n,.al 0 (bN l)] H fun r H'=>(∃ b,r=.bool b)∧H'=H:=by
 refine k19.2.calls rfl ?_
 simp only [k19,aH]
 have Xa:∀ (x y:AV),ai [x] 0 [y]=[y]:=fun _ _=>rfl
 simp +contextual only [sZ,Nat.reduceEqDiff,Nat.reduceAdd,↓reduceIte,reduceCtorEq]
 obtain ⟨H0,eH0⟩:∃ H0,H0=H++[aa.cells [AV.int .i64 n],.cells [.fn (.func 71) [] [.ptr H.length 0,.ptr (H.length + 1) 0]]]:=⟨_,rfl⟩
 have hF:Fw H.length (H.length + 1) H0 H0:=⟨rfl,⟨n,by rw [eH0];simp⟩,by rw [eH0];simp,fun _ _=>rfl⟩
 rw [← eH0]
 have A6:H0.length=H.length + 2:=by rw [eH0];simp
 have WM:H0.take H.length=H:=by rw [eH0];simp
 have c73:∀ x∈l,∀ G,Fw H.length (H.length + 1) H0 G→aA Tryz.prog 73 ([x.av]++[.ptr (H.length + 1) 0]) G (Vs (Fw H.length (H.length + 1) H0)):=by
  intro x hx G hG
  refine k73.2.calls rfl ?_
  simp only [k73,aH,List.cons_append,List.nil_append]
  have hfn:=hG.fn
  simp +contextual only [hfn,sZ,Nat.reduceEqDiff,Nat.reduceAdd,Nat.reduceLT,↓reduceIte,reduceCtorEq]
  refine af (c71 (by omega) _ x (zy _) _ G hG) ?_
  rintro r G' ⟨⟨b,rfl⟩,fa⟩
  simp +contextual only [sZ,↓reduceIte,reduceCtorEq]
  exact Kl (Fw.Ax _ _ H0) hG fa
 refine ⟨by simp;omega,af (aaW (Fw.Ax _ _ H0) 73 [.ptr (H.length + 1) 0] rfl l c73 hF) ?_⟩
 rintro r G ⟨⟨b,rfl⟩,hG⟩
 simp +contextual only [sZ,↓reduceIte,reduceCtorEq]
 refine aT H.length (zy _) (by rw [aD,if_pos rfl];rfl) ?_
 rw [aD,if_pos rfl]
 refine ⟨⟨!b,rfl⟩,?_⟩
 refine Eq.trans ?_ WM
 apply abT
 intro j
 rw [aaG,aaG]
 by_cases hj:j < H.length
 ·rw [if_pos hj,if_pos hj];exact hG.get j (by omega)
 ·rw [if_neg hj,if_neg hj]
end Go.aI
end
section
set_option maxRecDepth 100000
namespace Go.aI
open Go Go.Proofs Go.dD
def NA (o:jg):Prop:=o.args.length≤20∧o.name.size≤200
theorem c68 (o:jg):∃ b,Pure Tryz.prog 68 [o.av] (.bool b)∧(b=false→NA o):=by
 refine ⟨decide (20 < (o.args.length:Int)) || decide (200 < (o.name.size:Int)),fun H=>k68.2.calls rfl ?_,fun h=>by simp at h;exact ⟨by omega,by omega⟩⟩
 simp only [k68,aH]
 simp +contextual only [aC,sZ,Nat.reduceEqDiff,Nat.reduceAdd,↓reduceIte,reduceCtorEq]
 refine fun _=>⟨fun h=>aK rfl ?_,fun h=>aK rfl ?_⟩
 ·have h':¬ (20:Int) < o.args.length:=by omega
  rw [decide_eq_false h',Bool.false_or]
 ·rw [decide_eq_true h,Bool.true_or]
theorem c70 (s:ByteArray):∃ b,Pure Tryz.prog 70 [.str s] (.bool b)∧(b=false→s.size≤200):=by
 refine ⟨decide (200 < (s.size:Int)),fun H=>k70.2.calls rfl ?_,fun h=>by simp at h;omega⟩
 simp only [k70,aH]
 simp +contextual only [sZ,Nat.reduceAdd,↓reduceIte,reduceCtorEq]
 exact aK rfl rfl
theorem aaX (l:List jg):∀ H,aA Tryz.prog 128 [.al 0 (pw l),.fn (.func 68) [] []] H fun r H'=>(∃ n,r=.int .i64 n∧(n < 0→∀ o∈l,NA o))∧H'=H:=by
 refine fun H=>Xx.2.calls rfl ?_
 simp only [Xx,aH]
 simp +contextual only [aC,sZ,Nat.reduceEqDiff,Nat.reduceAdd,↓reduceIte,reduceCtorEq]
 intro hl
 have fin:∀ (n:Int),(n < 0→∀ o∈l,NA o)→bP H.length [.t 4] [(4,.int .i64 n)] H fun r H'=>(∃ n,r=.int .i64 n∧(n < 0→∀ o∈l,NA o))∧H'=H:=fun n hn=>
  aT H.length (zy _) (by rw [aD,if_pos rfl];rfl) ⟨⟨n,by rw [aD,if_pos rfl],hn⟩,aby⟩
 refine aq l.length (fun i=>∀ j,j < i→NA (l.getD j default)) (fun i=>[(0,.al 0 (pw l)),(1,.fn (.func 68) [] []),(7,.int .i64 l.length),(8,.int .i64 i)]) (fun _=>H) ⟨fun j h=>by omega,ax _ _ _⟩ fun i hi hI=>?_
 simp +contextual only [aC,sZ,Nat.reduceEqDiff,Nat.reduceAdd,↓reduceIte,reduceCtorEq]
 obtain ⟨b,hb,hq⟩:=c68 (l.getD i default)
 refine ⟨fun aM=>?_,fun fV=>fin _ fun _=>lj fun j hj=>hI j (by have:=bZ fV;omega)⟩
 have aM:=bp aM
 refine ⟨aM,ae hb ?_⟩
 cases b with
 | true=>simp +contextual only [sZ,Nat.reduceEqDiff,↓reduceIte,reduceCtorEq];exact fin _ fun h=>by omega
 | false=>
   simp +contextual only [sZ,Nat.reduceEqDiff,↓reduceIte,reduceCtorEq]
   refine ⟨i + 1,⟨aM,fun j hj=>?_⟩,by omega,ay (by rw [aj i (by omega)]) rfl⟩
   by_cases e:j < i
   ·exact hI j e
   ·have:j=i:=by omega
    subst this;exact hq rfl
theorem ae9 (l:List jg):∀ H,aA Tryz.prog 67 [.al 0 (pw l),.fn (.func 68) [] []] H fun r H'=>(∃ b,r=.bool b∧(b=false→∀ o∈l,NA o))∧H'=H:=by
 refine fun H=>k67.2.calls rfl ?_
 simp only [k67,aH]
 simp +contextual only [sZ,Nat.reduceEqDiff,Nat.reduceAdd,↓reduceIte,reduceCtorEq]
 refine af (aaX l H) ?_
 rintro r G ⟨⟨n,rfl,hn⟩,rfl⟩
 simp +contextual only [sZ,↓reduceIte,reduceCtorEq]
 exact aT _ (zy _) (by rw [aD,if_pos rfl];rfl) ⟨⟨decide (0≤n),by rw [aD,if_pos rfl],fun h=>hn (by simpa using h)⟩,aby⟩
theorem aaY (l:List ByteArray):∀ H,aA Tryz.prog 129 [.al 0 (strs l),.fn (.func 70) [] []] H fun r H'=>(∃ n,r=.int .i64 n∧(n < 0→∀ o∈l,o.size≤200))∧H'=H:=by
 refine fun H=>Xy.2.calls rfl ?_
 simp only [Xy,aH]
 simp +contextual only [aC,sZ,Nat.reduceEqDiff,Nat.reduceAdd,↓reduceIte,reduceCtorEq]
 intro hl
 have fin:∀ (n:Int),(n < 0→∀ o∈l,o.size≤200)→bP H.length [.t 4] [(4,.int .i64 n)] H fun r H'=>(∃ n,r=.int .i64 n∧(n < 0→∀ o∈l,o.size≤200))∧H'=H:=fun n hn=>
  aT H.length (zy _) (by rw [aD,if_pos rfl];rfl) ⟨⟨n,by rw [aD,if_pos rfl],hn⟩,aby⟩
 refine aq l.length (fun i=>∀ j,j < i→(l.getD j default).size≤200) (fun i=>[(0,.al 0 (strs l)),(1,.fn (.func 70) [] []),(7,.int .i64 l.length),(8,.int .i64 i)]) (fun _=>H) ⟨fun j h=>by omega,ax _ _ _⟩ fun i hi hI=>?_
 simp +contextual only [aC,sZ,Nat.reduceEqDiff,Nat.reduceAdd,↓reduceIte,reduceCtorEq]
 obtain ⟨b,hb,hq⟩:=c70 (l.getD i default)
 refine ⟨fun aM=>?_,fun fV=>fin _ fun _=>lj fun j hj=>hI j (by have:=bZ fV;omega)⟩
 have aM:=bp aM
 refine ⟨aM,ae hb ?_⟩
 cases b with
 | true=>simp +contextual only [sZ,Nat.reduceEqDiff,↓reduceIte,reduceCtorEq];exact fin _ fun h=>by omega
 | false=>
   simp +contextual only [sZ,Nat.reduceEqDiff,↓reduceIte,reduceCtorEq]
   refine ⟨i + 1,⟨aM,fun j hj=>?_⟩,by omega,ay (by rw [aj i (by omega)]) rfl⟩
   by_cases e:j < i
   ·exact hI j e
   ·have:j=i:=by omega
    subst this;exact hq rfl
theorem afa (l:List ByteArray):∀ H,aA Tryz.prog 69 [.al 0 (strs l),.fn (.func 70) [] []] H fun r H'=>(∃ b,r=.bool b∧(b=false→∀ o∈l,o.size≤200))∧H'=H:=by
 refine fun H=>k69.2.calls rfl ?_
 simp only [k69,aH]
 simp +contextual only [sZ,Nat.reduceEqDiff,Nat.reduceAdd,↓reduceIte,reduceCtorEq]
 refine af (aaY l H) ?_
 rintro r G ⟨⟨n,rfl,hn⟩,rfl⟩
 simp +contextual only [sZ,↓reduceIte,reduceCtorEq]
 exact aT _ (zy _) (by rw [aD,if_pos rfl];rfl) ⟨⟨decide (0≤n),by rw [aD,if_pos rfl],fun h=>hn (by simpa using h)⟩,aby⟩
structure On (s:Sg) (ps ss:List Int):Prop where
 h1:s.ops.length≤40
 h2:s.aU.length≤40
 h3:ps.length≤80
 h4:ss.length≤80
 h5:∀ o∈s.ops,NA o
 h6:∀ x∈s.aU,x.size≤200
theorem c18 (s:Sg) (ps ss:List Int) (H:List aa):aA Tryz.prog 18 [s.av,dE ps ss] H fun r H'=>(∃ b,r=.bool b∧(b=true→On s ps ss))∧H'=H:=by
 refine k18.2.calls rfl ?_
 simp only [k18,aH]
 have fin:∀ (b:Bool),(b=true→On s ps ss)→bP H.length [.t 4] [(4,.bool b)] H fun r H'=>(∃ b,r=.bool b∧(b=true→On s ps ss))∧H'=H:=fun b hb=>
  aT H.length (zy _) (by rw [aD,if_pos rfl];rfl) ⟨⟨b,by rw [aD,if_pos rfl],hb⟩,aby⟩
 have finf:=fin false (fun h=>by cases h)
 obtain ⟨q1,q2,q3,q4,q5,q6⟩:=aR ps ss
 simp +contextual only [aC,q1,rv,sT,ap,sZ,Nat.reduceEqDiff,Nat.reduceAdd,↓reduceIte,reduceCtorEq]
 refine fun _=>⟨fun h1 _=>⟨fun h2 _=>⟨fun h3 _=>⟨fun h4=>af (ae9 s.ops H) ?_,fun _=>finf⟩,fun _=>finf⟩,fun _=>finf⟩,fun _=>finf⟩
 rintro r G ⟨⟨b,rfl,hb⟩,rfl⟩
 cases b with
 | true=>simp +contextual only [sZ,Nat.reduceEqDiff,↓reduceIte,reduceCtorEq];exact finf
 | false=>
   simp +contextual only [aC,sZ,Nat.reduceEqDiff,Nat.reduceAdd,↓reduceIte]
   refine af (afa s.aU _) ?_
   rintro r G ⟨⟨d,rfl,hd⟩,rfl⟩
   simp +contextual only [sZ,Nat.reduceEqDiff,↓reduceIte,reduceCtorEq]
   exact fin _ fun h=>⟨by omega,by omega,by omega,by omega,hb rfl,hd (by simpa using h)⟩
end Go.aI
end
section
set_option maxRecDepth 100000
namespace Go.aI
open Go Go.Proofs
def QM (c:UInt8):Prop:=¬ ((c.toNat:Int) < 33∨126 < (c.toNat:Int)∨(c.toNat:Int)=40∨(c.toNat:Int)=41∨(c.toNat:Int)=44)
def oB (s:ByteArray):Prop:=(∀ i,i < s.size→QM (s.data.toList.getD i 0))∧1≤s.size∧s.size≤32
theorem lC {P:Prop} (h:Decidable P) {H:List aa} {s:Nat} (hp:¬ P):bP H.length [.t s] [(s,.bool false)] H fun r H'=>r=.bool (decide P)∧H'=H:=aK rfl (by simp [hp])
open Classical in
theorem aaZ (s:ByteArray) (hs:s.size≤200):Pure Tryz.prog 195 [.str s] (.bool (decide (oB s))):=by
 refine fun H=>Yo.2.calls rfl ?_
 simp only [Yo,aH]
 simp +contextual only [sZ,Nat.reduceAdd,↓reduceIte,reduceCtorEq]
 refine aq s.size (fun i=>∀ j,j < i→QM (s.data.toList.getD j 0))
  (fun i=>[(0,.str s),(3,.int .i64 i)]) (fun i=>H) ⟨fun j h=>by omega,ax _ _ _⟩ fun i hi hI=>?_
 simp +contextual only [ixs,sZ,Nat.reduceEqDiff,↓reduceIte,reduceCtorEq,Int.reduceLT]
 have bad (hl:i < s.size) (h:¬ QM (s.data.toList.getD i 0)):¬ oB s:=fun e=>h (e.1 i hl)
 refine ⟨fun hl=>?_,fun hl=>⟨fun h1=>?_,fun h1=>?_⟩⟩
 ·have hl:=bp hl
  have bad:=bad hl
  unfold QM at bad
  refine ⟨hl,fun a=>⟨hl,fun b=>⟨hl,fun c=>⟨hl,fun d=>⟨hl,fun e=>?_,fun e=>?_⟩,fun d=>?_⟩,fun c=>?_⟩,fun b=>?_⟩,fun a=>?_⟩
  ·exact lC _ (bad (by omega))
  ·refine ⟨i + 1,⟨hl,fun j hj=>?_⟩,by omega,ay (by rw [aj i (by omega)]) rfl⟩
   by_cases HB:j < i
   ·exact hI j HB
   ·have:j=i:=by omega
    subst this
    unfold QM;omega
  ·exact lC _ (bad (by omega))
  ·exact lC _ (bad (by omega))
  ·exact lC _ (bad (by omega))
  ·exact lC _ (bad (by omega))
 ·refine aK rfl ?_
  have e:(((s.size:Nat):Int)≤32)=oB s:=propext ⟨fun h=>⟨fun j hj=>hI j (by omega),by omega,by omega⟩,fun h=>by have:=h.2.2;omega⟩
  simp only [e]
 ·exact lC _ fun e=>by have:=e.2.1;omega
def Cr (s:ByteArray):Nat:=s.data.toList.countP (· == 95)
theorem aa0 (s:ByteArray) (hs:s.size≤200):Pure Tryz.prog 196 [.str s] (.int .i64 (Cr s:Nat)):=by
 unfold Cr
 refine fun H=>Yp.2.calls rfl ?_
 simp only [Yp,aH]
 simp +contextual only [sZ,Nat.reduceEqDiff,Nat.reduceAdd,↓reduceIte,reduceCtorEq]
 refine aq s.size (fun i=>True)
  (fun i=>[(0,.str s),(3,.int .i64 ((s.data.toList.take i).countP (· == 95):Nat)),(4,.int .i64 i)]) (fun i=>H) ⟨trivial,ax _ _ _⟩ fun i hi hI=>?_
 simp +contextual only [ixs,sZ,Nat.reduceEqDiff,↓reduceIte,reduceCtorEq]
 have hz:s.data.toList.length=s.size:=rfl
 have hc:=agb (p:=(· == (95:UInt8))) (l:=s.data.toList.take i)
 rw [abS] at hc
 refine ⟨fun hl=>?_,fun hl=>?_⟩
 ·have hl:=bp hl
  have xf:i < s.data.toList.length:=hl
  have eg:s.data.toList.getD i 0=s.data.toList[i]:=by rw [th,Hj xf];rfl
  have et:(s.data.toList.take (i + 1)).countP (· == 95)=(s.data.toList.take i).countP (· == 95) + if (s.data.toList.getD i 0 == 95)=true then 1 else 0:=by
   rw [adC,List.countP_append,eg,Hj xf];simp [afN]
  refine ⟨hl,fun a=>⟨i + 1,hl,by omega,ay ?_ rfl⟩,fun a=>⟨i + 1,hl,by omega,ay ?_ rfl⟩⟩
  ·have:(s.data.toList.getD i 0 == 95)=true:=by
    rw [beq_iff_eq];apply UInt8.toNat_inj.1;simpa using Int.ofNat.inj a
   rw [aj i (by omega),aj _ (by omega),et,if_pos this]
  ·have:¬ (s.data.toList.getD i 0 == 95)=true:=by
    rw [beq_iff_eq];intro h;rw [h] at a;exact a rfl
   rw [aj i (by omega),et,if_neg this];rfl
 ·rw [aax (by have:=bZ hl;omega)]
  exact aK rfl rfl
def jj (s:Sg) (l:List Int):Prop:=∀ x∈l,0≤x∧x < s.aU.length
open Classical in
theorem NB (s:Sg) (l:List Int):Pure Tryz.prog 232 [s.av,.al 0 (ints l)] (.bool (decide (jj s l))):=by
 refine fun H=>YT.2.calls rfl ?_
 simp only [YT,aH]
 simp +contextual only [aC,sZ,Nat.reduceEqDiff,Nat.reduceAdd,↓reduceIte,reduceCtorEq]
 refine aq l.length (fun i=>∀ j,j < i→0≤l.getD j 0∧l.getD j 0 < s.aU.length)
  (fun i=>[(1,.al 0 (ints l)),(2,.ah s.av),(5,.int .i64 i)]) (fun i=>H) ⟨fun j h=>by omega,ax _ _ _⟩ fun i hi hI=>?_
 by_cases hl:i < l.length
 ·have bad (h:¬ (0≤l.getD i 0∧l.getD i 0 < s.aU.length)):¬ jj s l:=fun e=>h (e _ (aV hl))
  have e0:((i:Int) < l.length)=True:=eq_true (by omega)
  by_cases h1:l.getD i 0 < 0
  ·have e1:(l.getD i 0 < 0)=True:=eq_true h1
   simp +contextual only [e0,e1,hl,decide_true,sZ,Nat.reduceEqDiff,↓reduceIte,reduceCtorEq]
   exact fun _=>lC _ (bad (by omega))
  ·have e1:(l.getD i 0 < 0)=False:=eq_false h1
   by_cases h2:s.aU.length≤l.getD i 0
   ·have e2:((s.aU.length:Int)≤l.getD i 0)=True:=eq_true h2
    simp +contextual only [aC,e0,e1,e2,hl,decide_true,decide_false,sZ,Nat.reduceEqDiff,↓reduceIte,reduceCtorEq]
    exact fun _=>lC _ (bad (by omega))
   ·have e2:((s.aU.length:Int)≤l.getD i 0)=False:=eq_false h2
    simp +contextual only [aC,e0,e1,e2,hl,decide_true,decide_false,sZ,Nat.reduceEqDiff,↓reduceIte]
    refine fun _=>⟨i + 1,⟨hl,fun j hj=>?_⟩,by omega,ay (by rw [aj i (by omega)]) rfl⟩
    by_cases HB:j < i
    ·exact hI j HB
    ·have:j=i:=by omega
     subst this
     exact ⟨by omega,by omega⟩
 ·have e0:((i:Int) < l.length)=False:=eq_false (by omega)
  simp +contextual only [e0,sZ,Nat.reduceEqDiff,↓reduceIte,reduceCtorEq]
  refine fun _=>aK rfl ?_
  have:jj s l:=fun x hx=>by
   obtain ⟨n,hn,rfl⟩:=acg hx
   have:=hI n (by omega)
   rwa [th,Hj hn] at this
  simp [this]
def NC (s:Sg) (o:jg):Prop:=oB o.name∧Cr o.name≠o.name.size∧(Cr o.name=0∨Cr o.name=o.args.length)∧o.args.length≤8∧jj s o.args∧jj s [o.zm]
theorem ND (a:Int):[AV.int .i64 a]=ints [a]:=rfl
open Classical in
theorem afb (s:Sg) (o:jg) (ho:NA o):Pure Tryz.prog 197 [s.av,o.av] (.bool (decide (NC s o))):=by
 have e1:=aa0 o.name ho.2
 have e2:=aaZ o.name ho.2
 have hb:Cr o.name≤o.name.size:=agb (p:=(· == (95:UInt8))) (l:=o.name.data.toList)
 have e3:=NB s o.args
 have e4:=NB s [o.zm]
 have hR:NC s o=(oB o.name∧Cr o.name≠o.name.size∧(Cr o.name=0∨Cr o.name=o.args.length)∧o.args.length≤8∧jj s o.args∧jj s [o.zm]):=rfl
 refine fun H=>Yq.2.calls rfl ?_
 simp only [Yq,aH]
 simp +contextual only [aC,sZ,Nat.reduceEqDiff,Nat.reduceAdd,↓reduceIte,reduceCtorEq]
 refine ae e1 ?_
 simp +contextual only [aC,sZ,Nat.reduceEqDiff,Nat.reduceAdd,↓reduceIte]
 refine ae e2 ?_
 have ha:=ho.1
 generalize Cr o.name=n at *
 by_cases hn:oB o.name
 ·rw [decide_eq_true hn]
  by_cases h1:n=o.name.size
  ·have f1:((n:Int)=o.name.size)=True:=eq_true (by omega)
   simp +contextual only [aC,f1,decide_true,sZ,Nat.reduceEqDiff,↓reduceIte,reduceCtorEq]
   exact lC _ (by rw [hR];exact fun e=>e.2.1 h1)
  have f1:((n:Int)=o.name.size)=False:=eq_false (by omega)
  by_cases h2:n=0∨n=o.args.length
  ·have hz:(0 < (n:Int))=False∧(True∧True)=True∨(0 < (n:Int))=True∧((n:Int)=o.args.length)=True:=by
    by_cases h0:n=0
    ·exact .inl ⟨eq_false (by omega),by simp⟩
    ·exact .inr ⟨eq_true (by omega),eq_true (by omega)⟩
   rcases hz with ⟨f2,f3⟩ | ⟨f2,f3⟩
   all_goals
    simp +contextual only [aC,f1,f2,f3,decide_false,decide_true,sZ,Nat.reduceEqDiff,Nat.reduceAdd,↓reduceIte,reduceCtorEq]
    refine fun _=>⟨fun h3=>ae e3 ?_,fun h3=>lC _ (by rw [hR];exact fun e=>by have:=e.2.2.2.1;omega)⟩
    by_cases h4:jj s o.args
    ·rw [decide_eq_true h4]
     simp +contextual only [aC,ND,sZ,Nat.reduceEqDiff,Nat.reduceAdd,↓reduceIte]
     refine ae e4 ?_
     simp +contextual only [sZ,Nat.reduceEqDiff,↓reduceIte,reduceCtorEq]
     refine aK rfl ?_
     have:NC s o=jj s [o.zm]:=by rw [hR];exact propext ⟨fun e=>e.2.2.2.2.2,fun e=>⟨hn,h1,h2,by omega,h4,e⟩⟩
     simp only [this]
    ·rw [decide_eq_false h4]
     simp +contextual only [sZ,Nat.reduceEqDiff,↓reduceIte,reduceCtorEq]
     exact lC _ (by rw [hR];exact fun e=>h4 e.2.2.2.2.1)
  ·have f2:(0 < (n:Int))=True:=eq_true (by omega)
   have f3:((n:Int)=o.args.length)=False:=eq_false (by omega)
   simp +contextual only [aC,f1,f2,f3,decide_false,decide_true,sZ,Nat.reduceEqDiff,↓reduceIte,reduceCtorEq]
   exact fun _=>lC _ (by rw [hR];exact fun e=>h2 e.2.2.1)
 ·rw [decide_eq_false hn]
  simp +contextual only [sZ,Nat.reduceEqDiff,↓reduceIte,reduceCtorEq]
  exact lC _ (by rw [hR];exact fun e=>hn e.1)
end Go.aI
end
section
set_option maxRecDepth 100000
namespace Go.aI
open Go Go.Proofs
def Vt (s:Sg) (i:Nat):Prop:=oB (s.aU.getD i default)∧Cr (s.aU.getD i default)=0∧∀ k,k < i→s.aU.getD k default≠s.aU.getD i default
def We (a b:jg):Prop:=a.name=b.name∧a.zm=b.zm∧a.args=b.args
def Wf (s:Sg) (i:Nat):Prop:=NC s (s.ops.getD i default)∧∀ k,k < i→¬ We (s.ops.getD k default) (s.ops.getD i default)
def vS (s:Sg):Prop:=s.aU.length≤64∧s.ops.length≤256∧(∀ i,i < s.aU.length→Vt s i)∧∀ i,i < s.ops.length→Wf s i
open Classical in
theorem aa1 (s:Sg) (ho:∀ o∈s.ops,NA o) (hs:∀ x∈s.aU,x.size≤200) (h40:s.ops.length≤40) (h41:s.aU.length≤40):Pure Tryz.prog 145 [s.av] (.bool (decide (vS s))):=by
 refine fun H=>XL.2.calls rfl ?_
 simp only [XL,aH]
 have f1:(64 < (s.aU.length:Int))=False:=eq_false (by omega)
 have f2:(256 < (s.ops.length:Int))=False:=eq_false (by omega)
 simp +contextual only [aC,f1,f2,decide_false,sZ,Nat.reduceEqDiff,Nat.reduceAdd,↓reduceIte]
 refine fun _ _=>aq s.aU.length (fun i=>∀ j,j < i→Vt s j) (fun i=>[(1,.ah s.av),(3,.int .i64 i)]) (fun i=>H) ⟨fun j h=>by omega,ax _ _ _⟩ fun i hi hI=>?_
 by_cases hl:i < s.aU.length
 ·have e0:((i:Int) < s.aU.length)=True:=eq_true (by omega)
  have bad (h:¬ Vt s i):¬ vS s:=fun e=>h (e.2.2.1 i hl)
  have hx:=hs _ (oc hl)
  have e1:=aaZ _ hx
  have e2:=aa0 _ hx
  have hR:Vt s i=(oB (s.aU.getD i default)∧Cr (s.aU.getD i default)=0∧∀ k,k < i→s.aU.getD k default≠s.aU.getD i default):=rfl
  simp +contextual only [aC,e0,hl,sZ,Nat.reduceEqDiff,Nat.reduceAdd,↓reduceIte]
  refine fun _=>ae e1 ?_
  by_cases h1:oB (s.aU.getD i default)
  ·rw [decide_eq_true h1]
   simp +contextual only [aC,hl,sZ,Nat.reduceEqDiff,Nat.reduceAdd,↓reduceIte]
   refine ae e2 ?_
   by_cases h2:Cr (s.aU.getD i default)=0
   ·rw [h2]
    have e9:(0 < ((0:Nat):Int))=False:=eq_false (by omega)
    simp +contextual only [e9,decide_false,sZ,Nat.reduceEqDiff,↓reduceIte]
    refine aq i (fun k=>∀ j,j < k→s.aU.getD j default≠s.aU.getD i default) (fun k=>[(1,.ah s.av),(3,.int .i64 i),(4,.int .i64 k)]) (fun i=>H) ⟨fun j h=>by omega,ax _ _ _⟩ fun k hk hK=>?_
    by_cases lZ:k < i
    ·have e3:((k:Int) < i)=True:=eq_true (by omega)
     have qM:k < s.aU.length:=by omega
     by_cases h3:s.aU.getD k default=s.aU.getD i default
     ·simp +contextual only [aC,e3,hl,qM,ru,h3,decide_true,sZ,Nat.reduceEqDiff,↓reduceIte,reduceCtorEq]
      exact lC _ (bad (by rw [hR];exact fun e=>e.2.2 k lZ h3))
     ·simp +contextual only [aC,e3,hl,qM,ru,h3,decide_false,sZ,Nat.reduceEqDiff,↓reduceIte]
      exact ⟨k + 1,⟨lZ,dl hK h3⟩,by omega,ay (by rw [aj k (by omega)]) rfl⟩
    ·have e3:((k:Int) < i)=False:=eq_false (by omega)
     simp +contextual only [e3,sZ,Nat.reduceEqDiff,↓reduceIte]
     exact ⟨i + 1,⟨hl,dl hI (by rw [hR];exact ⟨h1,h2,fun j hj=>hK j (by omega)⟩)⟩,by omega,ay (by rw [aj i (by omega)]) rfl⟩
   ·have e3:(0 < ((Cr (s.aU.getD i default):Nat):Int))=True:=eq_true (by omega)
    simp +contextual only [e3,decide_true,sZ,Nat.reduceEqDiff,↓reduceIte,reduceCtorEq]
    exact lC _ (bad (by rw [hR];exact fun e=>h2 e.2.1))
  ·rw [decide_eq_false h1]
   simp +contextual only [sZ,Nat.reduceEqDiff,↓reduceIte,reduceCtorEq]
   exact lC _ (bad (by rw [hR];exact fun e=>h1 e.1))
 have e0:((i:Int) < s.aU.length)=False:=eq_false (by omega)
 have KD:∀ i,i < s.aU.length→Vt s i:=fun j hj=>hI j (by omega)
 simp +contextual only [aC,e0,sZ,Nat.reduceEqDiff,↓reduceIte]
 refine fun _=>aq s.ops.length (fun i=>∀ j,j < i→Wf s j) (fun i=>[(1,.ah s.av),(5,.int .i64 i)]) (fun i=>H) ⟨fun j h=>by omega,ax _ _ _⟩ fun i hi hI=>?_
 by_cases hl:i < s.ops.length
 ·have e0:((i:Int) < s.ops.length)=True:=eq_true (by omega)
  have bad (h:¬ Wf s i):¬ vS s:=fun e=>h (e.2.2.2 i hl)
  have e1:=afb s _ (ho _ (oc hl))
  have hR:Wf s i=(NC s (s.ops.getD i default)∧∀ k,k < i→¬ We (s.ops.getD k default) (s.ops.getD i default)):=rfl
  simp +contextual only [aC,e0,hl,sZ,Nat.reduceEqDiff,↓reduceIte]
  refine fun _=>aB e1 ?_
  by_cases h1:NC s (s.ops.getD i default)
  ·rw [decide_eq_true h1]
   simp +contextual only [sZ,Nat.reduceEqDiff,↓reduceIte]
   refine aq i (fun k=>∀ j,j < k→¬ We (s.ops.getD j default) (s.ops.getD i default)) (fun k=>[(1,.ah s.av),(5,.int .i64 i),(6,.int .i64 k)]) (fun i=>H) ⟨fun j h=>by omega,ax _ _ _⟩ fun k hk hK=>?_
   by_cases lZ:k < i
   ·have e3:((k:Int) < i)=True:=eq_true (by omega)
    have qM:k < s.ops.length:=by omega
    have next (h:¬ We (s.ops.getD k default) (s.ops.getD i default)):∃ j,(j≤i∧∀ j_1,j_1 < j→¬ We (s.ops.getD j_1 default) (s.ops.getD i default))∧i - j < i - k∧sle H.length [(1,.ah s.av),(5,.int .i64 i),(6,.int .i64 (IntKind.i64.wrap ((k:Int) + 1)))] H [(1,.ah s.av),(5,.int .i64 i),(6,.int .i64 j)] H:=
     ⟨k + 1,⟨lZ,dl hK h⟩,by omega,ay (by rw [aj k (by omega)]) rfl⟩
    by_cases h2:(s.ops.getD k default).name=(s.ops.getD i default).name
    ·by_cases h3:(s.ops.getD k default).zm=(s.ops.getD i default).zm
     ·simp +contextual only [aC,e3,hl,qM,ru,h2,h3,decide_true,sZ,Nat.reduceEqDiff,↓reduceIte]
      refine aB (adi _ _ _ _) ?_
      by_cases h4:(s.ops.getD k default).args=(s.ops.getD i default).args
      ·simp +contextual only [h4,decide_true,sZ,Nat.reduceEqDiff,↓reduceIte,reduceCtorEq]
       exact lC _ (bad (by rw [hR];exact fun e=>e.2 k lZ ⟨h2,h3,h4⟩))
      ·simp +contextual only [h4,decide_false,sZ,Nat.reduceEqDiff,↓reduceIte]
       exact next fun e=>h4 e.2.2
     ·simp +contextual only [aC,e3,hl,qM,ru,h2,h3,decide_true,decide_false,sZ,Nat.reduceEqDiff,↓reduceIte]
      exact next fun e=>h3 e.2.1
    ·simp +contextual only [aC,e3,hl,qM,ru,h2,decide_false,sZ,Nat.reduceEqDiff,↓reduceIte]
     exact next fun e=>h2 e.1
   ·have e3:((k:Int) < i)=False:=eq_false (by omega)
    simp +contextual only [e3,sZ,Nat.reduceEqDiff,↓reduceIte]
    exact ⟨i + 1,⟨hl,dl hI (by rw [hR];exact ⟨h1,fun j hj=>hK j (by omega)⟩)⟩,by omega,ay (by rw [aj i (by omega)]) rfl⟩
  ·rw [decide_eq_false h1]
   simp +contextual only [sZ,Nat.reduceEqDiff,↓reduceIte,reduceCtorEq]
   exact lC _ (bad (by rw [hR];exact fun e=>h1 e.1))
 ·have e0:((i:Int) < s.ops.length)=False:=eq_false (by omega)
  simp +contextual only [aC,e0,sZ,Nat.reduceEqDiff,↓reduceIte,reduceCtorEq]
  refine fun _=>aK rfl ?_
  have:vS s:=⟨by omega,by omega,KD,fun j hj=>hI j (by omega)⟩
  simp [this]
end Go.aI
end
section
set_option maxRecDepth 100000
namespace Go.aI
open Go Go.Proofs Go.dD
open Classical in
theorem c82 (s:Sg) (ho:∀ o∈s.ops,NA o) (hs:∀ x∈s.aU,x.size≤200) (h40:s.ops.length≤40) (h41:s.aU.length≤40):Pure Tryz.prog 82 [s.av] (.int .i64 (if vS s then 0 else 40)):=by
 refine fun H=>k82.2.calls rfl ?_
 simp only [k82,aH]
 simp +contextual only [aC,sZ,Nat.reduceEqDiff,Nat.reduceAdd,↓reduceIte]
 refine ae (aa1 s ho hs h40 h41) ?_
 by_cases h:vS s
 ·rw [decide_eq_true h]
  simp +contextual only [sZ,↓reduceIte,reduceCtorEq]
  exact aK rfl (by rw [if_pos h])
 ·rw [decide_eq_false h]
  simp +contextual only [sZ,↓reduceIte,reduceCtorEq]
  exact aK rfl (by rw [if_neg h])
def OrR (ps ss:List Int) (i:Nat):Prop:=0≤ps.getD i 0∧ps.getD i 0≤255∧1≤ss.getD i 0∧ss.getD i 0≤3∧∀ k,k < i→¬ (ps.getD i 0=ps.getD k 0∧¬ ss.getD i 0=ss.getD k 0)
theorem EI (ps ss:List Int) (n:Nat):Qv ps ss n↔∀ i,i < n→OrR ps ss i:=by
 constructor
 ·intro h i hi
  obtain ⟨a,b,c,d⟩:=h.Q9 i hi
  exact ⟨a,b,c,d,fun k hk e=>e.2 (h.st i k hi (by omega) e.1)⟩
 ·intro h
  refine ⟨fun j hj=>⟨(h j hj).1,(h j hj).2.1,(h j hj).2.2.1,(h j hj).2.2.2.1⟩,fun j k hj hk e=>?_⟩
  rcases af5 j k with g | g | g
  ·have:=(h k hk).2.2.2.2 j g
   by_cases x:ss.getD j 0=ss.getD k 0
   ·exact x
   ·exact absurd ⟨e.symm,fun y=>x y.symm⟩ this
  ·rw [g]
  ·have:=(h j hj).2.2.2.2 k g
   by_cases x:ss.getD j 0=ss.getD k 0
   ·exact x
   ·exact absurd ⟨e,x⟩ this
open Classical in
theorem c83 (s:Sg) (ps ss:List Int) (h40:s.ops.length≤40) (h3:ps.length≤80) (h4:ss.length≤80):Pure Tryz.prog 83 [s.av,dE ps ss] (.bool (decide (dQ s ps ss))):=by
 refine fun H=>k83.2.calls rfl ?_
 simp only [k83,aH]
 obtain ⟨q1,q2,q3,q4,q5,q6⟩:=aR ps ss
 by_cases g1:ps.length=s.ops.length
 rotate_left
 ·have f1:((ps.length:Int)=s.ops.length)=False:=eq_false (by omega)
  simp +contextual only [aC,q1,rv,ap,f1,sZ,Nat.reduceEqDiff,Nat.reduceAdd,↓reduceIte,reduceCtorEq]
  exact fun _ _=>lC _ fun e=>g1 e.1
 by_cases g2:ss.length=s.ops.length
 rotate_left
 ·have f1:((ps.length:Int)=s.ops.length)=True:=eq_true (by omega)
  have f2:((ss.length:Int)=s.ops.length)=False:=eq_false (by omega)
  simp +contextual only [aC,q1,rv,sT,ap,f1,f2,decide_false,sZ,Nat.reduceEqDiff,Nat.reduceAdd,↓reduceIte,reduceCtorEq]
  exact fun _ _ _=>lC _ fun e=>g2 e.2.1
 have f1:((ps.length:Int)=s.ops.length)=True:=eq_true (by omega)
 have f2:((ss.length:Int)=s.ops.length)=True:=eq_true (by omega)
 simp +contextual only [aC,q1,rv,sT,ap,f1,f2,sZ,Nat.reduceEqDiff,Nat.reduceAdd,↓reduceIte,reduceCtorEq]
 refine fun _ _ _=>aq s.ops.length (fun i=>∀ j,j < i→OrR ps ss j) (fun i=>[(2,.ah s.av),(3,.ah (dE ps ss)),(5,.int .i64 i)]) (fun i=>H) ⟨fun j h=>by omega,ax _ _ _⟩ fun i hi hI=>?_
 by_cases hl:i < s.ops.length
 ·have e0:((i:Int) < s.ops.length)=True:=eq_true (by omega)
  have hp:i < ps.length:=by omega
  have hq:i < ss.length:=by omega
  have bad (h:¬ OrR ps ss i):¬ dQ s ps ss:=fun e=>h ((EI _ _ _).1 e.2.2 i hp)
  have hR:OrR ps ss i=(0≤ps.getD i 0∧ps.getD i 0≤255∧1≤ss.getD i 0∧ss.getD i 0≤3∧∀ k,k < i→¬ (ps.getD i 0=ps.getD k 0∧¬ ss.getD i 0=ss.getD k 0)):=rfl
  by_cases h:0≤ps.getD i 0∧ps.getD i 0≤255∧1≤ss.getD i 0∧ss.getD i 0≤3
  ·have e1:(ps.getD i 0 < 0)=False:=eq_false (by omega)
   have e2:(255 < ps.getD i 0)=False:=eq_false (by omega)
   have e3:(ss.getD i 0 < 1)=False:=eq_false (by omega)
   have e4:(3 < ss.getD i 0)=False:=eq_false (by omega)
   simp +contextual only [aC,rv,sT,e0,e1,e2,e3,e4,hp,hq,decide_false,sZ,Nat.reduceEqDiff,↓reduceIte]
   refine fun _=>aq i (fun k=>∀ j,j < k→¬ (ps.getD i 0=ps.getD j 0∧¬ ss.getD i 0=ss.getD j 0)) (fun k=>[(2,.ah s.av),(3,.ah (dE ps ss)),(5,.int .i64 i),(6,.int .i64 k)]) (fun i=>H) ⟨fun j h=>by omega,ax _ _ _⟩ fun k hk hK=>?_
   by_cases lZ:k < i
   ·have e3:((k:Int) < i)=True:=eq_true (by omega)
    have Vi:k < ps.length:=by omega
    have hq2:k < ss.length:=by omega
    have next (h:¬ (ps.getD i 0=ps.getD k 0∧¬ ss.getD i 0=ss.getD k 0)):∃ j,(j≤i∧∀ j_1,j_1 < j→¬ (ps.getD i 0=ps.getD j_1 0∧¬ ss.getD i 0=ss.getD j_1 0))∧i - j < i - k∧sle H.length [(2,.ah s.av),(3,.ah (dE ps ss)),(5,.int .i64 i),(6,.int .i64 (IntKind.i64.wrap ((k:Int) + 1)))] H [(2,.ah s.av),(3,.ah (dE ps ss)),(5,.int .i64 i),(6,.int .i64 j)] H:=
     ⟨k + 1,⟨lZ,dl hK h⟩,by omega,ay (by rw [aj k (by omega)]) rfl⟩
    by_cases h2:ps.getD i 0=ps.getD k 0
    ·have e5:(ps.getD i 0=ps.getD k 0)=True:=eq_true h2
     by_cases h3:ss.getD i 0=ss.getD k 0
     ·have e6:(ss.getD i 0=ss.getD k 0)=True:=eq_true h3
      simp +contextual only [rv,sT,e3,hp,hq,Vi,hq2,e5,e6,decide_true,decide_false,not_true_eq_false,sZ,Nat.reduceEqDiff,↓reduceIte]
      exact next fun e=>e.2 h3
     ·simp +contextual only [rv,sT,e3,hp,hq,Vi,hq2,e5,h3,decide_true,not_false_eq_true,sZ,Nat.reduceEqDiff,↓reduceIte,reduceCtorEq]
      exact lC _ (bad (by rw [hR];exact fun e=>e.2.2.2.2 k lZ ⟨h2,h3⟩))
    ·simp +contextual only [rv,e3,hp,Vi,h2,decide_true,decide_false,sZ,Nat.reduceEqDiff,↓reduceIte]
     exact next fun e=>h2 e.1
   ·have e3:((k:Int) < i)=False:=eq_false (by omega)
    simp +contextual only [e3,sZ,Nat.reduceEqDiff,↓reduceIte]
    exact ⟨i + 1,⟨hl,dl hI (by rw [hR];exact ⟨h.1,h.2.1,h.2.2.1,h.2.2.2,fun j hj=>hK j (by omega)⟩)⟩,by omega,ay (by rw [aj i (by omega)]) rfl⟩
  ·have bad:=bad (by rw [hR];exact fun e=>h ⟨e.1,e.2.1,e.2.2.1,e.2.2.2.1⟩)
   have fin:=lC (inferInstance:Decidable (dQ s ps ss)) (H:=H) (s:=4) bad
   have hz:((ps.getD i 0 < 0)=True∧(True∧True)=True∧(True∧True)=True∧(True∧True)=True)∨((ps.getD i 0 < 0)=False∧(255 < ps.getD i 0)=True∧(True∧True)=True∧(True∧True)=True)∨((ps.getD i 0 < 0)=False∧(255 < ps.getD i 0)=False∧(ss.getD i 0 < 1)=True∧(True∧True)=True)∨((ps.getD i 0 < 0)=False∧(255 < ps.getD i 0)=False∧(ss.getD i 0 < 1)=False∧(3 < ss.getD i 0)=True):=by
    have y:=and_self True
    by_cases a:ps.getD i 0 < 0
    ·exact .inl ⟨eq_true a,y,y,y⟩
    by_cases b:255 < ps.getD i 0
    ·exact .inr (.inl ⟨eq_false a,eq_true b,y,y⟩)
    by_cases c:ss.getD i 0 < 1
    ·exact .inr (.inr (.inl ⟨eq_false a,eq_false b,eq_true c,y⟩))
    ·exact .inr (.inr (.inr ⟨eq_false a,eq_false b,eq_false c,eq_true (by omega)⟩))
   rcases hz with ⟨e1,e2,e3,e4⟩ | ⟨e1,e2,e3,e4⟩ | ⟨e1,e2,e3,e4⟩ | ⟨e1,e2,e3,e4⟩
   all_goals
    simp +contextual only [aC,rv,sT,e0,e1,e2,e3,e4,hp,hq,decide_false,decide_true,sZ,Nat.reduceEqDiff,↓reduceIte,reduceCtorEq]
    exact fun _=>fin
 ·have e0:((i:Int) < s.ops.length)=False:=eq_false (by omega)
  simp +contextual only [aC,e0,sZ,Nat.reduceEqDiff,↓reduceIte,reduceCtorEq]
  refine fun _=>aK rfl ?_
  have:dQ s ps ss:=⟨g1,g2,(EI _ _ _).2 fun j hj=>hI j (by omega)⟩
  simp [this]
open Classical in
theorem c25 (s:Sg) (ps ss:List Int) (hs:On s ps ss):Pure Tryz.prog 25 [s.av,dE ps ss] (.int .i64 (if vS s then (if dQ s ps ss then 0 else 60) else 40)):=by
 refine fun H=>k25.2.calls rfl ?_
 simp only [k25,aH]
 obtain ⟨q1,q2,q3,q4,q5,q6⟩:=aR ps ss
 simp +contextual only [aC,q1,sZ,Nat.reduceEqDiff,Nat.reduceAdd,↓reduceIte,reduceCtorEq]
 refine ae (c82 s hs.h5 hs.h6 hs.h1 hs.h2) ?_
 by_cases h:vS s
 ·rw [if_pos h]
  simp +contextual only [aC,q4,bQ,sZ,Nat.reduceEqDiff,Nat.reduceAdd,↓reduceIte]
  refine ae (c83 s ps ss hs.h1 hs.h3 hs.h4) ?_
  by_cases h2:dQ s ps ss
  ·rw [decide_eq_true h2]
   simp +contextual only [sZ,↓reduceIte,reduceCtorEq]
   exact aK rfl (by rw [if_pos h,if_pos h2])
  ·rw [decide_eq_false h2]
   simp +contextual only [sZ,↓reduceIte,reduceCtorEq]
   exact aK rfl (by rw [if_pos h,if_neg h2])
 ·rw [if_neg h]
  simp +contextual only [sZ,Nat.reduceEqDiff,↓reduceIte,reduceCtorEq,Int.reduceEq]
  exact aK rfl (by rw [if_neg h])
end Go.aI
end
section
set_option maxRecDepth 100000
namespace Go.aI
open Go Go.Proofs Go.dD
theorem afc (x:T):Pure Tryz.prog 115 [x.av] (.int .i64 (if x.tree=true then 0 else 4)):=by
 refine fun H=>Xs.2.calls rfl ?_
 simp only [Xs,aH]
 simp +contextual only [sZ,Nat.reduceEqDiff,Nat.reduceAdd,↓reduceIte]
 refine ae (Mk x) ?_
 cases h:x.tree with
 | true=>simp +contextual only [sZ,↓reduceIte,reduceCtorEq];exact aK rfl rfl
 | false=>simp +contextual only [sZ,↓reduceIte,reduceCtorEq];exact aK rfl rfl
theorem afd (s:Sg):∀ t:T,t.shaped=true→Pure Tryz.prog 116 [s.av,t.av] (.bool (ry s t)):=by
 suffices h:∀ N t,wt t≤N→t.shaped=true→Pure Tryz.prog 116 [s.av,t.av] (.bool (ry s t)) from fun t ht=>h _ t (zy _) ht
 intro N
 induction N with
 | zero=>intro t h;have:=dt t;omega
 | succ N ih=>
 intro t hN hs H
 have hk:=fN hs
 have ih:∀ x∈t.l,Pure Tryz.prog 116 [s.av,x.av] (.bool (ry s x)):=fun x hx=>ih x (by have:=ch hx;omega) (hk.2 x hx)
 have hn:0≤t.n:=by
  rw [T.dn] at hs
  simp only [zC,abC,abQ,decide_eq_false_iff_not] at hs
  have:=hs.1.1.1.1
  omega
 obtain ⟨m,hm⟩:=ab1 hn
 refine Xt.2.calls rfl ?_
 simp only [Xt,aH]
 have e:ry s t=(!(decide (t.k=2) && (decide ((s.ops.length:Int)≤t.n) || !decide ((t.l.length:Int)=((s.ops.getD t.n.toNat default).args.length:Nat)))) && !(t.l.any fun x=>!ry s x)):=by
  rw [← wh];cases t;rfl
 have fin:(!(decide (t.k=2) && (decide ((s.ops.length:Int)≤t.n) || !decide ((t.l.length:Int)=((s.ops.getD t.n.toNat default).args.length:Nat)))))=false→bP H.length [.t 4] [(4,.bool false)] H fun r H'=>r=.bool (ry s t)∧H'=H:=by
  intro h
  rw [e,h];exact aK rfl rfl
 by_cases hh:t.k=2∧(s.ops.length:Int)≤t.n
 ·simp +contextual only [aC,hh.1,hh.2,decide_true,sZ,Nat.reduceEqDiff,Nat.reduceAdd,↓reduceIte,reduceCtorEq]
  exact fin (by simp [hh.1,hh.2])
 have em:t.n.toNat=m:=by omega
 by_cases Wg:t.k=2∧¬ (t.l.length:Int)=((s.ops.getD m default).args.length:Nat)
 ·have Qw:m < s.ops.length:=by omega
  have VX:¬ (s.ops.length:Int)≤(m:Int):=by omega
  simp +contextual only [aC,Wg.1,VX,Wg.2,hm,Qw,ap,decide_true,decide_false,sZ,Nat.reduceEqDiff,Nat.reduceAdd,↓reduceIte,reduceCtorEq]
  exact fin (by rw [em,decide_eq_true Wg.1,decide_eq_false Wg.2,decide_eq_false (by omega:¬ (s.ops.length:Int)≤t.n)];rfl)
 have hd:(!(decide (t.k=2) && (decide ((s.ops.length:Int)≤t.n) || !decide ((t.l.length:Int)=((s.ops.getD t.n.toNat default).args.length:Nat)))))=true:=by
  rw [em]
  by_cases a:t.k=2
  ·rw [decide_eq_false (fun b=>hh ⟨a,b⟩),decide_eq_true (Classical.byContradiction fun b=>Wg ⟨a,b⟩)];simp
  ·rw [decide_eq_false a];rfl
 rw [hd] at e
 have hz:((t.k=2)=False∧(True∧True)=True∧(True∧True)=True∧(True∧True)=True)∨((t.k=2)=True∧(m < s.ops.length)=True∧((s.ops.length:Int)≤(m:Int))=False∧((t.l.length:Int)=((s.ops.getD m default).args.length:Nat))=True):=by
  have y:=and_self True
  by_cases a:t.k=2
  ·exact .inr ⟨eq_true a,eq_true (by omega),eq_false (by omega),eq_true (Classical.byContradiction fun b=>Wg ⟨a,b⟩)⟩
  ·exact .inl ⟨eq_false a,y,y,y⟩
 rcases hz with ⟨e1,e2,e3,e4⟩ | ⟨e1,e2,e3,e4⟩
 all_goals
  simp +contextual only [aC,e1,e2,e3,e4,hm,ap,decide_true,decide_false,sZ,Nat.reduceEqDiff,Nat.reduceAdd,↓reduceIte,reduceCtorEq]
  refine aq t.l.length (fun i=>∀ j,j < i→ry s (t.l.getD j default)=true) (fun i=>[(2,.ah s.av),(3,.ah t.av),(5,.int .i64 i)]) (fun i=>H) ⟨fun j h=>by omega,ax _ _ _⟩ fun i hi hI=>?_
  by_cases hl:i < t.l.length
  ·have e5:((i:Int) < t.l.length)=True:=eq_true (by omega)
   simp +contextual only [aC,e5,hl,sZ,Nat.reduceEqDiff,↓reduceIte]
   refine fun _=>aB (ih _ (oc hl)) ?_
   cases hb:ry s (t.l.getD i default) with
   | false=>
     simp +contextual only [sZ,Nat.reduceEqDiff,↓reduceIte,reduceCtorEq]
     refine aK rfl ?_
     have:(t.l.any fun x=>!ry s x)=true:=afS.2 ⟨_,oc hl,by rw [hb];rfl⟩
     rw [e,this];rfl
   | true=>
     simp +contextual only [sZ,Nat.reduceEqDiff,↓reduceIte]
     exact ⟨i + 1,⟨hl,dl hI hb⟩,by omega,ay (by rw [aj i (by omega)]) rfl⟩
  ·have e5:((i:Int) < t.l.length)=False:=eq_false (by omega)
   simp +contextual only [e5,sZ,Nat.reduceEqDiff,↓reduceIte,reduceCtorEq]
   refine fun _=>aK rfl ?_
   have:(t.l.any fun x=>!ry s x)=false:=by
    rw [ac3]
    exact lj fun j hj=>by rw [hI j (by omega)];simp
   rw [e,this];rfl
theorem c55 (s:Sg) (t:T):Pure Tryz.prog 55 [s.av,t.av] (.bool (t.tree && ry s t)):=by
 refine fun H=>k55.2.calls rfl ?_
 simp only [k55,aH]
 simp +contextual only [aC,sZ,Nat.reduceEqDiff,Nat.reduceAdd,↓reduceIte,reduceCtorEq]
 refine ae (afc t) ?_
 cases h:t.tree with
 | false=>
   simp +contextual only [abI,sZ,Nat.reduceEqDiff,↓reduceIte,reduceCtorEq,Int.reduceEq]
   exact aK rfl rfl
 | true=>
   simp +contextual only [aC,sZ,Nat.reduceEqDiff,Nat.reduceAdd,↓reduceIte]
   refine ae (afd s t ((T.cI t).1 h).2.2) ?_
   simp +contextual only [sZ,Nat.reduceEqDiff,↓reduceIte,reduceCtorEq]
   exact aK rfl rfl
end Go.aI
end
section
set_option maxRecDepth 100000
namespace Go.aI
open Go Go.Proofs Go.dD
theorem yw (f:Int→UInt8→Int) (s:ByteArray) (stop:Nat) (h:stop≤s.size):∀ (i j:Nat) (b:Int),j + i=s.size→stop=s.size→(ByteArray.foldlM.loop (m:=_root_.Id) (fun x y=>pure (f x y)) s stop h i j b)=(s.data.toList.drop j).foldl f b
 | 0,j,b,e,e2=>by
   have:s.data.toList.drop j=[]:=aap (by show s.size≤j;omega)
   rw [this];unfold ByteArray.foldlM.loop
   rw [dif_neg (by omega)];rfl
 | i + 1,j,b,e,e2=>by
   have hj:j < s.data.toList.length:=by show j < s.size;omega
   unfold ByteArray.foldlM.loop
   rw [dif_pos (by omega),aav hj,List.foldl_cons]
   exact yw f s stop h i (j + 1) _ (by omega) e2
theorem Ix (s:ByteArray):oI s 95=(Cr s:Int):=by
 have h1:oI s 95=s.data.toList.foldl (fun (n:Int) x=>if x == (95:Int).toNat.toUInt8 then n + 1 else n) ((0:Nat):Int):=by
  unfold oI ByteArray.foldl ByteArray.foldlM
  rw [dif_pos (zy _)]
  exact yw _ s _ _ s.size 0 _ (by omega) rfl
 have h2:∀ (l:List UInt8) (n:Nat),l.foldl (fun (n:Int) x=>if x == (95:Int).toNat.toUInt8 then n + 1 else n) (n:Int)=((n + l.countP (· == (95:UInt8)):Nat):Int):=by
  intro l
  induction l with
  | nil=>intro n;simp
  | cons x r ih=>
    intro n
    rw [List.foldl_cons,afN]
    by_cases hx:x=95
    ·subst hx
     have:=ih (n + 1)
     exact (this.trans (by simp;omega))
    ·have h95:(x == (95:Int).toNat.toUInt8)=false:=by
      rw [beq_eq_false_iff_ne];exact hx
     have h96:(x == (95:UInt8))=false:=by
      rw [beq_eq_false_iff_ne];exact hx
     rw [h95,h96]
     exact (ih n).trans (by simp)
 rw [h1,h2];simp [Cr]
theorem QN {c:UInt8} (h:QM c):xY c=false:=by
 unfold QM at h
 have e:(((c.toNat:Nat):Int).toNat.toUInt8)=c:=by simp
 unfold xY
 rw [e,firstIdx_nonneg]
 simp only [abQ,decide_eq_false_iff_not,ac3]
 refine ⟨⟨by omega,by omega⟩,fun x hx hxc=>?_⟩
 rw [beq_iff_eq] at hxc
 subst hxc
 have hx:x=40∨x=41∨x=44:=by simpa using hx
 rcases hx with rfl | rfl | rfl <;> exact h (by decide)
theorem Iy {s:ByteArray} (h:oB s):oA s=true:=by
 obtain ⟨h1,h2,h3⟩:=h
 unfold oA
 simp only [zC,abC,decide_eq_false_iff_not,abc]
 refine ⟨⟨by omega,by omega⟩,fun c hc=>?_⟩
 obtain ⟨i,hi,rfl⟩:=acg hc
 have:=QN (h1 i hi)
 rw [th,Hj hi] at this
 exact this
theorem Vu {s:ByteArray} (h:Cr s=0):¬ 0≤MS s:=by
 have hm:∀ b∈s.data.toList,b≠95:=fun b hb e=>by
  have:=List.countP_eq_zero.1 h b hb
  rw [e] at this;exact this rfl
 unfold MS
 split
 ·rename_i e
  exact absurd rfl (hm 95 (by rw [e];simp [us]))
 ·rw [firstIdx_none s 95 hm];omega
theorem EJ {s:Sg} (h:∀ i,i < s.aU.length→Vt s i):∀ n i,i + n=s.aU.length→mj (s.aU.drop i) (s.aU.take i)=true
 | 0,i,e=>by rw [aap (by omega)];rfl
 | n + 1,i,e=>by
   have hl:i < s.aU.length:=by omega
   obtain ⟨h1,h2,h3⟩:=h i hl
   have hni:s.aU.getD i default∉s.aU.take i:=fun hm=>by
    obtain ⟨k,hk,e⟩:=acg hm
    rw [abS] at hk
    refine h3 k (by omega) ?_
    rw [List.getElem_take] at e
    rw [← e,th,Hj (by omega)];try rfl
   rw [pA hl,if_pos ⟨Iy h1,Vu h2,hni⟩]
   have:s.aU.take i++[s.aU.getD i default]=s.aU.take (i + 1):=by
    rw [adC,th,Hj hl];rfl
   rw [this]
   exact EJ h n (i + 1) (by omega)
theorem NE {s:Sg} {l:List Int} (h:jj s l):∀ a∈l,GG s.aU.length a=true:=fun a ha=>by
 obtain ⟨h1,h2⟩:=h a ha
 simp [GG,h1,h2]
theorem aa3 {s:Sg} {o:jg} (h:NC s o):px o s.aU.length=true:=by
 obtain ⟨h1,h2,h3,h4,h5,h6⟩:=h
 have hb:Cr o.name≤o.name.size:=agb (p:=(· == (95:UInt8))) (l:=o.name.data.toList)
 unfold px
 rw [Ix]
 simp only [zC,abU,decide_eq_true_eq,abC,ac3]
 refine ⟨Iy h1,by omega,by omega,by omega,NE h6 _ (by simp),fun x hx=>?_⟩
 rw [NE h5 x hx];simp
theorem QO {a b:Int} (ha:0≤a∧a < 64) (hb:0≤b∧b < 64) (h:Ka a=Ka b):a=b:=by
 have k:∀ a:Int,0≤a∧a < 64→(Ka a).toNat=a.toNat:=by
  intro a ha
  unfold Ka
  have:IntKind.u8.wrap a=a:=by
   simp only [IntKind.wrap]
   have h1:IntKind.u8.bits=8:=rfl
   have h2:IntKind.u8.signed=false:=rfl
   rw [h1,h2]
   simp
   omega
  rw [this,UInt8.toNat_ofNat']
  omega
 have:=congrArg UInt8.toNat h
 rw [k a ha,k b hb] at this
 omega
theorem vw:∀ {l m:List Int},(∀ a∈l,0≤a∧a < 64)→(∀ a∈m,0≤a∧a < 64)→l.map Ka=m.map Ka→l=m
 | [],[],_,_,_=>rfl
 | [],b::m,_,_,h=>by cases h
 | a::l,[],_,_,h=>by cases h
 | a::l,b::m,ha,hb,h=>by
   simp only [List.map_cons,List.cons.injEq] at h
   rw [QO (ha a (by simp)) (hb b (by simp)) h.1,vw (fun x hx=>ha x (by simp [hx])) (fun x hx=>hb x (by simp [hx])) h.2]
theorem Iz:∀ {l m r t:List UInt8},(∀ x∈l,x≠40)→(∀ x∈m,x≠40)→l++40::r=m++40::t→l=m∧r=t
 | [],[],_,_,_,_,h=>by simpa using h
 | [],b::m,_,_,_,hb,h=>by
   simp only [List.nil_append,List.cons_append,List.cons.injEq] at h
   exact absurd h.1.symm (hb b (by simp))
 | a::l,[],_,_,ha,_,h=>by
   simp only [List.nil_append,List.cons_append,List.cons.injEq] at h
   exact absurd h.1 (ha a (by simp))
 | a::l,b::m,_,_,ha,hb,h=>by
   simp only [List.cons_append,List.cons.injEq] at h
   obtain ⟨h1,h2⟩:=Iz (fun x hx=>ha x (by simp [hx])) (fun x hx=>hb x (by simp [hx])) h.2
   exact ⟨by rw [h.1,h1],h2⟩
theorem aa4 {s:ByteArray} (h:oB s):∀ x∈s.data.toList,x≠40:=fun x hx e=>by
 obtain ⟨i,hi,rfl⟩:=acg hx
 have:=h.1 i hi
 rw [th,Hj hi,Option.getD_some,e] at this
 exact this (by decide)
theorem key_inj {s:Sg} {o q:jg} (h64:s.aU.length≤64) (ho:NC s o) (hq:NC s q) (h:kr o=kr q):We o q:=by
 have h:GH o=GH q:=by
  have:=congrArg (fun b:ByteArray=>b.data.toList) h
  simpa [kr] using this
 have f:∀ o:jg,GH o=o.name.data.toList++40::(o.args++[o.zm]).map Ka:=fun o=>by
  unfold GH;simp [ByteArray.data_append]
 rw [f,f] at h
 obtain ⟨h1,h2⟩:=Iz (aa4 ho.1) (aa4 hq.1) h
 have g:∀ o:jg,NC s o→∀ a∈o.args++[o.zm],0≤a∧a < 64:=fun o ho a ha=>by
  rcases abF.1 ha with ha | ha
  ·have:=ho.2.2.2.2.1 a ha;omega
  ·have:=ho.2.2.2.2.2 a ha;omega
 have h3:=vw (g o ho) (g q hq) h2
 have h4:=List.append_inj' h3 rfl
 refine ⟨?_,by simpa using h4.2,h4.1⟩
 have:=Array.toList_inj.1 h1
 cases SV:o.name;cases hq':q.name
 rw [SV,hq'] at this
 simpa using this
theorem NF {s:Sg} (h64:s.aU.length≤64) (h:∀ i,i < s.ops.length→Wf s i):∀ n i,i + n=s.ops.length→zp s.aU.length (s.ops.drop i) ((s.ops.take i).map kr)=true
 | 0,i,e=>by rw [aap (by omega)];rfl
 | n + 1,i,e=>by
   have hl:i < s.ops.length:=by omega
   obtain ⟨h1,h3⟩:=h i hl
   have hni:kr (s.ops.getD i default)∉(s.ops.take i).map kr:=fun hm=>by
    obtain ⟨q,hq,e⟩:=aaw.1 hm
    obtain ⟨k,hk,e2⟩:=acg hq
    rw [abS] at hk
    rw [List.getElem_take] at e2
    have eq:s.ops.getD k default=q:=by
     rw [← e2,th,Hj (by omega)];try rfl
    have KH:=h k (by omega)
    refine h3 k (by omega) ?_
    rw [eq]
    exact key_inj h64 (eq ▸ KH.1) h1 e
   rw [uw hl,if_pos ⟨aa3 h1,hni⟩]
   have:(s.ops.take i).map kr++[kr (s.ops.getD i default)]=(s.ops.take (i + 1)).map kr:=by
    rw [adC,ab8,th,Hj hl];rfl
   rw [this]
   exact NF h64 h n (i + 1) (by omega)
theorem NG {s:Sg} (h:vS s):jw s=true:=by
 obtain ⟨h1,h2,h3,h4⟩:=h
 unfold jw
 simp only [zC,decide_eq_true_eq]
 exact ⟨⟨⟨by omega,by omega⟩,EJ h3 s.aU.length 0 (by omega)⟩,NF h1 h4 s.ops.length 0 (by omega)⟩
end Go.aI
end
