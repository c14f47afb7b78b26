/- Part 16 of 20 of the proof. -/
import Derived.Test.YtljchnfgjdjobaaGreatWao
import Derived.Test.YtljchnfgjdjobaaGreatWag
import Derived.KernelRfl
import Derived.Test.YtljchnfgjdjobaaGreatWam
import Derived.Test.YtljchnfgjdjobaaGreatWai
import Derived.Test.YtljchnfgjdjobaaGreatWah
import Derived.Test.YtljchnfgjdjobaaGreatWak
set_option linter.unusedVariables false
set_option linter.unusedSimpArgs false
set_option linter.defProp false
set_option linter.unusedSectionVars false
section
set_option maxRecDepth 100000
namespace Go.aI
open Go Go.Proofs Go.dV
theorem ysI {t:Ty} (ht:zM t) {ops:List Int} {vo:AV} (ho:IL vo ops) (hr:∀ i∈ops,0≤i∧i < t.s.ops.length) (kq:ops.length≤1000000) {pl:List Int} (wh:pl.length=ops.length) (H W:List aa) (es:List AV) (Bv:es=lV 41 [(2,.ai t.av),(3,.ai vo),(4,.ptr H.length 0),(5,.ptr (H.length + 1) 0),(6,.ai (bu pl)),(21,.fn (.func 205) [] [.ai (.int .i64 ops.length),.ai (.int .i64 1),.ai (.int .i64 3)])]) :
 YS ops.length (dB 1 ((3:Int) + 1 - 1).toNat) (H.length + 2 + W.length) (fun s:Fo=>fQ H W s++[.loop (jN s) bJ es]) (fun s=>s=none) (dL t ops pl):=by
 refine ⟨fun l s X hl _ hs=>?_,fun l s hs bV=>?_,fun s s'=>?_⟩
 ·subst hs
  have:=NY ht ho hr kq wh H W es Bv l hl X _ rfl
  have el:jN none=.ready:=rfl
  refine fW.mono (by simpa [el,kP] using this) fun r H' h=>?_
  refine ⟨h.1,?_⟩
  rw [h.2];simp
 ·subst hs
  unfold dL at *
  split at bV
  ·cases bV
  ·rename_i h;rw [if_neg h]
 ·simp [fx]
theorem NZ {vals:List Int}:∀ {n:Nat} {l:List Int},l∈jy vals n→l.length=n∧∀ x∈l,x∈vals
 | 0,l,h=>by
   simp only [jy,Xi,abr,or_false] at h
   subst h;exact ⟨rfl,fun x hx=>by cases hx⟩
 | n + 1,l,h=>by
   simp only [jy,acC,aan] at h
   obtain ⟨x,hx,y,hy,rfl⟩:=h
   obtain ⟨h1,h2⟩:=NZ hy
   exact ⟨by simp [h1],fun z hz=>by
    rcases Xi.1 hz with rfl | hz
    ·exact hx
    ·exact h2 z hz⟩
theorem N0 {t:Ty} (ht:zM t) {ops:List Int} {vo:AV} (ho:IL vo ops) (hr:∀ i∈ops,0≤i∧i < t.s.ops.length) (kq:ops.length≤1000000) (H:List aa) (es:List AV) (Bv:es=lV 41 [(2,.ai t.av),(3,.ai vo),(4,.ptr H.length 0),(5,.ptr (H.length + 1) 0),(14,.fn (.func 205) [] [.ai (.int .i64 ops.length),.ai (.int .i64 0),.ai (.int .i64 ((ops.length:Int) - 1))])])
 (pl:List Int) (wh:pl.length=ops.length) (l8:∀ x∈pl,x≤1000000) (Y:List aa) :
 kP Tryz.prog (H.length + 2) [bu pl] (fQ H [] none++.loop .ready bg es::Y) fun r H'=>r=.bool (fO t ops none pl).2∧H'=fQ H [] (fO t ops none pl).1++.loop (jN (fO t ops none pl).1) bg es::Y:=by
 have ees:es=[.any,.any,.ai t.av,.ai vo,.ptr H.length 0,.ptr (H.length + 1) 0,.any,.any,.any,.any,.any,.any,.any,.any,.fn (.func 205) [] [.ai (.int .i64 ops.length),.ai (.int .i64 0),.ai (.int .i64 ((ops.length:Int) - 1))],.any,.any,.any,.any,.any,.any,.any,.any,.any,.any,.any,.any,.any,.any,.any,.any,.any,.any,.any,.any,.any,.any,.any,.any,.any,.any]:=by rw [Bv];rfl
 have hk:∀ s,(fQ H [] s).length=H.length + 2:=fun s=>by rw [fx];rfl
 have e0:∀ s st Y,(fQ H [] s++aa.loop st bg es::Y)[H.length + 2]?=some (.loop st bg es):=fun s st Y=>wN _ _ _ _ (hk s)
 have iD:∀ s st st' Y,(fQ H [] s++aa.loop st bg es::Y).set (H.length + 2) (.loop st' bg es)=fQ H [] s++aa.loop st' bg es::Y:=fun s st st' Y=>wO _ _ _ _ _ (hk s)
 refine pN (lc:=bg) (es:=es) (e0 none .ready Y) Uy Uz ⟨by rw [ees,CP];rfl,by rw [yG];rfl,by rw [yG,CP];rfl,?_,?_⟩ (yA ?_)
 ·rw [ees];intro x hx;simp only [Xi,abr,or_false] at hx
  repeat' (first | (rcases hx with hx | hx;· subst hx;rfl) | (subst hx;rfl))
 ·intro x hx;simp only [Xi,abr,or_false] at hx;subst hx;exact (aJ pl).2.1
 ·have ez:(bg.ps.zip [bu pl]).reverse++bY 0 es=(15,bu pl)::bY 0 es:=by rw [yG];rfl
  rw [ez]
  generalize zO:bY 0 es=ea
  have g2:get ea 2=.ai t.av:=by rw [← zO,ees];rfl
  have g3:get ea 3=.ai vo:=by rw [← zO,ees];rfl
  have g4:get ea 4=.ptr H.length 0:=by rw [← zO,ees];rfl
  have g5:get ea 5=.ptr (H.length + 1) 0:=by rw [← zO,ees];rfl
  simp only [Mb,Mc]
  have hb:∀ K,kW (H.length + 2) (fQ H [] none++.loop .ready bg es::Y) K=K (fQ H [] none++.loop .busy bg es::Y):=fun K=>by rw [uC (e0 none .ready Y),iD]
  obtain ⟨a1,a2,a3,a4⟩:=ho.one
  obtain ⟨b1,b2,b3,b4,b5⟩:=aJ pl
  have lvo:∀ (H:List aa) (φ:AV→Prop),aY none (.ai vo) H φ=φ vo:=fun H φ=>by simp [aY,a1,a2]
  have ip:IL (bu pl) pl:=.inl rfl
  have hlen:(fQ H [] none++.loop .ready bg es::Y).length=H.length + 2 + (Y.length + 1):=by rw [aaj,hk];rfl
  have endN:∀ n0 Z,n0=H.length + 2 + (Y.length + 1)→fO t ops none pl=(none,true)→sl n0 (H.length + 2) (fun r H'=>r=.bool (fO t ops none pl).2∧H'=fQ H [] (fO t ops none pl).1++.loop (jN (fO t ops none pl).1) bg es::Y) .normal (fQ H [] none++.loop .busy bg es::(Y++Z)):=by
   intro n0 Z H6 bV
   rw [Hy (e0 none .busy _),iD,bV]
   refine ⟨by rw [aaj,hk];simp;omega,rfl,?_⟩
   rw [H6,← hlen,show fQ H [] none++aa.loop .ready bg es::(Y++Z)=(fQ H [] none++aa.loop .ready bg es::Y)++Z by simp,aec]
   rfl
  have endR:∀ n0 Z s,n0=H.length + 2 + (Y.length + 1)→fO t ops none pl=(s,false)→s.isSome=true→sl n0 (H.length + 2) (fun r H'=>r=.bool (fO t ops none pl).2∧H'=fQ H [] (fO t ops none pl).1++.loop (jN (fO t ops none pl).1) bg es::Y) .ret (fQ H [] s++.loop .busy bg es::(Y++Z)):=by
   intro n0 Z s H6 bV hs
   have hlen2:(fQ H [] s++.loop (.jump .ret) bg es::Y).length=H.length + 2 + (Y.length + 1):=by rw [aaj,hk];rfl
   rw [NW (e0 _ .busy _),iD,bV]
   refine ⟨by rw [aaj,hk];simp;omega,rfl,?_⟩
   rw [H6,← hlen2,show fQ H [] s++aa.loop (.jump .ret) bg es::(Y++Z)=(fQ H [] s++aa.loop (.jump .ret) bg es::Y)++Z by simp,aec]
   have:jN s=.jump .ret:=if_pos hs
   rw [this]
  simp +contextual only [g2,g3,g4,g5,hb,cb,b1,b2,b4,b5,sZ,Nat.reduceEqDiff,Nat.reduceAdd,↓reduceIte]
  refine ae (ae7 pl ip (by omega) l8) ?_
  cases hd:pA pl with
  | false=>
    have bV:fO t ops none pl=(none,true):=by rw [fO,if_neg (by rw [hd];simp)]
    simp +contextual only [Bool.not_false,sZ,Nat.reduceEqDiff,↓reduceIte]
    have:=endN ((fQ H [] none).length + (Y.length + 1)) [] (by rw [hk]) bV
    rwa [ack] at this
  | true=>
    have bV:fO t ops none pl=fz (dL t ops pl) (jy (dB 1 3) ops.length) none:=by rw [fO,if_pos hd]
    simp +contextual only [Bool.not_true,lvo,ho.aO,ho.len (by omega),sZ,Nat.reduceEqDiff,Nat.reduceAdd,↓reduceIte]
    refine ae (abd ops.length 1 3) ?_
    simp +contextual only [nK,sZ,Nat.reduceEqDiff,↓reduceIte]
    obtain ⟨W,hW⟩:∃ W,W=aa.loop .busy bg es::Y:=⟨_,rfl⟩
    have hH2:fQ H [] none++aa.loop .busy bg es::Y=fQ H W none:=by rw [hW];simp [fQ]
    have hA:∀ s,fQ H W s=fQ H [] s++aa.loop .busy bg es::Y:=fun s=>by rw [hW];simp [fQ]
    obtain ⟨esI,abf⟩:∃ esI,esI=lV 41 [(2,AV.ai t.av),(3,.ai vo),(4,.ptr H.length 0),(5,.ptr (H.length + 1) 0),(6,.ai (bu pl)),(21,.fn (.func 205) [] [.ai (.int .i64 ops.length),.ai (.int .i64 1),.ai (.int .i64 3)])]:=⟨_,rfl⟩
    have ys:=ysI ht ho hr kq wh H W esI abf
    have rL:(3:Int) + 1 - 1=3:=rfl
    have hvt:((3:Int)).toNat=3:=rfl
    rw [rL,hvt] at ys
    have N1:=abc (n:=ops.length) (lo:=1) (hi:=3) (by omega) (by omega) kq (Good:=fun s:Fo=>s=none) (hy:=by rw [rL,hvt];exact ys) (fun s=>by simp [fx]) none rfl
    rw [rL,hvt] at N1
    rw [hH2]
    have eln:(fQ H W none).length=H.length + 2 + W.length:=fx H W none
    refine uB (P:=Tryz.prog) (R:=fun r H'=>r=.tuple []∧H'=fQ H W (fz (dL t ops pl) (jy (dB 1 3) ops.length) none).1++[.loop (jN (fz (dL t ops pl) (jy (dB 1 3) ops.length) none).1) bJ esI]) 205 [] _ bJ _ _ _ Tryz.call205 ?_ ?_
    ·rw [CQ,← abf,eln]
     exact N1
    ·have h2:=CR t ops pl (jy (dB 1 3) ops.length) none rfl
     rintro r H' ⟨rfl,rfl⟩
     generalize Ub:(fz (dL t ops pl) (jy (dB 1 3) ops.length) none).1=s' at h2
     have abg:fO t ops none pl=(s',s'.isNone):=by rw [bV];exact Prod.ext Ub h2
     rw [eln]
     have eget:∀ st,(fQ H W s'++[aa.loop st bJ esI])[H.length + 2 + W.length]?=some (.loop st bJ esI):=fun st=>wN _ _ _ _ (fx H W s')
     have eset:∀ st st',(fQ H W s'++[aa.loop st bJ esI]).set (H.length + 2 + W.length) (.loop st' bJ esI)=fQ H W s'++[.loop st' bJ esI]:=fun st st'=>wO _ _ _ _ _ (fx H W s')
     cases s' with
     | none=>
       have el:jN none=.ready:=rfl
       rw [el,yz (eget _),eset]
       simp +contextual only [qT]
       have:=endN ((fQ H [] none).length + (Y.length + 1)) [.loop .fh bJ esI] (by rw [hk]) abg
       rw [hA]
       simpa using this
     | some o=>
       have el:jN (some o)=.jump .ret:=rfl
       rw [el,Fi (eget _),eset]
       simp +contextual only [qT]
       have:=endR ((fQ H [] none).length + (Y.length + 1)) [.loop .fh bJ esI] (some o) (by rw [hk]) abg rfl
       rw [hA]
       simpa using this
end Go.aI
end
section
set_option maxRecDepth 100000
namespace Go.aI
open Go Go.Proofs Go.dV
theorem ysO {t:Ty} (ht:zM t) {ops:List Int} {vo:AV} (ho:IL vo ops) (hr:∀ i∈ops,0≤i∧i < t.s.ops.length) (kq:ops.length≤1000000) (H:List aa) (es:List AV) (Bv:es=lV 41 [(2,.ai t.av),(3,.ai vo),(4,.ptr H.length 0),(5,.ptr (H.length + 1) 0),(14,.fn (.func 205) [] [.ai (.int .i64 ops.length),.ai (.int .i64 0),.ai (.int .i64 ((ops.length:Int) - 1))])]) :
 YS ops.length (dB 0 ops.length) (H.length + 2) (fun s:Fo=>fQ H [] s++[.loop (jN s) bg es]) (fun s=>s=none) (fO t ops):=by
 refine ⟨fun l s X hl hm hs=>?_,fun l s hs bV=>?_,fun s s'=>?_⟩
 ·subst hs
  have:=N0 ht ho hr kq H es Bv l hl (fun x hx=>by have:=A4.1 (hm x hx);omega) X
  have el:jN none=.ready:=rfl
  refine fW.mono (by simpa [el,kP] using this) fun r H' h=>?_
  refine ⟨h.1,?_⟩
  rw [h.2];simp
 ·subst hs
  have h2:(fO t ops none l).2=(fO t ops none l).1.isNone:=by
   unfold fO
   split
   ·exact CR t ops l _ none rfl
   ·rfl
  rw [bV] at h2
  exact Option.isNone_iff_eq_none.1 h2.symm
 ·simp [fx]
def foA (s:Fo):AV:=match s with | none=>eN [] [] | some (P,S)=>eN P S
theorem I4 (n0 s s':Nat) (sz sz':Option Nat) (env:Env) (H:List aa) (R:AV→List aa→Prop):bS n0 [.c s sz,.c s' sz'] env H R=aY sz (get env s) H fun x=>aY sz' (get env s') H fun y=>vD n0 [x,y] H R:=agI
theorem c93 {t:Ty} (ht:zM t) {ops:List Int} {vo:AV} (ho:IL vo ops) (hr:∀ i∈ops,0≤i∧i < t.s.ops.length) (kq:ops.length≤1000000):Pure Tryz.prog 93 [t.av,vo] (.tuple [foA (zL t ops),.bool (zL t ops).isSome]):=by
 refine fun H=>adv.calls rfl ?_
 simp only [Yj,Yi]
 obtain ⟨e1,e2,e3,e4,e5,e6⟩:=Ty.facts t
 obtain ⟨a1,a2,a3,a4⟩:=ho.one
 have lvo:∀ (H:List aa) (φ:AV→Prop),aY none (.ai vo) H φ=φ vo:=fun H φ=>by simp [aY,a1,a2]
 have zf2:List.map AV.ab [AV.ag,.ag]=[.ag,.ag]:=rfl
 have zb2:∀ n,al n [AV.ag,.ag]=true:=fun _=>rfl
 have hw:IntKind.i64.wrap ((ops.length:Int) - 1)=(ops.length:Int) - 1:=dk _ (by omega)
 simp +contextual only [e1,a3,lvo,zf2,zb2,ho.aO,ho.len (by omega),hw,sZ,Nat.reduceEqDiff,Nat.reduceAdd,↓reduceIte,reduceCtorEq]
 refine ae (abd ops.length 0 ((ops.length:Int) - 1)) ?_
 simp +contextual only [nK,sZ,Nat.reduceEqDiff,↓reduceIte,reduceCtorEq]
 have hA0:H++[aa.cells [AV.ag,.ag],.cells [.bool false]]=fQ H [] none:=rfl
 rw [hA0]
 obtain ⟨esO,Bv⟩:∃ esO,esO=lV 41 [(2,AV.ai t.av),(3,.ai vo),(4,.ptr H.length 0),(5,.ptr (H.length + 1) 0),(14,.fn (.func 205) [] [.ai (.int .i64 ops.length),.ai (.int .i64 0),.ai (.int .i64 ((ops.length:Int) - 1))])]:=⟨_,rfl⟩
 have ys:=ysO ht ho hr kq H esO Bv
 have hv:((ops.length:Int) - 1 + 1 - 0).toNat=ops.length:=by omega
 have N1:=abc (n:=ops.length) (lo:=0) (hi:=(ops.length:Int) - 1) (by omega) (by omega) kq (Good:=fun s:Fo=>s=none) (hy:=by rw [hv];exact ys) (fun s=>by simp [fx]) none rfl
 rw [hv] at N1
 have eln:∀ s,(fQ H [] s).length=H.length + 2:=fun s=>fx H [] s
 refine uB (P:=Tryz.prog) (R:=fun r H'=>r=.tuple []∧H'=fQ H [] (zL t ops)++[.loop (jN (zL t ops)) bg esO]) 205 [] _ bg _ _ _ Tryz.call205 ?_ ?_
 ·rw [CP,← Bv,eln]
  exact N1
 ·rintro r H' ⟨rfl,rfl⟩
  generalize zL t ops=s'
  have eget:∀ st,(fQ H [] s'++[aa.loop st bg esO])[H.length + 2]?=some (.loop st bg esO):=fun st=>wN _ _ _ _ (eln s')
  have eset:∀ st st',(fQ H [] s'++[aa.loop st bg esO]).set (H.length + 2) (.loop st' bg esO)=fQ H [] s'++[.loop st' bg esO]:=fun st st'=>wO _ _ _ _ _ (eln s')
  have k4:=TN H [] [.loop .fh bg esO] s'
  have k5:=TO H [] [.loop .fh bg esO] s'
  have htk:(fQ H [] s'++[aa.loop .fh bg esO]).take H.length=H:=by rw [aa1 (by rw [eln];omega),fQ,aec]
  have sp2:∀ (a b x y:AV),ah [a,b] 0 [x,y]=[x,y]:=fun _ _ _ _=>rfl
  rw [eln]
  cases s' with
  | none=>
    have el:jN none=.ready:=rfl
    rw [el,yz (eget _),eset]
    have o4n:o4 none=.cells [.ag,.ag]:=rfl
    have o5n:o5 none=.cells [.bool false]:=rfl
    rw [o4n] at k4
    rw [o5n] at k5
    have k4s:=fun o=>aai (a:=o) (aQ k4)
    have k5s:∀ o,((fQ H [] none++[aa.loop .fh bg esO]).set H.length o)[H.length + 1]?=some (.cells [.bool false]):=fun o=>by rw [zS (by omega)];exact k5
    have k5t:∀ o o',(((fQ H [] none++[aa.loop .fh bg esO]).set H.length o).set (H.length + 1) o')[H.length + 1]?=some o':=fun o o'=>aai (by rw [acK];exact aQ k5)
    have k4t:∀ o o',(((fQ H [] none++[aa.loop .fh bg esO]).set H.length o).set (H.length + 1) o')[H.length]?=some o:=fun o o'=>by rw [zS (by omega)];exact k4s o
    have afb:∀ o o',(((fQ H [] none++[aa.loop .fh bg esO]).set H.length o).set (H.length + 1) o').take H.length=H:=fun o o'=>by rw [ace (by omega),ace (by omega),htk]
    simp +contextual only [qT,k4,k5s,k4t,k5t,zf2,zb2,sp2,I4,sZ,Nat.reduceEqDiff,Nat.reduceAdd,Nat.reduceLT,↓reduceIte,reduceCtorEq]
    exact Tj (afb _ _) ((aX [] []).2.2.2.2.2 _) rfl rfl rfl ⟨rfl,rfl⟩
  | some o=>
    obtain ⟨P,S⟩:=o
    have el:jN (some (P,S))=.jump .ret:=rfl
    rw [el,Fi (eget _),eset]
    have o4n:o4 (some (P,S))=.cells [.aj 0 (ints P),.aj 0 (ints S)]:=rfl
    have o5n:o5 (some (P,S))=.cells [.bool true]:=rfl
    rw [o4n] at k4
    rw [o5n] at k5
    simp +contextual only [qT,k4,k5,I4,sZ,Nat.reduceEqDiff,Nat.reduceAdd,Nat.reduceLT,↓reduceIte,reduceCtorEq]
    exact Tj htk ((aX P S).2.2.2.2.2 _) rfl rfl rfl ⟨rfl,rfl⟩
end Go.aI
end
section
set_option maxRecDepth 100000
set_option maxHeartbeats 0
namespace Go.aI
open Go Go.Proofs
noncomputable def abh:=aH Tryz.call75 Tryz.func75 Tryz.ntmps75 [(0,0,1),(5,2,1000),(6,0,1),(6,7,2),(6,8,1),(7,6,2),(7,9,2),(9,0,6004)] [(0,[1,2]),(1,[1,6]),(2,[1,6,7]),(3,[6,7,15,16,17]),(4,[6,7,15,16,17,18]),(5,[6,7,9,15,16,17]),(6,[6,7,9,15,16,17]),(7,[6,7,15,16,17]),(8,[6,7,15,16,17]),(9,[4,5])] [(7,(.take 1 true (.take 2 true (.take 3 true (.take 4 true (.take 5 true (.take 0 false (.br 6 (.take 7 true (.take 8 true (.br 9 .done .nil))) .nil))))))))]
end Go.aI
end
section
set_option maxRecDepth 100000
namespace Go.aI
open Go Go.Proofs Go.dV
def vK (z:AV) (kp:Nat→Prop) (v:AV) (xs:List AV) (G:List aa):Prop:=
 (xs=[]∧v=.ag)∨∃ id cap,¬ kp id∧v=.a7 id 0 xs.length cap∧G[id]?=some (bB z xs cap)∧xs.length≤cap∧xs≠[]
section
variable {z:AV} {kp:Nat→Prop} {v:AV} {xs:List AV} {G:List aa}
theorem vK.one (h:vK z kp v xs G):v.one=true∧v.val=true∧v.ab=v∧v.cells=[v]:=by
 rcases h with ⟨_,rfl⟩ | ⟨id,cap,_,rfl,_⟩ <;> exact ⟨rfl,rfl,rfl,rfl⟩
theorem vK.bb (h:vK z kp v xs G) {n:Nat} (hn:G.length≤n):v.bb n=true:=by
 rcases h with ⟨_,rfl⟩ | ⟨id,cap,_,rfl,c,_⟩
 ·rfl
 ·have:=(aa0.1 c).1
  rw [fL];simp;omega
theorem vK.len (h:vK z kp v xs G) {H:List aa} (φ:AV→Prop):fj v H φ=φ (.int .i64 xs.length):=by
 rcases h with ⟨rfl,rfl⟩ | ⟨id,cap,_,rfl,_⟩ <;> rfl
theorem vK.aO (h:vK z kp v xs G):aO 1 v=True:=by
 rcases h with ⟨_,rfl⟩ | ⟨id,cap,_,rfl,_⟩ <;> rfl
theorem vK.set (h:vK z kp v xs G) {j:Nat} (hj:∀ l c,v≠.a7 j 0 l c) (o:aa):vK z kp v xs (G.set j o):=by
 rcases h with h | ⟨id,cap,a,b,c,d⟩
 ·exact .inl h
 ·exact .inr ⟨id,cap,a,b,by rw [zS (fun e=>hj _ _ (by rw [e];exact b))];exact c,d⟩
end
theorem A6 {esz bytes:Nat} {z:AV} (hz:j4 esz (bR z)) {kp:Nat→Prop} {v:AV} {xs:List AV} {G:List aa} (h:vK z kp v xs G) (eR:∀ x∈xs,j4 esz x) (o:Nat) (ys:List AV) (hy:ys≠[]) (rO:∀ x∈ys,j4 esz x)
 (hb:(xs.length + ys.length) * bytes≤140737488355328) (hG:∀ j,kp j→j < G.length) {K:AV→List aa→Prop}
 (hK:∀ v' G',vK z kp v' (xs++ys) G'→(∀ j,kp j→G'[j]?=G[j]?)→G.length≤G'.length→K v' G'):cV esz bytes z v (.aj o ys) G K:=by
 have ou:¬ kp G.length:=fun h=>ac2 _ (hG _ h)
 have jF:qQ esz ys:=fun y hy=>⟨(rO y hy).len,(rO y hy).one⟩
 obtain ⟨f1,f2,f3,f4⟩:=j4.flat rO
 obtain ⟨g1,g2,g3,g4⟩:=j4.flat eR
 have wh:=sJ hz
 have l8:∀ n m,al n (cT z m)=true:=fun n m=>(j4.flat (kX hz m)).2.2.1 n
 unfold cV
 simp only [dA]
 refine ⟨jF,?_⟩
 rcases h with ⟨rfl,rfl⟩ | ⟨id,cap,bn,rfl,hg,hle,_⟩
 ·refine ⟨by simpa using hb,fun e=>absurd e hy,fun _ cap hc _=>⟨?_,hK _ _ (.inr ⟨G.length,cap,ou,by simp,?_,by simpa using hc,by simpa using hy⟩) ?_ (by simp)⟩⟩
  ·rw [f2,bI];exact ⟨f3 _,l8 _ _⟩
  ·rw [f2];simp [bB]
  ·intro j hj;have:=hG j hj;rw [zR (by omega)]
 ·have wv:=(aa0.1 hg).1
  simp only [hg,bB,aaj,g1,wh,ach,List.drop_zero]
  refine ⟨hb,hle,by rw [← acm];exact Nat.le_of_eq (by congr 1;omega),fun hroom=>⟨by rw [f2];exact f3 _,?_⟩,fun kq dM hc _=>⟨?_,?_⟩⟩
  ·rw [f2]
   refine hK _ _ (.inr ⟨id,cap,bn,by simp,?_,by simpa using hroom,by simp [hy]⟩) ?_ (by simp)
   ·rw [aai wv,bB]
    congr 2
    unfold ah
    rw [f1,aa1 (by rw [g1];exact tv _),aaJ (by rw [g1];exact tv _),aej,aaN (by rw [g1];omega),g1,
     show xs.length * esz + ys.length * esz - xs.length * esz=ys.length * esz by omega,Az hz _ _ (by omega),pi,List.nil_append,aaj]
    rw [show cap - xs.length - ys.length=cap - (xs.length + ys.length) by omega,aa6]
   ·intro j hj;rw [zS (fun e=>bn (by rw [e];exact hj))]
  ·rw [aa1 (by rw [g1];exact tv _),aaJ (by rw [g1];exact tv _),g2,f2,bI,bI];exact ⟨⟨g3 _,f3 _⟩,l8 _ _⟩
  ·rw [aa1 (by rw [g1];exact tv _),aaJ (by rw [g1];exact tv _),g2,f2,← pi]
   refine hK _ _ (.inr ⟨G.length,dM,ou,by simp,?_,by simpa using hc,by simp [hy]⟩) ?_ (by simp)
   ·simp [bB]
   ·intro j hj;have:=hG j hj;rw [zR (by omega)]
def WU (kp:Nat→Prop) (H:List aa) (xs:List AV) (r:AV) (H':List aa):Prop:=vK zN kp r xs H'∧(∀ j,kp j→H'[j]?=H[j]?)∧H.length≤H'.length
theorem abi:∀ (N:Nat) (t:T),wt t≤N→∀ (kp:Nat→Prop) (v:AV) (xs:List AV) (H:List aa),vK zN kp v xs H→(∀ x∈xs,j4 4 x)→(∀ j,kp j→j < H.length)→(xs.length + wt t) * 64≤140737488355328→
 ax Tryz.prog 132 [t.av,v] H (WU kp H (xs++fo (ye t xs.length))):=by
 intro N
 induction N with
 | zero=>intro t ht;have:=dH t;omega
 | succ N ih=>
 intro t ht kp v xs H hR eR hbase hb
 have hw:=yf t
 have hlw:=gL t.l
 refine IF.2.calls rfl ?_
 simp only [IF,aH]
 obtain ⟨o1,o2,o3,o4⟩:=hR.one
 simp +contextual only [o3,hR.len,hR.aO,bdN,aag,sZ,Nat.reduceEqDiff,Nat.reduceAdd,↓reduceIte,reduceCtorEq]
 refine A6 Cr hR eR 0 [nR t] (by simp) (by simp [sR]) (by simp;omega) hbase fun v1 G1 Wg Wh vZ=>?_
 obtain ⟨o1',o2',o3',o4'⟩:=Wg.one
 simp +contextual only [sZ]
 intro _
 have gS:∀ i,(xs++nR t::fo (dh (t.l.take i) (xs.length + 1))).length=xs.length + 1 + fN (t.l.take i):=by intro i;simp [sT,iW];omega
 have jF:∀ i,∀ x∈xs++nR t::fo (dh (t.l.take i) (xs.length + 1)),j4 4 x:=by
  intro i x hx
  rcases abZ.1 hx with hx | hx
  ·exact eR x hx
  ·rcases Xi.1 hx with rfl | hx
   ·exact sR t
   ·exact kZ _ x hx
 refine aG t.l.length (fun i (p:AV×List aa)=>vK zN kp p.1 (xs++nR t::fo (dh (t.l.take i) (xs.length + 1))) p.2∧(∀ j,kp j→p.2[j]?=H[j]?)∧H.length≤p.2.length)
  (fun i p=>[(1,p.1),(5,.int .i64 xs.length),(6,gX (ba (t.l.take i) (xs.length + 1))),(17,.aj 0 (ca t.l)),(18,.int .i64 t.l.length),(19,.int .i64 i)])
  (fun i p=>p.2) (v1,G1) ⟨⟨Wg,Wh,vZ⟩,aA _ _ _⟩ fun i p hi hI=>?_
 obtain ⟨v,G⟩:=p
 obtain ⟨hR,hG,hl⟩:=hI
 simp only at hR hG hl
 obtain ⟨o1,o2,o3,o4⟩:=hR.one
 have hle:=cS t.l i
 have C8:=cM (t.l.take i) (xs.length + 1)
 have RP:(t.l.take i).length≤t.l.length:=by simp;omega
 simp +contextual only [o3,hR.len,hR.aO,gS,nP,(eV _).2.1,fX,sZ,Nat.reduceEqDiff,Nat.reduceAdd,↓reduceIte,reduceCtorEq]
 refine ⟨fun aP=>⟨bA aP,by omega,?_⟩,fun iq=>?_⟩
 ·have aP:=bA aP
  have hwt:=mI aP
  have hnext:=cS t.l (i + 1)
  have e2:t.l.take (i + 1)=t.l.take i++[t.l.getD i default]:=by rw [acq aP];simp [aP]
  refine af (ih (t.l.getD i default) (by have:=cu (fM aP);omega) kp v _ G hR (jF i) (fun j hj=>by have:=hbase j hj;omega) (by rw [gS];omega)) ?_
  rintro r G' ⟨zC,eW,xn⟩
  obtain ⟨o1',o2',o3',o4'⟩:=zC.one
  simp +contextual only [o3',sZ,Nat.reduceEqDiff,↓reduceIte]
  refine ⟨i + 1,(r,G'),⟨aP,?_,fun j hj=>(eW j hj).trans (hG j hj),acv hl xn⟩,by omega,aD ?_ rfl⟩
  ·rw [gS] at zC
   rw [e2,mH,sS,← List.cons_append,← aa6]
   exact zC
  ·rw [e2,jK,aq i (by omega)]
 ·have mq:i=t.l.length:=by have:=cc iq;omega
  subst mq
  rw [abe] at hR
  have wc:=gS t.l.length
  have Hi:=jF t.l.length
  rw [abe] at wc Hi
  have iD:(xs++nR t::fo (dh t.l (xs.length + 1))).set xs.length (Hh (t,ba t.l (xs.length + 1)))=xs++fo (ye t xs.length):=by
   rw [ad4 _ _ (tv _),aei,afM,pX];rfl
  have kI:(xs++nR t::fo (dh t.l (xs.length + 1))).getD xs.length .any=nR t:=by simp
  generalize xs++nR t::fo (dh t.l (xs.length + 1))=ys at hR wc Hi iD kI
  rcases hR with ⟨rfl,_⟩ | ⟨id,cap,bn,rfl,hg,cr,_⟩
  ·simp at wc
   omega
  have wv:=(aa0.1 hg).1
  obtain ⟨k1,k2,k3,k4,k5⟩:=aJ (ba t.l (xs.length + 1))
  simp +contextual only [hg,l9,abe,sZ,Nat.reduceEqDiff,↓reduceIte,reduceCtorEq]
  refine ⟨by omega,?_⟩
  refine Ch Hi (by omega) (by decide) (y:=Hh (t,ba t.l (xs.length + 1))) k1 k4 (by rw [k2];exact k3 _) (by rw [kI,k2];rfl) ?_
  simp +contextual only [sZ,Nat.reduceEqDiff,↓reduceIte,reduceCtorEq]
  rw [iD]
  refine a8 (G.length) (by omega) (by rw [aC,if_pos rfl,fL];simpa using wv) ?_
  rw [aC,if_pos rfl,aaJ (by simp)]
  refine ⟨.inr ⟨id,cap,bn,?_,?_,?_,?_⟩,?_,by simpa using hl⟩
  ·rw [← iD];simp
  ·rw [aai wv]
  ·rw [← iD];simpa using cr
  ·rw [pX];simp [fo]
  ·intro j hj;rw [zS (fun e=>bn (by rw [e];exact hj))];exact hG j hj
end Go.aI
end
section
set_option maxRecDepth 100000
namespace Go.aI
open Go Go.Proofs Go.dV
def yI (n0 id:Nat) (G:List aa):List aa:=G.mapIdx fun j o=>if j < n0 + 3∨j=id then o else .dead
theorem uF {n0 id j:Nat} {G:List aa}:(yI n0 id G)[j]?=(G[j]?).map fun o=>if j < n0 + 3∨j=id then o else .dead:=by simp [yI]
theorem A7 {n0 id:Nat} {G:List aa}:(yI n0 id G).length=G.length:=by simp [yI]
theorem HD {n0 id:Nat} {G:List aa}:(yI n0 id G).take (n0 + 3)=G.take (n0 + 3):=by
 apply acr
 intro j
 rw [aaM,aaM]
 split
 ·rename_i hj
  rw [uF]
  cases G[j]? with
  | none=>rfl
  | some o=>simp [hj]
 ·rfl
theorem Fj {n0 id:Nat} {G:List aa} (h3:∀ (j:Nat) (o:aa),n0≤j→j < n0 + 3→G[j]?=some o→o.bb (j + 1)=true) (bn:∀ o,G[id]?=some o→o.bb (id + 1)=true):oc n0 G G.length (yI n0 id G):=by
 refine ⟨by rw [A7,Nat.min_self],fun j o ho=>?_⟩
 rw [uF] at ho
 cases hg:G[j]? with
 | none=>rw [hg] at ho;cases ho
 | some o'=>
   rw [hg] at ho
   simp only [Option.map_some,Option.some.injEq] at ho
   split at ho
   ·rename_i hc
    subst ho
    refine .inr ⟨rfl,fun h=>?_⟩
    rcases hc with hc | hc
    ·exact h3 j _ h hc hg
    ·subst hc;exact bn _ hg
   ·exact .inl ho.symm
def N2 (H:List aa) (ps ss:List Int) (ts:List T) (r:AV) (G:List aa):Prop:=
 ∃ va,r=.tuple [.ptr (H.length + 2) 0,va]∧G.take (H.length + 3)=H++[.map [],.map [],k7 ps ss (dh ts 0) H.length (H.length + 1)]∧H.length + 3≤G.length∧RO zI (H.length + 3) va (ints (ba ts 0)) G
theorem vK.abj {z:AV} {kp kp':Nat→Prop} {v:AV} {xs:List AV} {G G':List aa} (h:vK z kp v xs G) (hk:∀ id l c,v=.a7 id 0 l c→¬ kp' id∧G'[id]?=G[id]?):vK z kp' v xs G':=by
 rcases h with h | ⟨id,cap,a,b,c,d⟩
 ·exact .inl h
 ·obtain ⟨h1,h2⟩:=hk _ _ _ b
  exact .inr ⟨id,cap,h1,b,by rw [h2];exact c,d⟩
theorem vK.ne {z:AV} {kp:Nat→Prop} {v:AV} {xs:List AV} {G:List aa} (h:vK z kp v xs G) {id l c:Nat} (e:v=.a7 id 0 l c):¬ kp id:=by
 rcases h with ⟨_,rfl⟩ | ⟨id',cap,a,rfl,_⟩
 ·cases e
 ·cases e;exact a
theorem afc (ps ss:List Int) (ts:List T) (H:List aa) (hb:fN ts * 64≤140737488355328):ax Tryz.prog 75 [eN ps ss,.aj 0 (ca ts)] H (N2 H ps ss ts):=by
 refine abh.2.B9 rfl ?_
 simp only [abh,aH,eN]
 have hlw:=gL ts
 simp +contextual only [bdD,RQ,sZ,Nat.reduceEqDiff,Nat.reduceAdd,↓reduceIte,reduceCtorEq]
 refine ⟨by simp;omega,fun _=>?_⟩
 have e0:∀ (l:List aa) (x:aa),(H++x::l)[H.length]?=some x:=by simp
 refine iT ts.length (fun i (p:AV×AV×List aa)=>vK zN (fun j=>j < H.length + 3∨∃ l c,p.2.1=.a7 j 0 l c) p.1 (fo (dh (ts.take i) 0)) p.2.2∧vK zI (fun j=>j < H.length + 3∨∃ l c,p.1=.a7 j 0 l c) p.2.1 (ints (ba (ts.take i) 0)) p.2.2∧H.length + 3≤p.2.2.length∧
  p.2.2.take (H.length + 3)=H++[.map [],.map [],.cells [.aj 0 (ints ps),.aj 0 (ints ss),p.1,.map H.length,.map (H.length + 1)]])
  (fun i p=>[(6,.ptr (H.length + 2) 0),(7,p.2.1),(15,.aj 0 (ca ts)),(16,.int .i64 ts.length),(17,.int .i64 i)])
  (fun i p=>p.2.2) (.ag,.ag,_) ⟨⟨.inl ⟨rfl,rfl⟩,.inl ⟨rfl,rfl⟩,by simp,?_⟩,kA _ _ _⟩ fun i p hi hI=>?_
 ·rw [aaJ (by simp)]
 obtain ⟨v,va,G⟩:=p
 obtain ⟨hR,hA,hl,hG⟩:=hI
 simp only at hR hA hl hG
 obtain ⟨o1,o2,o3,o4⟩:=hR.one
 obtain ⟨p1,p2,p3,p4⟩:=hA.one
 have gget:∀ j,j < H.length + 3→G[j]?=(H++[.map [],.map [],.cells [.aj 0 (ints ps),.aj 0 (ints ss),v,.map H.length,.map (H.length + 1)]])[j]?:=by
  intro j hj;rw [← hG,aaM,if_pos hj]
 have g2:G[H.length + 2]?=some (.cells [.aj 0 (ints ps),.aj 0 (ints ss),v,.map H.length,.map (H.length + 1)]):=by rw [gget _ (by omega)];simp
 have hle:=cS ts i
 have C8:=cM (ts.take i) 0
 have RP:(ts.take i).length≤ts.length:=by simp;omega
 by_cases aP:i < ts.length
 ·have oA:((i:Int) < ts.length)=True:=eq_true (by omega)
  simp +contextual only [o3,p3,g2,hR.len,hR.aO,kB,oA,decide_true,sZ,Nat.reduceEqDiff,Nat.reduceAdd,Nat.reduceLT,↓reduceIte]
  have hwt:=mI aP
  have hnext:=cS ts (i + 1)
  have e2:ts.take (i + 1)=ts.take i++[ts.getD i default]:=by rw [acq aP];simp [aP]
  have arrlt:∀ {z:AV} {kp:Nat→Prop} {u:AV} {xs:List AV} {G:List aa} {j l c:Nat},vK z kp u xs G→u=.a7 j 0 l c→j < G.length:=by
   intro z kp u xs G j l c h e
   rcases h with ⟨_,rfl⟩ | ⟨id',cap,_,rfl,h2,_⟩
   ·cases e
   ·cases e;exact aQ h2
  refine ⟨aP,A6 Cs hA (pn _) 0 [.int .i64 (fN (ts.take i):Nat)] (by simp) (pn [_]) (by rw [aw];simp;omega) (fun j hj=>?_) fun va' G1 Uh Nr vZ=>?_⟩
  ·rcases hj with hj | ⟨l,c,e⟩
   ·omega
   ·exact arrlt hR e
  obtain ⟨p1',p2',p3',p4'⟩:=Uh.one
  have g21:G1[H.length + 2]?=some (.cells [.aj 0 (ints ps),.aj 0 (ints ss),v,.map H.length,.map (H.length + 1)]):=by rw [Nr _ (.inl (by omega)),g2]
  have Wg:vK zN (fun j=>j < H.length + 3∨∃ l c,va'=.a7 j 0 l c) v (fo (dh (ts.take i) 0)) G1:=hR.abj fun id l c e=>by
   refine ⟨fun h=>?_,Nr id (.inr ⟨l,c,e⟩)⟩
   rcases h with h | ⟨l',c',e'⟩
   ·exact hR.ne e (.inl h)
   ·exact Uh.ne e' (.inr ⟨l,c,e⟩)
  simp +contextual only [o3,p3',g21,sZ,Nat.reduceEqDiff,Nat.reduceAdd,Nat.reduceLT,↓reduceIte,reduceCtorEq]
  have hc:=abi (wt (ts.getD i default)) (ts.getD i default) (tv _) (fun j=>j < H.length + 3∨∃ l c,va'=.a7 j 0 l c) v _ G1 Wg (kZ _) (fun j hj=>by
   rcases hj with hj | ⟨l,c,e⟩
   ·omega
   ·exact arrlt Uh e) (by rw [kB];omega)
  refine af hc ?_
  rintro r G' ⟨zC,vr,xn⟩
  obtain ⟨o1',o2',o3',o4'⟩:=zC.one
  have g2':G'[H.length + 2]?=some (.cells [.aj 0 (ints ps),.aj 0 (ints ss),v,.map H.length,.map (H.length + 1)]):=by rw [vr _ (.inl (by omega)),g21]
  have ey:=zC.bb (tv _)
  have Gx:vK zI (fun j=>j < H.length + 3∨∃ l c,r=.a7 j 0 l c) va' (ints (ba (ts.take i) 0)++[.int .i64 (fN (ts.take i):Nat)]) G':=Uh.abj fun id l c e=>by
   refine ⟨fun h=>?_,vr id (.inr ⟨l,c,e⟩)⟩
   rcases h with h | ⟨l',c',e'⟩
   ·exact Uh.ne e (.inl h)
   ·exact zC.ne e' (.inr ⟨l,c,e⟩)
  have gt':G'.take (H.length + 3)=G.take (H.length + 3):=by
   apply acr
   intro j
   rw [aaM,aaM]
   split
   ·rename_i hj;rw [vr j (.inl hj),Nr j (.inl hj)]
   ·rfl
  simp +contextual only [l7,o1',o2',o3',o4',g2',ey,sZ,Nat.reduceEqDiff,Nat.reduceAdd,Nat.reduceLeDiff,↓reduceIte]
  refine ⟨by omega,i + 1,(r,va',_),⟨aP,?_,?_,by simp;omega,?_⟩,by omega,sI ?_ rfl⟩
  ·have h1:=zC.set (j:=H.length + 2) (fun l c e=>zC.ne e (.inl (by omega))) (.cells (ah [.aj 0 (ints ps),.aj 0 (ints ss),v,.map H.length,.map (H.length + 1)] 2 [r]))
   rw [kB] at h1
   rw [e2,mH,sS,ach]
   exact h1
  ·have h1:=Gx.set (j:=H.length + 2) (fun l c e=>Gx.ne e (.inl (by omega))) (.cells (ah [.aj 0 (ints ps),.aj 0 (ints ss),v,.map H.length,.map (H.length + 1)] 2 [r]))
   have ek:ints (ba (ts.take i++[ts.getD i default]) 0)=ints (ba (ts.take i) 0)++[.int .i64 (fN (ts.take i):Nat)]:=by rw [jK,ach];simp [ints]
   rw [e2,ek]
   exact h1
  ·rw [afd,gt',hG]
   simp [ah]
  ·rw [aq i (by omega)]
 ·have mq:i=ts.length:=by omega
  subst mq
  have oA:((ts.length:Int) < ts.length)=False:=eq_false (by omega)
  simp +contextual only [oA,decide_false,sZ,Nat.reduceEqDiff,↓reduceIte]
  rw [abe] at hR hA
  have bz:∀ (l:List Int) (cap n:Nat),(bB zI (ints l) cap).bb n=true:=fun l cap n=>by
   rw [Ct]
   simp only [aa.bb,bI]
   exact ⟨aT _ _,(j4.flat (kX Cs _)).2.2.1 n⟩
  have fin:∀ (G':List aa),H.length + 3≤G'.length→(∀ id l c,va=.a7 id 0 l c→G'[id]?=G[id]?)→G'.take (H.length + 3)=H++[.map [],.map [],k7 ps ss (dh ts 0) H.length (H.length + 1)]→jH (oc H.length) H.length [.t 4,.t 5] [(4,.ptr (H.length + 2) 0),(5,va)] G' (N2 H ps ss ts):=by
   intro G' xn bn eW
   have get3:∀ (j:Nat) (o:aa),H.length≤j→j < H.length + 3→G'[j]?=some o→o.bb (j + 1)=true:=by
    intro j o h1 h2 ho
    have h3:(G'.take (H.length + 3))[j]?=some o:=by rw [aaM,if_pos h2];exact ho
    rw [eW,aba h1] at h3
    have:j=H.length∨j=H.length + 1∨j=H.length + 2:=by omega
    rcases this with rfl | rfl | rfl
    ·simp at h3;subst h3;rfl
    ·simp at h3;subst h3;rfl
    ·simp at h3;subst h3;exact AO ps ss _ _
   have v8:∀ id,RO zI (H.length + 3) va (ints (ba ts 0)) (yI H.length id G')→(∀ o,G'[id]?=some o→o.bb (id + 1)=true)→va.bb G'.length=true→jH (oc H.length) H.length [.t 4,.t 5] [(4,.ptr (H.length + 2) 0),(5,va)] G' (N2 H ps ss ts):=by
    intro id yV ey hva
    refine Nn (m:=G'.length) (by omega) (Fj get3 ey) (x:=.ptr (H.length + 2) 0) (y:=va) rfl (by simp [aC,p3]) (by rw [rf];exact decide_eq_true (by omega)) hva ⟨va,rfl,by rw [HD,eW],by rw [A7];exact xn,yV⟩
   rcases hA with ⟨e1,rfl⟩ | ⟨id,cap,hk,rfl,hg,hc,dP⟩
   ·exact v8 G'.length (.inl ⟨e1,rfl⟩) (fun o ho=>by rw [aci (tv _)] at ho;cases ho) rfl
   ·have R7:=bn _ _ _ rfl
    rw [hg] at R7
    refine v8 id (.inr ⟨id,cap,by have:=fun h=>hk (.inl h);omega,rfl,by rw [uF,R7];simp,hc,dP⟩) (fun o ho=>?_) ?_
    ·rw [R7] at ho;cases ho;exact bz _ _ _
    ·rw [fL];exact decide_eq_true (aQ R7)
  rw [EO]
  unfold By
  rw [g2]
  rcases hR with ⟨e1,rfl⟩ | ⟨id,cap,bn,rfl,hg,cr,dP⟩
  ·simp +contextual only [List.getElem?_cons_succ,List.getElem?_cons_zero,p3,sZ,Nat.reduceEqDiff,↓reduceIte,reduceCtorEq]
   refine fin G hl (fun _ _ _ _=>rfl) ?_
   rw [hG,k7,pk,if_pos (EP e1)]
  ·simp +contextual only [List.getElem?_cons_succ,List.getElem?_cons_zero,p3,sZ,Nat.reduceEqDiff,↓reduceIte,reduceCtorEq]
   have Yc:H.length + 3≤id:=by have:=fun h=>bn (.inl h);omega
   refine xY (by decide) Cr (kZ _) (fun x hx=>?_) hg cr ⟨?_,?_,?_⟩
   ·obtain ⟨q,_,rfl⟩:=aan.1 hx;rfl
   ·rw [zS (by omega)];exact g2
   ·rw [bM];exact yg _ _
   ·refine fin _ (by simp;omega) (fun id' l c e=>?_) ?_
    ·have h1:id'≠id:=fun e'=>hA.ne e (.inr ⟨_,_,by rw [e']⟩)
     have h2:id'≠H.length + 2:=fun e'=>hA.ne e (.inl (by omega))
     rw [zS (Ne.symm h2),zS (Ne.symm h1)]
    ·rw [afd,afd,hG]
     have e1:∀ X:List aa,X.length≤id→X.set id .dead=X:=fun X h=>List.set_eq_of_length_le h
     rw [e1 _ (by simp;omega),k7,pk,if_neg (fun e=>dP (by rw [e];rfl))]
     simp
end Go.aI
end
section
set_option maxRecDepth 100000
set_option maxHeartbeats 0
namespace Go.aI
open Go Go.Proofs
noncomputable def TP:=aH Tryz.call105 Tryz.func105 Tryz.ntmps105 [(5,6,2)] [(0,[0,1,2]),(1,[0,1,2]),(2,[0,1,2,16]),(3,[6]),(4,[0,1,2,7]),(5,[0,7]),(6,[0]),(7,[6])] [(5,(.take 0 true (.take 1 true (.take 2 true (.take 3 true (.take 4 true (.take 5 true (.br 6 (.take 7 true .done) .nil))))))))]
end Go.aI
end
section
set_option maxRecDepth 100000
namespace Go.aI
open Go Go.Proofs Go.dV
theorem spI (A B:List Int) (k:Nat):ah (ints A) k (ints B)=ints (A.take k++B++A.drop (k + B.length)):=by
 unfold ah
 rw [mK,uq,mL,aw,mL]
 rw [aa6]
theorem sl3 {id i n cap:Nat} (h:i < n) (hc:n≤cap) (φ:AV→Prop):bC 1 (.a7 id 0 n cap) (some (.int .i64 (i:Int))) (some (.int .i64 ((i:Int) + 1))) (some (.int .i64 (n:Int))) φ=φ (.a7 id (if n=i then 0 else 0 + i * 1) ((i + 1) - i) (n - i)):=by
 have e1:((i:Int) + 1).toNat=i + 1:=by omega
 simp only [bC,pH,ep,zV,adQ,true_and,e1,eq_iff_iff]
 constructor
 ·rintro ⟨_,_,_,h⟩;exact h.2.2.2
 ·exact fun k=>⟨by omega,by omega,by omega,by omega,by omega,by omega,k⟩
theorem afe {id i n cap:Nat} (hc:i≤cap) (φ:AV→Prop):bC 1 (.a7 id 0 n cap) none (some (.int .i64 (i:Int))) none φ=φ (.a7 id 0 i cap):=by
 have e:(if cap=0 then 0 else 0 + 0 * 1)=0:=by split <;> simp
 simp only [bC,iM,ep,zV,e,agv,eq_iff_iff]
 constructor
 ·rintro ⟨_,h⟩;exact h.2.2
 ·exact fun k=>⟨by omega,by omega,hc,k⟩
theorem aff {id i n cap:Nat} (h:i + 1≤n) (hc:n≤cap) (φ:AV→Prop):bC 1 (.a7 id 0 n cap) (some (.int .i64 ((i:Int) + 1))) none none φ=φ (.a7 id (if cap=i + 1 then 0 else 0 + (i + 1) * 1) (n - (i + 1)) (cap - (i + 1))):=by
 have e1:((i:Int) + 1).toNat=i + 1:=by omega
 simp only [bC,iM,ep,e1,eq_iff_iff]
 constructor
 ·rintro ⟨_,h⟩;exact h.2.2
 ·exact fun k=>⟨by omega,h,hc,k⟩
theorem afg {id l h n cap:Nat} (hl:l < h) (hc:h≤cap) (φ:AV→Prop):bC 1 (.a7 id 0 n cap) (some (.int .i64 (l:Int))) (some (.int .i64 (h:Int))) none φ=φ (.a7 id l (h - l) (cap - l)):=by
 have e:(if cap=l then 0 else 0 + l * 1)=l:=by rw [if_neg (by omega)];omega
 simp only [bC,iM,ep,zV,e,eq_iff_iff]
 constructor
 ·rintro ⟨_,_,h⟩;exact h.2.2
 ·exact fun k=>⟨by omega,by omega,by omega,hc,k⟩
theorem afh (P S pad:List Int) (a:Int) (hb:(P++a::S).length≤1000000000) (id cap:Nat) (cr:cap=(P++a::S++pad).length) {H:List aa} (hg:H[id]?=some (.cells (ints (P++a::S++pad)))) :
 ax Tryz.prog 105 [.a7 id 0 (P.length + 1 + S.length) cap,.int .i64 P.length,.int .i64 ((P.length:Int) + 1)] H fun r H'=>r=.a7 id 0 (P.length + S.length) cap∧H'=H.set id (.cells (ints (P++S++0::pad))):=by
 refine TP.2.calls rfl ?_
 simp only [TP,aH]
 have jQ:cap=P.length + 1 + S.length + pad.length:=by rw [cr];simp;omega
 rw [cr] at jQ
 have ne:((P.length:Int)=(P.length:Int) + 1)=False:=eq_false (by omega)
 have rR:=aQ hg
 have s1:=fun φ=>sl3 (id:=id) (i:=P.length) (n:=P.length + 1 + S.length) (cap:=cap) (by omega) (by omega) φ
 have s2:=fun φ=>afe (id:=id) (i:=P.length) (n:=P.length + 1 + S.length) (cap:=cap) (by omega) φ
 have s3':=fun φ=>aff (id:=id) (i:=P.length) (n:=P.length + 1 + S.length) (cap:=cap) (by omega) (by omega) φ
 have un:∀ a b c d,(AV.a7 a b c d).ab=.a7 a b c d:=fun _ _ _ _=>rfl
 have ox1:∀ (env:Env) (i:IX),gU env (some i)=some (au env i):=fun _ _=>rfl
 have ox2:∀ (env:Env),gU env none=none:=fun _=>rfl
 have s4:=fun φ=>afg (id:=id) (l:=P.length + S.length) (h:=P.length + 1 + S.length) (n:=P.length + S.length) (cap:=cap) (by omega) (by omega) φ
 simp +contextual only [Option.map_some,Option.map_none,ox1,s1,s2,s3',ne,decide_false,un,sZ,Nat.reduceEqDiff,Nat.reduceAdd,↓reduceIte,reduceCtorEq]
 have hnone:∀ a b c d,dA (AV.a7 a b c d)=none:=fun _ _ _ _=>rfl
 have e0:P.length + 1 + S.length - (P.length + 1)=S.length:=by omega
 have eA:P++a::S++pad=(P++[a])++(S++pad):=by simp
 unfold cV
 simp only [hnone,w8,hg,aw,e0]
 have qk:(if cap=P.length + 1 then 0 else 0 + (P.length + 1) * 1) + S.length * 1≤(P++a::S++pad).length:=by simp only [aaj,List.length_cons];split <;> omega
 have htake:(List.take (S.length * 1) (List.drop (if cap=P.length + 1 then 0 else 0 + (P.length + 1) * 1) (ints (P++a::S++pad))))=ints S:=by
  rw [uq,mK,acs]
  congr 1
  by_cases hc:cap=P.length + 1
  ·have:S=[]:=abY.1 (by omega)
   subst this;simp
  ·rw [if_neg hc,eA,List.drop_left' (by simp),aec]
 rw [if_pos qk]
 simp only [hg,htake,wH,mM,aT]
 refine ⟨?_,trivial,by omega,by rw [aw,← cr];omega,trivial,?_⟩
 ·rw [ae8,aw];simp only [aaj,List.length_cons] at qk ⊢;omega
 obtain ⟨x,X,hxX,hXl⟩:∃ x X,(a::S).drop S.length=x::X∧X.length=0:=by
  have hl:((a::S).drop S.length).length=1:=by simp
  cases hd:(a::S).drop S.length with
  | nil=>rw [hd] at hl;simp at hl
  | cons x X=>rw [hd] at hl;exact ⟨x,X,rfl,by simpa using hl⟩
 have R8:X=[]:=abY.1 hXl
 subst R8
 have e1:ah (ints (P++a::S++pad)) (0 + P.length * 1) (ints S)=ints (P++S++x::pad):=by
  rw [spI]
  congr 1
  have h1:(P++a::S++pad).take (0 + P.length * 1)=P:=by rw [aa6,ach,acs,aec]
  have h2:(P++a::S++pad).drop (0 + P.length * 1 + S.length)=x::pad:=by
   rw [aa6,ach,acs,← agC,agB,adr (by simp),hxX];rfl
  rw [h1,h2]
 rw [e1]
 have gs:∀ o,(H.set id o)[id]?=some o:=fun o=>aai rR
 have e2:P.length + 1 + S.length - (P.length + S.length)=1:=by omega
 have e3:((P.length + S.length:Nat):Int)=((P.length + S.length:Nat):Int):=rfl
 simp +contextual only [ox1,ox2,s4,un,e2,Kn,sZ,Nat.reduceEqDiff,↓reduceIte,reduceCtorEq]
 unfold jB
 have ap1:cT (.int .i64 0) 1=ints [0]:=rfl
 simp only [gs,ap1,wH,mM,aT,aw,spI,aeP]
 refine ⟨by simp;omega,trivial,trivial,?_⟩
 have e4:(P++S++x::pad).take (P.length + S.length)++[0]++(P++S++x::pad).drop (P.length + S.length + [(0:Int)].length)=P++S++0::pad:=by
  have hl:(P++S).length=P.length + S.length:=by simp
  rw [← hl,aec,← agC,agB];simp
 rw [e4]
 simp +contextual only [un,sZ,↓reduceIte,reduceCtorEq]
 exact V4 (by simp) (by rw [fL];exact decide_eq_true rR) rfl rfl
end Go.aI
end
section
set_option maxRecDepth 100000
namespace Go.aI
open Go Go.Proofs Go.dV
theorem TQ {S:List aa→Prop} (hS:AQ S) {Q:Int→Prop} {a:List Int} {id cap:Nat} (hg:∀ G,S G→G[id]?=some (bB zI (ints a) cap)) (hc:a.length≤cap) (la:a.length≤1000000000) (g:Nat) (pre cP:List AV) (cr:cP.map AV.ab=cP) (mZ:pre.map AV.ab=pre)
 (hf:∀ x∈a,∀ H,S H→ax Tryz.prog g (pre++[.int .i64 x]++cP) H (SB S (Q x))) {H:List aa} (hH:S H) :
 ax Tryz.prog 100 [.a7 id 0 a.length cap,.fn (.func g) pre cP] H (SI S Q a):=by
 refine D2.2.calls rfl ?_
 simp only [D2,aH]
 simp +contextual only [sZ,Nat.reduceEqDiff,Nat.reduceAdd,↓reduceIte,reduceCtorEq]
 have fin:∀ (n:Int) (G:List aa),S G→((n=-1∧∀ x∈a,¬ Q x)∨∃ m:Nat,n=m∧m < a.length∧Q (a.getD m 0)∧∀ j,j < m→¬ Q (a.getD j 0))→bS H.length [.t 4] [(4,.int .i64 n)] G (SI S Q a):=by
  intro n G hG hn
  refine a8 H.length (tv _) (by rw [aC,if_pos rfl];rfl) ?_
  rw [aC,if_pos rfl,aaJ (by rw [hS H G hH hG];exact tv _)]
  refine ⟨hG,?_⟩
  rcases hn with ⟨rfl,h⟩ | ⟨m,rfl,h⟩
  ·exact .inl ⟨rfl,h⟩
  ·exact .inr ⟨m,rfl,h⟩
 refine aG a.length (fun i (G:List aa)=>S G∧∀ j,j < i→¬ Q (a.getD j 0))
  (fun i G=>[(0,.a7 id 0 a.length cap),(1,.fn (.func g) pre cP),(7,.int .i64 a.length),(8,.int .i64 i)]) (fun i G=>G) H ⟨⟨hH,fun j hj=>by omega⟩,aA _ _ _⟩ fun i G hi hI=>?_
 obtain ⟨hG,hq⟩:=hI
 by_cases aP:i < a.length
 ·have oA:((i:Int) < a.length)=True:=eq_true (by omega)
  simp +contextual only [oA,decide_true,l9,hg G hG,IS aP,cr,mZ,sZ,Nat.reduceEqDiff,Nat.reduceAdd,↓reduceIte,reduceCtorEq]
  refine ⟨by omega,af (hf _ (aV (by omega)) G hG) ?_⟩
  rintro r G' ⟨x,rfl,hx,eW⟩
  cases x with
  | false=>
    simp +contextual only [sZ,Nat.reduceEqDiff,↓reduceIte,reduceCtorEq]
    refine ⟨i + 1,G',⟨by omega,eW,fun j hj=>?_⟩,by omega,aD (by rw [aq i (by omega)]) rfl⟩
    by_cases h:j=i
    ·subst h;exact fun h=>absurd (hx.2 h) (by simp)
    ·exact hq j (by omega)
  | true=>
    simp +contextual only [sZ,Nat.reduceEqDiff,↓reduceIte,reduceCtorEq]
    exact fin _ _ eW (.inr ⟨i,rfl,by omega,hx.1 rfl,hq⟩)
 ·have oA:((i:Int) < a.length)=False:=eq_false (by omega)
  simp +contextual only [oA,decide_false,sZ,Nat.reduceEqDiff,↓reduceIte,reduceCtorEq]
  refine fin _ _ hG (.inl ⟨rfl,fun x hx=>?_⟩)
  obtain ⟨j,hj,rfl⟩:=acI hx
  have:=hq j (by omega)
  simpa [hj] using this
theorem abk {S:List aa→Prop} (hS:AQ S) {Q:Int→Prop} {a:List Int} {id cap:Nat} (hg:∀ G,S G→G[id]?=some (bB zI (ints a) cap)) (hc:a.length≤cap) (la:a.length≤1000000000) (g:Nat) (pre cP:List AV) (cr:cP.map AV.ab=cP) (mZ:pre.map AV.ab=pre)
 (hf:∀ x∈a,∀ H,S H→ax Tryz.prog g (pre++[.int .i64 x]++cP) H (SB S (Q x))) {H:List aa} (hH:S H) :
 ax Tryz.prog 102 [.a7 id 0 a.length cap,.fn (.func g) pre cP] H (SB S (∃ x∈a,Q x)):=by
 refine D3.2.calls rfl ?_
 simp only [D3,aH]
 simp +contextual only [sZ,Nat.reduceEqDiff,Nat.reduceAdd,↓reduceIte,reduceCtorEq]
 refine af (TQ hS hg hc la g pre cP cr mZ hf hH) ?_
 rintro r G ⟨hG,⟨rfl,h⟩ | ⟨n,rfl,h1,h2,_⟩⟩
 ·simp +contextual only [sZ,↓reduceIte,reduceCtorEq]
  exact Cu hS (b:=false) (by simp) ⟨fun h=>by simp at h,fun ⟨x,hx,h'⟩=>absurd h' (h x hx)⟩ hH hG
 ·simp +contextual only [sZ,↓reduceIte,reduceCtorEq]
  exact Cu hS (b:=true) (by simp) ⟨fun _=>⟨_,aV h1,h2⟩,fun _=>rfl⟩ hH hG
def SG (c:Cx) (G H:List aa):Prop:=Du c H∧Up c G H
theorem SG.len (c:Cx) (G:List aa):AQ (SG c G):=fun H H' h h'=>h'.2.len.trans h.2.len.symm
theorem afj {c:Cx} (hc:c.Ok) {i x:Int} (hi:c.ew i) (hx:c.ew x) {t9:Nat} {G:List aa} (h9:G[t9]?=some (.cells [.ptr c.d 0])) (n1:t9≠c.e) (n2:t9≠c.g) (H:List aa) (hH:SG c G H) :
 ax Tryz.prog 103 ([]++[.int .i64 x]++[.ptr t9 0,.ai (.int .i64 i)]) H (SB (SG c G) (R c.O (c.tm i) (c.tm x))):=by
 refine Yl.2.calls rfl ?_
 simp only [Yl,aH,List.nil_append,List.cons_append]
 have h9':H[t9]?=some (.cells [.ptr c.d 0]):=by rw [hH.2.get t9 n1 n2,h9]
 simp +contextual only [h9',sZ,Nat.reduceEqDiff,Nat.reduceAdd,Nat.reduceLT,↓reduceIte,reduceCtorEq]
 refine af (k9 hc hi hx H hH.1) ?_
 rintro r G' ⟨b,rfl,hb,hU,hD⟩
 simp +contextual only [sZ,↓reduceIte,reduceCtorEq]
 exact Cu (SG.len c G) rfl hb hH ⟨hD,hH.2.trans hU⟩
theorem afk {c:Cx} (hc:c.Ok) {i:Int} (hi:c.ew i) {t9 t10 id cap:Nat} {l:List Int} {G:List aa} (hl:∀ x∈l,c.ew x) (Bo:l.length≤cap) (JJ:l.length≤1000000000)
 (h9:G[t9]?=some (.cells [.ptr c.d 0])) (n1:t9≠c.e) (n2:t9≠c.g)
 (h10:G[t10]?=some (.cells [.a7 id 0 l.length cap])) (m1:t10≠c.e) (m2:t10≠c.g)
 (hg:G[id]?=some (bB zI (ints l) cap)) (k1:id≠c.e) (k2:id≠c.g) (H:List aa) (hH:SG c G H) :
 ax Tryz.prog 101 ([]++[.int .i64 i]++[.ptr t10 0,.ptr t9 0]) H (SB (SG c G) (¬ ∃ x∈l,R c.O (c.tm i) (c.tm x))):=by
 refine Yk.2.calls rfl ?_
 simp only [Yk,aH,List.nil_append,List.cons_append]
 have afl:H[t10]?=some (.cells [.a7 id 0 l.length cap]):=by rw [hH.2.get t10 m1 m2,h10]
 simp +contextual only [afl,sZ,Nat.reduceEqDiff,Nat.reduceAdd,Nat.reduceLT,↓reduceIte,reduceCtorEq]
 refine af (abk (SG.len c G) (fun G' eW=>by rw [eW.2.get id k1 k2,hg]) Bo JJ 103 [] [.ptr t9 0,.ai (.int .i64 i)] rfl rfl (fun x hx H' hH'=>afj hc hi (hl x hx) h9 n1 n2 H' hH') hH) ?_
 rintro r G' ⟨b,rfl,hb,hG⟩
 simp +contextual only [sZ,↓reduceIte,reduceCtorEq]
 refine Cu (SG.len c G) (b:=!b) (by simp) ?_ hH hG
 rw [← hb];cases b <;> simp
end Go.aI
end
section
set_option maxRecDepth 100000
set_option maxHeartbeats 0
namespace Go.aI
open Go Go.Proofs
noncomputable def abl:=aH Tryz.call37 Tryz.func37 Tryz.ntmps37 [(0,0,1),(0,1,1),(9,2,2000),(10,0,1),(10,12,2000),(10,15,1),(11,4,2000)] [(0,[2,3,4]),(1,[2,4,8]),(2,[2,4,8,18]),(3,[6,7]),(4,[2,4,22]),(5,[6,7]),(6,[9,10]),(7,[9,10,11]),(8,[9,10,11,31]),(9,[9,10,11,12]),(10,[9,10,11,12]),(11,[9,10,11]),(12,[6,7])] [(10,(.take 1 true (.take 2 true (.take 3 true (.take 4 true (.take 5 true (.take 6 true (.take 7 true (.take 8 true (.take 9 true (.take 10 true (.take 11 true (.br 0 (.br 12 (.take 13 true (.br 14 (.br 15 .done .nil) .nil)) .nil) (.br 12 (.take 13 true (.br 0 (.br 14 (.br 15 .done .nil) .nil) .nil)) .nil))))))))))))))]
noncomputable def TR:=aH Tryz.call104 Tryz.func104 Tryz.ntmps104 [(1,4,2),(5,4,2000),(7,0,3003)] [(0,[1,2]),(1,[1,2]),(2,[1,2,10,11,12]),(3,[1,2,10,11,12,13]),(4,[1,2,3,4,10,11,12]),(5,[1,2,10,11,12]),(6,[1,2,10,11,12]),(7,[2])] [(5,(.take 3 true (.take 0 false (.take 2 false (.br 1 (.br 4 (.take 5 true (.br 6 .done .nil)) .nil) (.br 4 (.take 1 true (.take 5 true (.br 6 .done .nil))) .nil))))))]
end Go.aI
end
section
set_option maxRecDepth 100000
namespace Go.aI
open Go Go.Proofs Go.dV
def zT:AV:=.agg [.int .i64 0,.int .i64 0,.ag]
theorem N3:j4 3 (bR zT):=⟨rfl,rfl,rfl,rfl⟩
theorem vE (t:T):t.av=.agg [.int .i64 t.k,.int .i64 t.n,.aj 0 (ca t.l)]:=by cases t;rfl
theorem yJ (t:T):j4 3 t.av:=by
 rw [vE]
 exact ⟨rfl,rfl,by simp [AV.cells,dT,bN,da,iR,bM],rfl⟩
theorem I5 {l:List T} {x:AV} (h:x∈ca l):∃ t∈l,x=t.av:=by
 induction l with
 | nil=>cases h
 | cons y r ih=>
   rcases Xi.1 h with rfl | h
   ·exact ⟨y,aa2,rfl⟩
   ·obtain ⟨t,ht,e⟩:=ih h;exact ⟨t,aaK _ ht,e⟩
theorem qe (l:List T):∀ x∈ca l,j4 3 x:=by
 intro x hx;obtain ⟨t,_,rfl⟩:=I5 hx;exact yJ t
theorem I6 {l:List T} {i:Nat} (h:i < l.length):(ca l).getD i .any=(l.getD i default).av:=by
 induction l generalizing i with
 | nil=>simp at h
 | cons x r ih=>
   cases i with
   | zero=>rfl
   | succ i=>simpa [ca] using ih (i:=i) (by simpa using h)
theorem jO (l:List T):(ca l).length=l.length:=by induction l with | nil=>rfl | cons x r ih=>simp [ca,ih]
def CT (base:Nat) (v:AV) (l:List T) (G:List aa):Prop:=
 (l=[]∧v=.ag)∨∃ id cap,base≤id∧v=.a7 id 0 l.length cap∧G[id]?=some (bB zT (ca l) cap)∧l.length≤cap
theorem CT.one {base:Nat} {v:AV} {l:List T} {G:List aa} (h:CT base v l G):v.one=true∧v.val=true∧v.ab=v∧v.cells=[v]:=by
 rcases h with ⟨_,rfl⟩ | ⟨id,cap,_,rfl,_⟩ <;> exact ⟨rfl,rfl,rfl,rfl⟩
theorem CT.bb {base:Nat} {v:AV} {l:List T} {G:List aa} (h:CT base v l G) {n:Nat} (hn:G.length≤n):v.bb n=true:=by
 rcases h with ⟨_,rfl⟩ | ⟨id,cap,_,rfl,c,_⟩
 ·rfl
 ·have:=(aa0.1 c).1
  rw [fL];simp;omega
theorem CT.len {base:Nat} {v:AV} {l:List T} {G:List aa} (h:CT base v l G) {H:List aa} (φ:AV→Prop):fj v H φ=φ (.int .i64 l.length):=by
 rcases h with ⟨rfl,rfl⟩ | ⟨id,cap,_,rfl,_⟩ <;> rfl
theorem CT.aO {base:Nat} {v:AV} {l:List T} {G:List aa} (h:CT base v l G):aO 1 v=True:=by
 rcases h with ⟨rfl,rfl⟩ | ⟨id,cap,_,rfl,_⟩ <;> rfl
theorem N4 (o:Nat) (φ:AV→Prop):dx 0 false (.aj o []) φ=(φ (.bool true)∧φ (.bool false)):=by simp [dx,isNil]
theorem N5 (o:Nat) (x:AV) (r:List AV) (φ:AV→Prop):dx 0 false (.aj o (x::r)) φ=φ (.bool false):=by simp [dx,isNil]
theorem N6 {esz bytes:Nat} {z:AV} {id o:Nat} {G:List aa} (bn:G[id]?=some (.cells [])) {K:AV→List aa→Prop} (hK:K (.a7 id 0 0 0) G):cV esz bytes z (.a7 id 0 0 0) (.aj o []) G K:=by
 unfold cV
 simp only [dA,bn]
 refine ⟨fun y h=>by simp at h,by simp,tv _,by simp,fun _=>⟨by simp [flat,al],?_⟩,fun h=>absurd h (by simp)⟩
 have e:ah ([]:List AV) ((0 + 0) * esz) (List.map AV.ab (flat []))=[]:=by simp [ah,flat]
 simp only [flat,ah,agb,List.map_nil,List.length_nil,ack,List.take_nil,List.drop_nil]
 rw [Hk bn]
 exact hK
theorem afn (l:List T) (H:List aa) (hb:l.length * 40≤140737488355328):ax Tryz.prog 58 [.aj 0 (ca l)] H fun r H'=>CT H.length r l H'∧H'.take H.length=H∧H.length≤H'.length:=by
 refine ZY.2.calls rfl ?_
 simp only [ZY,aH]
 cases l with
 | nil=>
   simp +contextual only [ca,N4,wG,uW,sZ,Nat.reduceEqDiff,Nat.reduceAdd,↓reduceIte,reduceCtorEq]
   refine ⟨a8 H.length (tv _) (by rw [aC,if_pos rfl];rfl) ⟨.inl ⟨rfl,by rw [aC,if_pos rfl]⟩,by simp,by simp⟩,?_⟩
   refine ⟨rfl,N6 (by simp [flat]) ?_⟩
   simp +contextual only [sZ,↓reduceIte,reduceCtorEq]
   refine a8 (H.length + 1) (by omega) (by rw [aC,if_pos rfl,fL];exact decide_eq_true (by omega)) ?_
   rw [aC,if_pos rfl,aaJ (by simp)]
   exact ⟨.inr ⟨H.length,0,tv _,rfl,by simp [bB,ca,flat,cT],tv _⟩,by simp,by simp⟩
 | cons v r=>
   simp +contextual only [ca,N5,wG,uW,sZ,Nat.reduceEqDiff,Nat.reduceAdd,↓reduceIte,reduceCtorEq]
   refine ⟨rfl,IQ N3 (by simp [flat]) (ca (v::r)) (by simp [ca]) (qe _) (by rw [jO];exact hb) (base:=H.length) (by simp) fun v' G' hR hG hl=>?_⟩
   obtain ⟨o1,o2,o3,o4⟩:=hR.one
   simp +contextual only [o3,sZ,↓reduceIte,reduceCtorEq]
   have xn:H.length≤G'.length:=by simp at hl;omega
   refine a8 G'.length xn (by rw [aC,if_pos rfl];exact hR.bb (tv _)) ?_
   rw [aC,if_pos rfl,abe]
   refine ⟨?_,by rw [hG];simp,xn⟩
   rcases hR with ⟨h,_⟩ | ⟨id,cap,a,b,c,d,_⟩
   ·cases h
   ·rw [jO] at b d;exact .inr ⟨id,cap,a,b,c,d⟩
theorem loadT {l:List T} {cap i:Nat} (h:i < l.length) (φ:AV→Prop):c8 (some (bB zT (ca l) cap)) (some 3) (i * 3) φ=φ (l.getD i default).av:=by
 obtain ⟨g1,_⟩:=j4.flat (qe l)
 rw [jO] at g1
 have h1:=ri (qe l) i (by rw [jO];exact h)
 rw [I6 h] at h1
 have rP:(l.getD i default).av.cells.length=3:=(yJ _).len
 have e:((flat (ca l)++cT zT (cap - (ca l).length)).drop (i * 3)).take 3=(l.getD i default).av.cells:=by
  rw [adr (by omega),h1,aa6,aa1 (by omega),aaJ (by omega)]
 simp only [bB,c8,e,eq_iff_iff,aaj]
 have e2:AV.agg ((l.getD i default).av.cells.map AV.drop)=(l.getD i default).av:=by rw [vE];rfl
 rw [e2]
 constructor
 ·exact fun h=>h.2
 ·exact fun h2=>⟨by omega,h2⟩
theorem storeT {l:List T} {cap i id:Nat} (h:i < l.length) {H:List aa} (hg:H[id]?=some (bB zT (ca l) cap)) {K:List aa→Prop} (hK:K H):iS (some (bB zT (ca l) cap)) 3 id (i * 3) (l.getD i default).av H K:=by
 obtain ⟨g1,_⟩:=j4.flat (qe l)
 rw [jO] at g1
 have h1:=ri (qe l) i (by rw [jO];exact h)
 rw [I6 h] at h1
 have ho:=yJ (l.getD i default)
 have rP:=ho.len
 have hs:ah (flat (ca l)++cT zT (cap - (ca l).length)) (i * 3) ((l.getD i default).av.cells.map AV.ab)=flat (ca l)++cT zT (cap - (ca l).length):=by
  rw [ho.un]
  unfold ah
  have e1:(flat (ca l)++cT zT (cap - (ca l).length)).drop (i * 3)=(l.getD i default).av.cells++(flat ((ca l).drop (i + 1))++cT zT (cap - (ca l).length)):=by
   rw [adr (by omega),h1,aa6]
  have e2:(flat (ca l)++cT zT (cap - (ca l).length)).drop (i * 3 + (l.getD i default).av.cells.length)=flat ((ca l).drop (i + 1))++cT zT (cap - (ca l).length):=by
   rw [← agC,e1,agB]
  rw [e2,← e1,aeB]
 have hv:(l.getD i default).av.val=true:=by rw [vE];rfl
 simp only [bB,iS]
 refine ⟨hv,rP,by rw [aaj];omega,ho.one,by rw [ho.un];exact bF (acR _) _ ho.bl,?_⟩
 rw [hs,show (aa.cells (flat (ca l)++cT zT (cap - (ca l).length)))=bB zT (ca l) cap from rfl,Hk hg]
 exact hK
theorem CT.set {base:Nat} {v:AV} {l:List T} {G:List aa} (h:CT base v l G) {j:Nat} (hj:j < base) (o:aa):CT base v l (G.set j o):=by
 rcases h with h | ⟨id,cap,a,b,c,d⟩
 ·exact .inl h
 ·exact .inr ⟨id,cap,a,b,by rw [zS (by omega)];exact c,d⟩
theorem CT.um {base:Nat} {v:AV} {l:List T} {G:List aa} (h:CT base v l G) (X:List aa):CT base v l (G++X):=by
 rcases h with h | ⟨id,cap,a,b,c,d⟩
 ·exact .inl h
 ·exact .inr ⟨id,cap,a,b,by rw [zR (aQ c)];exact c,d⟩
theorem CT.get {base:Nat} {v:AV} {l:List T} {G:List aa} (h:CT base v l G) {i:Nat} (hi:i < l.length):∃ id cap,base≤id∧v=.a7 id 0 l.length cap∧G[id]?=some (bB zT (ca l) cap)∧l.length≤cap:=by
 rcases h with ⟨rfl,_⟩ | h
 ·simp at hi
 ·exact h
theorem afo:∀ (n:Nat) (t:T),wt t≤n→wt t≤1000000000→Pure Tryz.prog 104 [t.av] t.av:=by
 intro n
 induction n with
 | zero=>intro t h;have:=dH t;omega
 | succ n ih=>
   intro t hn hb H
   refine TR.2.B9 rfl ?_
   simp only [TR,aH]
   have hw:=yf t
   have hlw:=gL t.l
   rw [vE]
   simp +contextual only [sZ,Nat.reduceEqDiff,Nat.reduceAdd,Nat.reduceLT,↓reduceIte]
   have wv:(H++[aa.cells [.int .i64 t.k,.int .i64 t.n,.aj 0 (ca t.l)],.cells [.int .i64 0,.int .i64 0,.ag]]).length=H.length + 2:=by simp
   refine af (afn t.l _ (by omega)) ?_
   rintro v G ⟨hC,hG,hl⟩
   rw [wv] at hC hG hl
   obtain ⟨o1,o2,o3,o4⟩:=hC.one
   have g0:G[H.length]?=some (.cells [.int .i64 t.k,.int .i64 t.n,.aj 0 (ca t.l)]):=by
    have:(G.take (H.length + 2))[H.length]?=G[H.length]?:=by rw [aaM,if_pos (by omega)]
    rw [← this,hG];simp
   have g1:G[H.length + 1]?=some (.cells [.int .i64 0,.int .i64 0,.ag]):=by
    have:(G.take (H.length + 2))[H.length + 1]?=G[H.length + 1]?:=by rw [aaM,if_pos (by omega)]
    rw [← this,hG];simp
   have eW:G.take H.length=H:=by
    have:G.take H.length=(G.take (H.length + 2)).take H.length:=by rw [List.take_take];congr 1;omega
    rw [this,hG];simp
   have hbv:=hC.bb (tv _)
   have Bn:H.length < G.length:=by omega
   have iD:∀ o,(G.set H.length o)[H.length]?=some o:=fun o=>aai Bn
   simp +contextual only [l7,o1,o2,o3,o4,g0,hbv,iD,hC.aO,hC.len,sZ,Nat.reduceEqDiff,Nat.reduceAdd,Nat.reduceLT,↓reduceIte]
   refine iT t.l.length (fun i (G:List aa)=>CT (H.length + 2) v t.l G∧G[H.length]?=some (.cells [.int .i64 t.k,.int .i64 t.n,v])∧G[H.length + 1]?=some (.cells [.int .i64 0,.int .i64 0,.ag])∧G.take H.length=H)
    (fun i G=>[(1,.ptr H.length 0),(2,.ptr (H.length + 1) 0),(10,v),(11,.int .i64 t.l.length),(12,.int .i64 i)]) (fun i G=>G) (G.set H.length (.cells [.int .i64 t.k,.int .i64 t.n,v]))
    ⟨⟨hC.set (by omega) _,iD _,by rw [zS (by omega)];exact g1,by rw [ace (by omega)];exact eW⟩,kA _ _ _⟩ fun i G hi hI=>?_
   clear hG g0 g1 eW hbv Bn iD hl hC
   obtain ⟨hC,g0,g1,hG⟩:=hI
   by_cases aP:i < t.l.length
   ·have oA:((i:Int) < t.l.length)=True:=eq_true (by omega)
    obtain ⟨id,cap,bn,rfl,hg,cr⟩:=hC.get aP
    have wv:=aQ hg
    have R7:∀ X,(G++X)[id]?=some (bB zT (ca t.l) cap):=fun X=>by rw [zR wv];exact hg
    have g0':∀ X,(G++X)[H.length]?=some (.cells [.int .i64 t.k,.int .i64 t.n,.a7 id 0 t.l.length cap]):=fun X=>by rw [zR (aQ g0)];exact g0
    have hx:=vE (t.l.getD i default)
    have hL:∀ φ,c8 (some (bB zT (ca t.l) cap)) (some 3) (i * 3) φ=φ (.agg [.int .i64 (t.l.getD i default).k,.int .i64 (t.l.getD i default).n,.aj 0 (ca (t.l.getD i default).l)]):=fun φ=>by rw [← hx];exact loadT aP φ
    have hwx:wt (t.l.getD i default)≤fN t.l:=by
     have:=mI aP;have:=cS t.l (i + 1);omega
    have hcall:=ih (t.l.getD i default) (by omega) (by omega)
    rw [hx] at hcall
    have hS:=fun {H':List aa} (hg:H'[id]?=some (bB zT (ca t.l) cap)) {K:List aa→Prop} (hK:K H')=>storeT (id:=id) aP hg hK
    rw [hx] at hS
    simp +contextual only [oA,decide_true,l9,hg,hL,g0',sZ,Nat.reduceEqDiff,Nat.reduceAdd,Nat.reduceLT,↓reduceIte,reduceCtorEq]
    refine ⟨aP,ae hcall ?_,ae hcall ?_⟩
    all_goals
     simp +contextual only [l9,g0',R7,sZ,Nat.reduceEqDiff,Nat.reduceAdd,Nat.reduceLT,↓reduceIte,reduceCtorEq]
     refine ⟨aP,hS (R7 _) ?_⟩
     simp +contextual only [sZ,Nat.reduceEqDiff,↓reduceIte]
     refine ⟨i + 1,_,⟨aP,hC.um _,g0' _,by rw [zR (aQ g1)];exact g1,by rw [aa1 (by have:=aQ g1;omega)];exact hG⟩,by omega,sI (by rw [aq i (by omega)]) rfl⟩
   ·have mq:i=t.l.length:=by omega
    have oA:((i:Int) < t.l.length)=False:=eq_false (by omega)
    simp +contextual only [l7,oA,decide_false,g0,sZ,Nat.reduceEqDiff,↓reduceIte]
    have fin:∀ (G':List aa),G'[H.length + 1]?=some (.cells [.int .i64 t.k,.int .i64 t.n,.aj 0 (ca t.l)])→G'.take H.length=H→c8 G'[H.length + 1]? (some 3) 0 fun v=>xX (oc H.length) H.length v G' fun r H'=>r=AV.agg [AV.int IntKind.i64 t.k,AV.int IntKind.i64 t.n,AV.aj 0 (ca t.l)]∧H'=H:=by
     intro G' h1 h2
     rw [h1,IB]
     exact ⟨H.length,H,tv _,Ay h2 rfl,_,le_refl _,by simp [AV.drop,xM,bN,da,iR,bM,dT],rfl,rfl⟩
    have ls:∀ (l:List AV) (G':List aa),(∀ o,(G'.set (H.length + 1) o).take H.length=G'.take H.length):=fun l G' o=>ace (by omega)
    have vZ:=aQ g1
    rcases hC with ⟨e,rfl⟩ | ⟨id,cap,bn,rfl,hg,cr⟩
    ·rw [e] at fin ⊢
     have e1:∀ (K:AV→List aa→Prop),ee 3 AV.ag.drop G K=K (.aj 0 []) G:=fun K=>rfl
     rw [e1]
     simp +contextual only [l7,g1,sZ,Nat.reduceEqDiff,Nat.reduceAdd,↓reduceIte,reduceCtorEq]
     exact fin _ (aai vZ) (by rw [ace (by omega)];exact hG)
    ·have e1:∀ l c,(AV.a7 id 0 l c).drop=.a7 id 0 l c:=fun _ _=>rfl
     rw [e1]
     have ef:=fun K hK=>xY (esz:=3) (by decide) N3 (qe t.l) (fun x hx=>by obtain ⟨y,_,rfl⟩:=I5 hx;rw [vE];rfl) hg (by rw [jO];exact cr) (K:=K) hK
     rw [jO] at ef
     refine ef _ ?_
     have g1':(G.set id .dead)[H.length + 1]?=some (.cells [.int .i64 0,.int .i64 0,.ag]):=by rw [zS (by omega)];exact g1
     simp +contextual only [l7,g1',sZ,Nat.reduceEqDiff,Nat.reduceAdd,↓reduceIte,reduceCtorEq]
     exact fin _ (aai (by simpa using vZ)) (by rw [ace (by omega),ace (by omega)];exact hG)
end Go.aI
end
section
set_option maxRecDepth 100000
namespace Go.aI
open Go Go.Proofs Go.dV
def N7 (r:T→T→Bool) (l:List T):Nat:=l.findIdx fun a=>l.all fun x=>!r a x
def zB (r:T→T→Bool):Nat→List T→List T
 | 0,_=>[]
 | n + 1,l=>l.getD (N7 r l) default::zB r n (l.eraseIdx (N7 r l))
theorem TS {r:T→T→Prop} (hi:∀ a,¬ r a a) (ht:∀ a b c,r a b→r b c→r a c):∀ l:List T,l≠[]→∃ a∈l,∀ x∈l,¬ r a x
 | [],h=>absurd rfl h
 | [a],_=>⟨a,aa2,fun x hx=>by rcases Xi.1 hx with rfl | hx;exact hi _;cases hx⟩
 | a::b::l,_=>by
   obtain ⟨m,hm,hl⟩:=TS hi ht (b::l) (by simp)
   by_cases h:r m a
   ·refine ⟨a,aa2,fun x hx=>?_⟩
    rcases Xi.1 hx with rfl | hx
    ·exact hi _
    ·exact fun h'=>hl x hx (ht _ _ _ h h')
   ·refine ⟨m,aaK _ hm,fun x hx=>?_⟩
    rcases Xi.1 hx with rfl | hx
    ·exact h
    ·exact hl x hx
noncomputable def zP (s:Sg) (ps ss:List Int) (ts:List T):List T×Int:=
 if jt s ps ss ts=0 then if 1000 < ts.length then ([],2) else (zB (E2 ps ss) ts.length ts,0) else ([],jt s ps ss ts)
theorem R9 (n:Nat):cT zI n=ints (List.replicate n 0):=by
 induction n with
 | zero=>rfl
 | succ n ih=>
   have e:cT zI (n + 1)=.int .i64 0::cT zI n:=rfl
   rw [e,ih];rfl
theorem Fk (l:List Int) (cap:Nat):bB zI (ints l) cap=.cells (ints (l++List.replicate (cap - l.length) 0)):=by
 rw [Ct,R9,mL]
theorem abn {L:List Int} {n id cap:Nat} (hn:n < L.length) (hc:L.length≤cap) (hb:L.length≤1000000000) {H:List aa} (hg:H[id]?=some (bB zI (ints L) cap)) :
 ax Tryz.prog 105 [.a7 id 0 L.length cap,.int .i64 (n:Int),.int .i64 ((n:Int) + 1)] H fun r H'=>r=.a7 id 0 (L.eraseIdx n).length cap∧H'=H.set id (bB zI (ints (L.eraseIdx n)) cap):=by
 have e1:L=L.take n++L.getD n 0::L.drop (n + 1):=by
  have:L.getD n 0=L[n]:=by simp [hn]
  rw [this,← aaP hn,aeB]
 have e2:L.eraseIdx n=L.take n++L.drop (n + 1):=adb ..
 have l1:(L.take n).length=n:=by simp;omega
 have l2:(L.drop (n + 1)).length=L.length - (n + 1):=by simp
 have hp:(L.take n++L.getD n 0::L.drop (n + 1)++List.replicate (cap - L.length) 0).length=cap:=by rw [← e1];simp;omega
 have R7:H[id]?=some (.cells (ints (L.take n++L.getD n 0::L.drop (n + 1)++List.replicate (cap - L.length) 0))):=by rw [← e1,← Fk];exact hg
 have h:=afh (L.take n) (L.drop (n + 1)) (List.replicate (cap - L.length) 0) (L.getD n 0) (by rw [← e1];exact hb) id cap hp.symm R7
 have el:L.take n++L.drop (n + 1)++0::List.replicate (cap - L.length) 0=L.eraseIdx n++List.replicate (cap - (L.eraseIdx n).length) 0:=by
  rw [e2]
  congr 1
  rw [aaj,l1,l2,show cap - (n + (L.length - (n + 1)))=(cap - L.length) + 1 by omega]
  rfl
 have ll:(L.eraseIdx n).length=(L.take n).length + (L.drop (n + 1)).length:=by rw [e2,aaj]
 rw [el,l1,l2,show n + 1 + (L.length - (n + 1))=L.length by omega] at h
 rw [Fk,ll,l1,l2]
 rw [ll,l1,l2] at h
 exact h
theorem N8 {r:T→T→Bool} {l:List T} {n:Nat} (hn:n < l.length) (h1:∀ x∈l,r (l.getD n default) x=false) (h2:∀ j,j < n→∃ x∈l,r (l.getD j default) x=true):N7 r l=n:=by
 unfold N7
 rw [List.findIdx_eq hn]
 refine ⟨?_,fun j hj=>?_⟩
 ·have e:l[n]=l.getD n default:=by simp [hn]
  rw [e,aaO]
  intro x hx;rw [h1 x hx];rfl
 ·obtain ⟨x,hx,h⟩:=h2 j hj
  have rK:j < l.length:=by omega
  have e:l[j]=l.getD j default:=by simp [rK]
  rw [e,acZ]
  exact ⟨x,hx,by rw [h];simp⟩
theorem yK {c:Cx} {L:List Int} {n:Nat} (h:n < L.length):(L.map c.tm).getD n default=c.tm (L.getD n 0):=by simp [h]
theorem I7 {Hs G:List aa} {n0:Nat} {l:List T} {e:Int} {u:AV} (hu:u.ab.le (.aj 0 (ca l))) (hH:Hs.take n0=G):bS n0 [.t 6,.t 7] [(6,u),(7,.int .i64 e)] Hs (fun r H'=>r=.tuple [.aj 0 (ca l),.int .i64 e]∧H'=G):=by
 subst hH
 refine ⟨n0,tv _,[.aj 0 (ca l),.int .i64 e],?_,by simp [al,bM,dT,iR],rfl,rfl⟩
 exact ⟨hu,le_refl _,trivial⟩
theorem n7 (vs:List T):(uk vs).ab.le (.aj 0 (ca vs)):=by
 cases vs with
 | nil=>exact .inr (.inr (.inr (.inl ⟨rfl,0,rfl⟩)))
 | cons v r=>exact le_refl _
theorem Du.WV {c:Cx} {H:List aa} {n:Nat} (h:Du c (H.take n)) (hn:True):Du c H:=by
 have hg:∀ {j:Nat} {o:aa},(H.take n)[j]?=some o→H[j]?=some o:=by
  intro j o h
  rw [aaM] at h
  split at h
  ·exact h
  ·cases h
 exact ⟨hg h.d,by obtain ⟨m,h1,h2⟩:=h.e;exact ⟨m,hg h1,h2⟩,by obtain ⟨m,h1,h2⟩:=h.g;exact ⟨m,hg h1,h2⟩⟩
theorem c37 (s:Sg) (ps ss:List Int) (ts:List T) (hlen:ts.length < 9223372036854775808):Pure Tryz.prog 37 [s.av,eN ps ss,.aj 0 (ca ts)] (.tuple [.aj 0 (ca (zP s ps ss ts).1),.int .i64 (zP s ps ss ts).2]):=by
 refine fun H=>abl.2.calls rfl ?_
 simp only [abl,aH]
 obtain ⟨q1,q2,q3,q4,q5,q6⟩:=aX ps ss
 simp +contextual only [aB,q1,q4,b7,sZ,Nat.reduceEqDiff,Nat.reduceAdd,↓reduceIte,reduceCtorEq]
 refine ae (c74 s ps ss ts) ?_
 by_cases h0:jt s ps ss ts=0
 ·by_cases Pn:1000 < ts.length
  ·have e:zP s ps ss ts=([],2):=by unfold zP;rw [if_pos h0,if_pos Pn]
   have ey:((1000:Int) < ts.length)=True:=eq_true (by omega)
   rw [e]
   simp +contextual only [h0,ey,decide_true,hlen,sZ,Nat.reduceEqDiff,↓reduceIte,reduceCtorEq]
   exact I7 (n7 []) abe
  ·have e:zP s ps ss ts=(zB (E2 ps ss) ts.length ts,0):=by unfold zP;rw [if_pos h0,if_neg Pn]
   have ey:((1000:Int) < ts.length)=False:=eq_false (by omega)
   rw [e]
   have hr:=sY h0
   have hw:=lK hr.tree
   simp +contextual only [q4,b7,h0,ey,decide_false,hlen,sZ,Nat.reduceEqDiff,Nat.reduceAdd,↓reduceIte]
   refine af (afc ps ss ts H (by omega)) ?_
   rintro r G ⟨va,rfl,hG,XD,hR⟩
   obtain ⟨o1,o2,o3,o4⟩:=hR.one
   have hbv:∀ n,G.length≤n→va.bb n=true:=fun n hn=>hR.bb hn
   have qw:=hbv (G.length + 2) (by omega)
   have qx:∀ o o',va.bb (G++[o,o']:List aa).length=true:=fun o o'=>hbv _ (by simp)
   have hp1:(AV.ptr (H.length + 2) 0).bb (G.length + 1)=true:=by rw [rf];exact decide_eq_true (by omega)
   simp +contextual only [o1,o2,o3,o4,qw,hp1,sZ,Nat.reduceEqDiff,Nat.reduceAdd,Nat.reduceLT,↓reduceIte]
   refine ⟨rfl,by decide,?_⟩
   have hG0:G.take H.length=H:=by
    have:G.take H.length=(G.take (H.length + 3)).take H.length:=by rw [List.take_take];congr 1;omega
    rw [this,hG];simp
   rcases hR with ⟨e1,rfl⟩ | ⟨id,cap,bn,rfl,hg,cr,dP⟩
   ·have e2:ts=[]:=by
     have:=cM ts 0
     have h3:ba ts 0=[]:=acQ.1 e1
     rw [h3] at this
     exact abY.1 this.symm
    subst e2
    refine aG 0 (fun _ _=>True) (fun i (p:Unit)=>[(9,.ptr G.length 0),(10,.ptr (G.length + 1) 0),(11,.ag)]) (fun i p=>G++[.cells [.ptr (H.length + 2) 0],.cells [.ag]]) () ⟨trivial,aD rfl ?_⟩ fun i p hi hI=>?_
    ·rfl
    ·simp +contextual only [sZ,Nat.reduceEqDiff,Nat.reduceAdd,Nat.reduceLT,↓reduceIte,reduceCtorEq,Int.reduceLT]
     exact I7 (n7 []) (by rw [aa1 (by omega)];exact hG0)
   ·have T9:ts≠[]:=fun e=>dP (by rw [e];rfl)
    have afp:id < G.length:=aQ hg
    obtain ⟨c,ec⟩:∃ c,c=iE ps ss ts H.length:=⟨_,rfl⟩
    have hc:c.Ok:=by rw [ec];exact hr.cx T9 (by omega) H.length
    have cO:c.O=gZ ps ss:=by rw [ec];rfl
    have cd:c.d=H.length + 2:=by rw [ec];rfl
    have ce:c.e=H.length:=by rw [ec];rfl
    have cg:c.g=H.length + 1:=by rw [ec];rfl
    have hD0:Du c (G++[.cells [.ptr (H.length + 2) 0],.cells [.a7 id 0 (ba ts 0).length cap]]):=by
     have h1:=AR ps ss T9 H
     rw [← ec,← hG] at h1
     exact Du.um (h1.WV trivial) _
    obtain ⟨k1,k2⟩:=(RU ts).kids
    have abo:(ba ts 0).map c.tm=ts:=by rw [ec];exact k1
    have afq:∀ x∈ba ts 0,c.ew x:=by rw [ec];exact k2
    rw [aw] at *
    have C8:=cM ts 0
    refine aG ts.length (fun j (p:List Int×List T×List aa)=>j + p.1.length=ts.length∧(∀ x∈p.1,c.ew x)∧zB (E2 ps ss) ts.length ts=p.2.1++zB (E2 ps ss) p.1.length (p.1.map c.tm)∧p.2.1.length=j∧Du c p.2.2∧
     p.2.2[G.length]?=some (.cells [.ptr c.d 0])∧p.2.2[G.length + 1]?=some (.cells [.a7 id 0 p.1.length cap])∧p.2.2[id]?=some (bB zI (ints p.1) cap)∧p.2.2.take H.length=H∧p.1.length≤cap∧∀ x∈p.1,c.tm x∈ts)
     (fun i p=>[(9,.ptr G.length 0),(10,.ptr (G.length + 1) 0),(11,uk p.2.1)]) (fun i p=>p.2.2) (ba ts 0,[],G++[.cells [.ptr (H.length + 2) 0],.cells [.a7 id 0 (ba ts 0).length cap]])
     ⟨⟨by simp [C8],afq,by rw [abo,C8];rfl,rfl,hD0,by rw [cd];simp,by simp,by rw [zR afp];exact hg,by rw [aa1 (by omega)];exact hG0,cr,fun x hx=>by rw [← abo];exact agA hx⟩,aD rfl rfl⟩ fun j p hj hI=>?_
    obtain ⟨L,out,F⟩:=p
    obtain ⟨i1,i2,i3,i4,i5,i6,i7,i8,i9,i10,i11⟩:=hI
    simp only at i1 i2 i3 i4 i5 i6 i7 i8 i9 i10 i11
    have JJ:L.length≤1000:=by omega
    by_cases hL:L=[]
    ·have hz:((0:Int) < (L.length:Int))=False:=eq_false (by rw [hL];simp)
     have hun:(uk out).ab.ab=(uk out).ab:=by cases out <;> rfl
     simp +contextual only [i7,hz,decide_false,hun,sZ,Nat.reduceEqDiff,Nat.reduceAdd,Nat.reduceLT,↓reduceIte,reduceCtorEq]
     have e2:zB (E2 ps ss) ts.length ts=out:=by rw [i3,hL];simp [zB]
     rw [e2]
     exact I7 (by rw [hun];exact n7 out) i9
    ·have ox:=agz.2 hL
     have hz:((0:Int) < (L.length:Int))=True:=eq_true (by omega)
     simp +contextual only [i7,hz,decide_true,sZ,Nat.reduceEqDiff,Nat.reduceAdd,Nat.reduceLT,↓reduceIte,reduceCtorEq]
     refine af (TQ (Q:=fun i=>¬ ∃ x∈L,R c.O (c.tm i) (c.tm x)) (SG.len c F) (fun G' eW=>by rw [eW.2.get id (by omega) (by omega),i8]) i10 (by omega) 101 [] [.ptr (G.length + 1) 0,.ptr G.length 0] rfl rfl
      (fun x hx H' hH'=>afk hc (i2 x hx) i2 i10 (by omega) i6 (by omega) (by omega) i7 (by omega) (by omega) i8 (by omega) (by omega) H' hH') ⟨i5,Up.refl c F⟩) ?_
     rintro r F1 ⟨⟨oD,hU1⟩,hq⟩
     have T8:∃ n:Nat,r=.int .i64 n∧n < L.length∧(¬ ∃ x∈L,R c.O (c.tm (L.getD n 0)) (c.tm x))∧∀ j,j < n→∃ x∈L,R c.O (c.tm (L.getD j 0)) (c.tm x):=by
      rcases hq with ⟨_,hq⟩ | ⟨n,h1,h2,h3,h4⟩
      ·exfalso
       obtain ⟨m,hm,h1⟩:=TS (r:=fun a b=>R c.O a b) (fun a=>aae rfl) (fun a b d h h'=>RM h h') (L.map c.tm) (by simpa using hL)
       obtain ⟨x,hx,rfl⟩:=aan.1 hm
       refine hq x hx fun ⟨y,hy,h⟩=>h1 _ (agA hy) h
      ·exact ⟨n,h1,h2,h3,fun j hj=>Classical.not_not.1 (h4 j hj)⟩
     obtain ⟨n,rfl,hn,h1,h2⟩:=T8
     have j7:F1[G.length + 1]?=some (.cells [.a7 id 0 L.length cap]):=by rw [hU1.get _ (by omega) (by omega),i7]
     have j6:F1[G.length]?=some (.cells [.ptr c.d 0]):=by rw [hU1.get _ (by omega) (by omega),i6]
     have j8:F1[id]?=some (bB zI (ints L) cap):=by rw [hU1.get _ (by omega) (by omega),i8]
     have j9:F1.take H.length=H:=by
      refine Eq.trans ?_ i9
      apply acr
      intro k
      rw [aaM,aaM]
      by_cases hk:k < H.length
      ·rw [if_pos hk,if_pos hk];exact hU1.get _ (by omega) (by omega)
      ·rw [if_neg hk,if_neg hk]
     have K7:N7 (E2 ps ss) (L.map c.tm)=n:=by
      refine N8 (by simpa using hn) (fun x hx=>?_) fun j hj=>?_
      ·obtain ⟨y,hy,rfl⟩:=aan.1 hx
       rw [yK hn]
       cases hb:E2 ps ss (c.tm (L.getD n 0)) (c.tm y) with
       | false=>rfl
       | true=>exact absurd ⟨y,hy,by rw [cO];exact iZ.1 hb⟩ h1
      ·obtain ⟨y,hy,h⟩:=h2 j hj
       rw [yK (by omega)]
       exact ⟨_,agA hy,iZ.2 (by rw [← cO];exact h)⟩
     have hxN:=i2 _ (aV hn)
     have jQ:c.nd.length≤2000000:=by
      have:c.nd=dh ts 0:=by rw [ec];rfl
      rw [this,iW];omega
     simp +contextual only [j7,j6,j8,oD.d,nT,fN0,cN,l9,IS hn,sZ,Nat.reduceEqDiff,Nat.reduceAdd,Nat.reduceLT,↓reduceIte,reduceCtorEq]
     have htree:=hr.tree _ (i11 _ (aV hn))
     have hwx:wt (c.tm (L.getD n 0))≤2000:=by
      have:=((T.dg _).1 htree).1;have:=NF (c.tm (L.getD n 0));omega
     have abp:Pure Tryz.prog 104 [(c.nd.getD (L.getD n 0).toNat default).fst.av] (c.tm (L.getD n 0)).av:=afo _ (c.tm (L.getD n 0)) (tv _) (by omega)
     have NE:=abn hn i10 (by omega) j8
     have iq:(L.eraseIdx n).length=L.length - 1:=List.length_eraseIdx_of_lt hn
     refine ⟨hn,hxN,ae abp ?_,ae abp ?_⟩
     all_goals
      simp +contextual only [RE,KC,j7,sZ,Nat.reduceEqDiff,Nat.reduceAdd,Nat.reduceLT,↓reduceIte,reduceCtorEq]
      refine ⟨by omega,?_⟩
      rw [dk _ (by omega)]
      refine af NE ?_
      rintro r F2 ⟨rfl,rfl⟩
      have m7:(F1.set id (bB zI (ints (L.eraseIdx n)) cap))[G.length + 1]?=some (.cells [.a7 id 0 L.length cap]):=by rw [zS (by omega)];exact j7
      have mV:(AV.a7 id 0 (L.eraseIdx n).length cap).bb (G.length + 1 + 1)=true:=by rw [fL];exact decide_eq_true (by omega)
      have r1:∀ l,(AV.a7 id 0 l cap).one=true∧(AV.a7 id 0 l cap).val=true∧(AV.a7 id 0 l cap).ab=.a7 id 0 l cap∧(AV.a7 id 0 l cap).cells=[.a7 id 0 l cap]:=fun _=>⟨rfl,rfl,rfl,rfl⟩
      obtain ⟨u1,u2,u3,u4⟩:=r1 (L.eraseIdx n).length
      simp +contextual only [m7,mV,u1,u2,u3,u4,sZ,Nat.reduceEqDiff,Nat.reduceAdd,↓reduceIte]
      refine ⟨j + 1,(L.eraseIdx n,out++[c.tm (L.getD n 0)],_),⟨by omega,by show j + 1 + (L.eraseIdx n).length=_;omega,fun x hx=>i2 x (adj hx),?_,by simp [i4],?_,?_,?_,?_,?_,by show (L.eraseIdx n).length≤cap;omega,fun x hx=>i11 x (adj hx)⟩,by omega,aD rfl rfl⟩
      ·have hs:L.length=(L.eraseIdx n).length + 1:=by omega
       rw [i3,hs,zB,K7,yK hn,aa6]
       have em:(L.map c.tm).eraseIdx n=(L.eraseIdx n).map c.tm:=by rw [adb,adb,acG,List.map_take,List.map_drop]
       rw [em];rfl
      ·exact (oD.set (by omega) (by omega) (by omega)).set (by omega) (by omega) (by omega)
      ·rw [zS (by omega),zS (by omega)];exact j6
      ·rw [aai (by have:=aQ j7;simp;omega)]
      ·rw [zS (by omega),aai (aQ j8)]
      ·rw [ace (by omega),ace (by omega)];exact j9
 ·have e:zP s ps ss ts=([],jt s ps ss ts):=by unfold zP;rw [if_neg h0]
  rw [e]
  simp +contextual only [h0,sZ,Nat.reduceEqDiff,↓reduceIte,reduceCtorEq]
  exact I7 (n7 []) abe
end Go.aI
end
section
set_option maxRecDepth 1000000
namespace Go.aI
open Go Go.Proofs Go.dV
def vT (n:Int):T:=.mk 1 n []
def oT (n:Int) (l:List T):T:=.mk 2 n l
def gG:Sg:=⟨[⟨#[78]⟩],[⟨⟨#[122]⟩,[],0⟩,⟨⟨#[115]⟩,[0],0⟩,⟨⟨#[97,100,100]⟩,[0,0],0⟩]⟩
def abq:ju:=⟨[0],[],oT 2 [vT 0,oT 0 []],vT 0⟩
def cF:ju:=⟨[0,0],[],oT 2 [vT 0,oT 1 [vT 1]],oT 1 [oT 2 [vT 0,vT 1]]⟩
def db:Ty:=⟨gG,[abq,cF]⟩
theorem Sa:qH Tryz.prog UA (dK Tryz.prog UA 100000) false 64 [] []=some (db.av,[]):=by kernel_rfl
theorem CU:qH Tryz.prog UA (dK Tryz.prog UA 100000) false 62 [db.av] []=some (.int .i64 0,[]):=by kernel_rfl
theorem HE:qH Tryz.prog UA (dK Tryz.prog UA 100000) false 92 [db.av] []=some (.aj 0 (ints [0,1,2]),[]):=by kernel_rfl
theorem c64:Pure Tryz.prog 64 [] db.av:=Pure.mk rfl ((wE ua (B1 ua 100000)).1 _ _ _ _ _ Sa)
theorem CV:Pure Tryz.prog 62 [db.av] (.int .i64 0):=Pure.mk rfl ((wE ua (B1 ua 100000)).1 _ _ _ _ _ CU)
theorem WW:Pure Tryz.prog 92 [db.av] (.aj 0 (ints [0,1,2])):=Pure.mk rfl ((wE ua (B1 ua 100000)).1 _ _ _ _ _ HE)
end Go.aI
end
section
set_option maxRecDepth 100000
namespace Go.aI
open Go Go.Proofs Go.dV
theorem c66 {a b:List Int} {va vb:AV} (ha:IL va a) (hb:IL vb b) (la:a.length≤1000000000) (lb:b.length≤1000000000):Pure Tryz.prog 66 [va,vb] (.bool (decide (a=b))):=by
 refine fun H=>k66.2.calls rfl ?_
 simp only [k66,aH]
 obtain ⟨a1,a2,a3,a4⟩:=ha.one
 obtain ⟨b1,b2,b3,b4⟩:=hb.one
 simp +contextual only [a2,b2,ha.aO,hb.aO,ha.len (by omega),hb.len (by omega),sZ,Nat.reduceEqDiff,Nat.reduceAdd,↓reduceIte,reduceCtorEq]
 refine ⟨fun dP=>aM rfl (by rw [decide_eq_false (fun e=>dP (by rw [e]))]),fun heq=>?_⟩
 refine ay a.length (fun i=>∀ j,j < i→a.getD j 0=b.getD j 0)
  (fun i=>[(0,va),(1,vb),(12,.int .i64 b.length),(13,.int .i64 i)]) (fun i=>H) ⟨fun j hj=>by omega,aA _ _ _⟩ fun i hi hI=>?_
 simp +contextual only [a2,b2,ha.lens,hb.lens,ha.idx,hb.idx,zV,sZ,Nat.reduceEqDiff,↓reduceIte,reduceCtorEq]
 refine ⟨fun aP=>⟨by omega,by omega,fun dP=>?_,fun he=>?_⟩,fun iq=>?_⟩
 ·refine aM rfl (by rw [decide_eq_false (fun e=>dP (by rw [e]))])
 ·refine ⟨i + 1,⟨by omega,fun j hj=>?_⟩,by omega,aD (by rw [aq i (by omega)]) rfl⟩
  by_cases h:j=i
  ·subst h;exact he
  ·exact hI j (by omega)
 ·refine aM rfl (by rw [decide_eq_true (AP (by omega) fun j hj=>hI j (by omega))])
noncomputable def oG (e:Int) (t:Ty) (ps ss:List Int):Int×Bool×Int:=
 if e≠0 then (0,false,e) else if jr t.s ps ss≠0 then (0,false,jr t.s ps ss) else (max (iC t ps ss) 0,decide (0≤iC t ps ss),0)
def Fl (p:Int×Bool×Int):AV:=.tuple [.int .i64 p.1,.bool p.2.1,.int .i64 p.2.2]
theorem c31 {t:Ty} {e:Int} (h62:Pure Tryz.prog 62 [t.av] (.int .i64 e)) (ht:e=0→zM t) (ps ss:List Int):Pure Tryz.prog 31 [t.av,eN ps ss] (Fl (oG e t ps ss)):=by
 refine fun H=>k31.2.calls rfl ?_
 simp only [k31,aH]
 obtain ⟨q1,q2,q3,q4,q5,q6⟩:=aX ps ss
 obtain ⟨e1,e2,e3,e4,e5,e6⟩:=Ty.facts t
 simp +contextual only [q1,e1,e4,fw,sZ,Nat.reduceEqDiff,Nat.reduceAdd,↓reduceIte,reduceCtorEq]
 refine ae h62 ?_
 by_cases h0:e=0
 ·subst h0
  simp +contextual only [aB,q4,b7,Dc,sZ,Nat.reduceEqDiff,Nat.reduceAdd,↓reduceIte]
  refine ae (c24 t.s ps ss) ?_
  by_cases h1:jr t.s ps ss=0
  ·have hv:=(sX.1 h1).2
   simp +contextual only [h1,q4,e4,b7,fw,sZ,Nat.reduceEqDiff,Nat.reduceAdd,↓reduceIte]
   refine ae (c89 t ps ss hv.va fun q hq=>(ht rfl).eq q hq ps hv.1) ?_
   simp +contextual only [sZ,Nat.reduceEqDiff,↓reduceIte,reduceCtorEq]
   have e0:oG 0 t ps ss=(max (iC t ps ss) 0,decide (0≤iC t ps ss),0):=by unfold oG;rw [if_neg (by simp),if_neg (by simp [h1])]
   rw [e0]
   exact yh (by decide) abe ⟨rfl,rfl,rfl⟩ rfl rfl rfl ⟨rfl,rfl⟩
  ·have e0:oG 0 t ps ss=(0,false,jr t.s ps ss):=by unfold oG;rw [if_neg (by simp),if_pos h1]
   rw [e0]
   simp +contextual only [h1,sZ,Nat.reduceEqDiff,↓reduceIte,reduceCtorEq]
   exact yh (by decide) abe ⟨rfl,rfl,rfl⟩ rfl rfl rfl ⟨rfl,rfl⟩
 ·have e0:oG e t ps ss=(0,false,e):=by unfold oG;rw [if_pos h0]
  rw [e0]
  simp +contextual only [h0,sZ,Nat.reduceEqDiff,↓reduceIte,reduceCtorEq]
  exact yh (by decide) abe ⟨rfl,rfl,rfl⟩ rfl rfl rfl ⟨rfl,rfl⟩
noncomputable def HF (e:Int) (t:Ty) (ps ss:List Int):Int:=if (oG e t ps ss).2.2=0∧(oG e t ps ss).2.1=true then 60 else (oG e t ps ss).2.2
theorem n8 (p:Int×Bool×Int) (φ:AV→Prop):bK (Fl p) 0 φ=φ (.int .i64 p.1)∧bK (Fl p) 1 φ=φ (.bool p.2.1)∧bK (Fl p) 2 φ=φ (.int .i64 p.2.2):=by simp [Fl,bK,pg,pS]
theorem wP (p:Int×Bool×Int):(Fl p).ab=Fl p:=rfl
theorem c33 {t:Ty} {e:Int} (h62:Pure Tryz.prog 62 [t.av] (.int .i64 e)) (ht:e=0→zM t) (ps ss:List Int):Pure Tryz.prog 33 [t.av,eN ps ss] (.int .i64 (HF e t ps ss)):=by
 refine fun H=>k33.2.calls rfl ?_
 simp only [k33,aH]
 obtain ⟨q1,q2,q3,q4,q5,q6⟩:=aX ps ss
 obtain ⟨e1,e2,e3,e4,e5,e6⟩:=Ty.facts t
 simp +contextual only [q1,q4,e1,e4,b7,fw,sZ,Nat.reduceEqDiff,Nat.reduceAdd,↓reduceIte,reduceCtorEq]
 refine ae (c31 h62 ht ps ss) ?_
 unfold HF
 generalize oG e t ps ss=p
 have x1:=fun φ=>(n8 p φ).1
 have x2:=fun φ=>(n8 p φ).2.1
 have x3:=fun φ=>(n8 p φ).2.2
 obtain ⟨n,b,m⟩:=p
 simp only at x1 x2 x3
 by_cases h0:m=0
 ·subst h0
  cases b <;>
  simp +contextual only [x1,x2,x3,wP,sZ,Nat.reduceEqDiff,↓reduceIte,reduceCtorEq] <;>
  exact aM rfl rfl
 ·have hm:(m=0)=False:=eq_false h0
  simp +contextual only [x1,x2,x3,wP,hm,decide_false,sZ,Nat.reduceEqDiff,↓reduceIte,reduceCtorEq]
  exact aM rfl (by simp [h0])
theorem N9 {H e:List aa} {u v w x y z:AV} (hb:x.bb H.length=true∧y.bb H.length=true∧z.bb H.length=true) (hx:u.ab=x) (hy:v.ab=y) (hz:w.ab=z):vD H.length [u,v,w] (H++e) fun r H'=>r=.tuple [x,y,z]∧H'=H:=by
 subst hx;subst hy;subst hz
 exact ⟨H.length,tv _,_,bZ _,by show al _ [u.ab,v.ab,w.ab]=true;rw [bN,bN,bN,da,hb.1,hb.2.1,hb.2.2];rfl,rfl,by simp⟩
theorem KV (f:Fo):∃ P S,foA f=eN P S:=by
 cases f with
 | none=>exact ⟨_,_,rfl⟩
 | some p=>exact ⟨_,_,rfl⟩
noncomputable def Ob (e:Int) (t:Ty) (ops:List Int):Fo×Int:=if e≠0 then (none,e) else if 4 < ops.length then (none,2) else (zL t ops,0)
theorem c35 {t:Ty} {e:Int} {ops:List Int} (h62:Pure Tryz.prog 62 [t.av] (.int .i64 e)) (h92:e=0→Pure Tryz.prog 92 [t.av] (.aj 0 (ints ops))) (ht:e=0→zM t) (hr:e=0→∀ i∈ops,0≤i∧i < t.s.ops.length) (hl:ops.length≤1000000) :
 Pure Tryz.prog 35 [t.av] (.tuple [foA (Ob e t ops).1,.bool (Ob e t ops).1.isSome,.int .i64 (Ob e t ops).2]):=by
 refine fun H=>k35.2.calls rfl ?_
 simp only [k35,aH]
 obtain ⟨e1,e2,e3,e4,e5,e6⟩:=Ty.facts t
 have zf2:List.map AV.ab [AV.ag,.ag]=[.ag,.ag]:=rfl
 have zb2:∀ n,al n [AV.ag,.ag]=true:=fun _=>rfl
 simp +contextual only [e1,e4,fw,zf2,zb2,sZ,Nat.reduceEqDiff,Nat.reduceAdd,↓reduceIte]
 refine ae h62 ?_
 have gz:(H++[aa.cells [AV.ag,.ag]])[H.length]?=some (.cells [.ag,.ag]):=by simp
 by_cases h0:e=0
 ·subst h0
  simp +contextual only [e4,fw,sZ,Nat.reduceEqDiff,Nat.reduceAdd,↓reduceIte]
  refine ae (h92 rfl) ?_
  by_cases h4:4 < ops.length
  ·have h4':((4:Int) < ops.length)=True:=eq_true (by omega)
   have e0:Ob 0 t ops=(none,2):=by unfold Ob;rw [if_neg (by simp),if_pos h4]
   rw [e0]
   have sp2:∀ (a b x y:AV),ah [a,b] 0 [x,y]=[x,y]:=fun _ _ _ _=>rfl
   simp +contextual only [zf2,zb2,aw,h4',decide_true,gz,mR,sp2,sZ,Nat.reduceEqDiff,Nat.reduceAdd,↓reduceIte,reduceCtorEq]
   exact fun _=>N9 ⟨rfl,rfl,rfl⟩ rfl rfl rfl
  ·have h4':((4:Int) < ops.length)=False:=eq_false (by omega)
   have e0:Ob 0 t ops=(zL t ops,0):=by unfold Ob;rw [if_neg (by simp),if_neg h4]
   rw [e0]
   simp +contextual only [e4,fw,aw,h4',decide_false,sZ,Nat.reduceEqDiff,Nat.reduceAdd,↓reduceIte]
   intro hl9
   refine ae (c93 (ht rfl) (.inr rfl) (hr rfl) hl) ?_
   generalize zL t ops=f
   obtain ⟨P,S,ef⟩:=KV f
   obtain ⟨q1,q2,q3,q4,q5,q6⟩:=aX P S
   rw [ef]
   have zo:(eN P S).cells=[.aj 0 (ints P),.aj 0 (ints S)]:=rfl
   have sp2:∀ (a b x y:AV),ah [a,b] 0 [x,y]=[x,y]:=fun _ _ _ _=>rfl
   simp +contextual only [gz,q1,q4,mR,zo,sp2,b7,aT,sZ,Nat.reduceEqDiff,Nat.reduceAdd,Nat.reduceLT,↓reduceIte,reduceCtorEq]
   exact N9 ⟨q6 _,rfl,rfl⟩ rfl rfl rfl
 ·have hm:(e=0)=False:=eq_false h0
  have e0:Ob e t ops=(none,e):=by unfold Ob;rw [if_pos h0]
  rw [e0]
  have sp2:∀ (a b x y:AV),ah [a,b] 0 [x,y]=[x,y]:=fun _ _ _ _=>rfl
  simp +contextual only [zf2,zb2,hm,gz,mR,sp2,sZ,Nat.reduceEqDiff,Nat.reduceAdd,↓reduceIte,reduceCtorEq]
  exact N9 ⟨rfl,rfl,rfl⟩ rfl rfl rfl
end Go.aI
end
section
namespace Go.aI
open Go Go.Proofs Go.dV
end Go.aI
end
section
namespace Go.dV
open Go.aI
def TT {G:T→T→Prop} [h:∀ x y,Decidable (G x y)]:∀ l m,Decidable (Lx G l m)
 | [],_=>isFalse (fun h=>h)
 | _::_,[]=>isTrue trivial
 | x::l,y::m=>@instDecidableOr _ _ (@instDecidableAnd _ _ inferInstance (TT l m)) (h x y)
def abt {G:T→T→Prop} [h:∀ x y,Decidable (G x y)] (l m:List T):Decidable (Mu G l m):=by unfold Mu;exact inferInstance
def abu {sp:Int→Int} {G:T→T→Prop} [h:∀ x y,Decidable (G x y)] (a b:T):Decidable (Fm sp G a b):=by
 unfold Fm
 have:=@TT G h
 have:=@abt G h
 exact inferInstance
def Oe (sp:Int→Int):∀ (f:Nat) (a b:T),Decidable (O7 sp f a b)
 | 0,_,_=>isFalse (fun h=>h)
 | f + 1,a,b=>@abu sp (O7 sp f) (Oe sp f) a b
instance abv (sp:Int→Int) (a b:T):Decidable (Gt sp a b):=Oe sp (wt a + wt b) a b
instance abw (O:Od) (a b:T):Decidable (R O a b):=abv O.sp (norm O a) (norm O b)
instance abx (O:Od) (a b:T):Decidable (E O a b):=inferInstanceAs (Decidable (norm O a=norm O b))
end Go.dV
end
section
namespace Go.aI
open Go Go.Proofs Go.dV
mutual
def Fp (n:Nat):T→Bool
 | .mk k m l=>(!decide (k=2) || (decide (0≤m) && decide (m < n))) && CW n l
def CW (n:Nat):List T→Bool
 | []=>true
 | x::r=>Fp n x && CW n r
end
mutual
theorem I8 {n:Nat}:∀ {t:T},Fp n t=true→v9 (fun m=>0≤m∧m < n) t
 | .mk k m l,h=>by
   simp only [Fp,zU,acA,abX,decide_eq_false_iff_not,decide_eq_true_eq] at h
   exact .mk k m l (fun hk=>h.1.resolve_left fun hn=>hn hk) (Fq h.2)
theorem Fq {n:Nat}:∀ {l:List T},CW n l=true→∀ x∈l,v9 (fun m=>0≤m∧m < n) x
 | [],_=>fun x hx=>by cases hx
 | y::r,h=>by
   simp only [CW,zU] at h
   have h1:=I8 h.1
   have h2:=Fq h.2
   intro x hx
   rcases Xi.1 hx with rfl | hx
   ·exact h1
   ·exact h2 x hx
end
def Ft (ps ss:List Int) (a b:T):Bool:=match abw (gZ ps ss) a b with | .isTrue _=>true | .isFalse _=>false
theorem CX {ps ss:List Int} {a b:T}:Ft ps ss a b=true↔R (gZ ps ss) a b:=by
 unfold Ft
 cases abw (gZ ps ss) a b with
 | isTrue h=>simp [h]
 | isFalse h=>simp [h]
end Go.aI
end
section
set_option maxRecDepth 1000000
namespace Go.aI
open Go Go.Proofs Go.dV
theorem CY (ps ss:List Int) (a b:T):E2 ps ss a b=Ft ps ss a b:=by rw [acw,iZ,CX]
def I9 (ps ss:List Int) (a b:T):Bool:=match abx (gZ ps ss) a b with | .isTrue _=>true | .isFalse _=>false
theorem Ja (ps ss:List Int) (a b:T):eqB ps ss a b=I9 ps ss a b:=by
 rw [acw,IY]
 unfold I9
 cases abx (gZ ps ss) a b with
 | isTrue h=>simp [h]
 | isFalse h=>simp [h]
def WX (s:Sg) (ps ss:List Int):Bool:=decide (ps.length=s.ops.length) && (decide (ss.length=s.ops.length) && ((List.range ps.length).all (fun j=>decide (0≤ps.getD j 0∧ps.getD j 0≤255∧1≤ss.getD j 0∧ss.getD j 0≤3)) && (List.range ps.length).all fun j=>(List.range ps.length).all fun k=>!decide (ps.getD j 0=ps.getD k 0) || decide (ss.getD j 0=ss.getD k 0)))
theorem Of {s:Sg} {ps ss:List Int}:WX s ps ss=true↔jk s ps ss:=by
 simp only [WX,zU,decide_eq_true_eq,aaO,acf,acA,abX,decide_eq_false_iff_not]
 constructor
 ·rintro ⟨h1,h2,h3,h4⟩
  exact ⟨h1,h2,h3,fun j k hj hk he=>(h4 j hj k hk).resolve_left fun hn=>hn he⟩
 ·rintro ⟨h1,h2,h3,h4⟩
  refine ⟨h1,h2,h3,fun j hj k hk=>?_⟩
  by_cases h:ps.getD j 0=ps.getD k 0
  ·exact .inr (h4 j k hj hk h)
  ·exact .inl h
def yL (s:Sg) (ps ss:List Int):Int:=if jL s=true then (if WX s ps ss=true then 0 else 60) else 40
theorem td (s:Sg) (ps ss:List Int):jr s ps ss=yL s ps ss:=by
 unfold jr yL
 by_cases h:jk s ps ss
 ·rw [if_pos h,if_pos (Of.2 h)]
 ·rw [if_neg h,if_neg (fun k=>h (Of.1 k))]
def yM (s:Sg) (ps ss:List Int) (l:List T):Int:=if yL s ps ss=0 then (if (l.all fun t=>t.tree && E1 s t)=true then 0 else 4) else yL s ps ss
theorem jP (s:Sg) (ps ss:List Int) (l:List T):jt s ps ss l=yM s ps ss l:=by unfold jt yM;rw [td]
def Og (ps ss:List Int) (e:ju):Bool:=e.rest.all fun y=>Ft ps ss e.a y
theorem Oh (ps ss:List Int) (e:ju):oF ps ss e=Og ps ss e:=by
 rw [acw]
 simp only [oF,CE,Og,aaO,CX]
 exact @decide_eq_true_iff _ (Classical.propDecidable _)
def yN (t:Ty) (ps ss:List Int):Int:=mS (fun e=>!Og ps ss e) t.es 0
theorem uG (t:Ty) (ps ss:List Int):iC t ps ss=yN t ps ss:=by
 unfold iC yN
 congr 1
 funext e
 rw [Oh]
def HG (t:Ty) (ops pl st:List Int):Bool:=decide (yL t.s (rD t.s.ops.length ops pl) (uE t.s.ops.length ops st)=0) && decide (yN t (rD t.s.ops.length ops pl) (uE t.s.ops.length ops st) < 0)
theorem KW (t:Ty) (ops pl st:List Int):yF t ops pl st=HG t ops pl st:=by
 unfold yF HG
 rw [td,uG,acw]
 simp
def HH (t:Ty) (ops pl:List Int) (s:Fo) (st:List Int):Fo×Bool:=if HG t ops pl st=true then (some (rD t.s.ops.length ops pl,uE t.s.ops.length ops st),false) else (s,true)
def HI (t:Ty) (ops:List Int) (s:Fo) (pl:List Int):Fo×Bool:=if pA pl=true then fz (HH t ops pl) (jy (dB 1 3) ops.length) s else (s,true)
def Oi (t:Ty) (ops:List Int):Fo:=(fz (HI t ops) (jy (dB 0 ops.length) ops.length) none).1
theorem Oj (t:Ty) (ops:List Int):zL t ops=Oi t ops:=by
 have h1:dL t ops=HH t ops:=by funext pl s st;unfold dL HH;rw [KW]
 have h2:fO t ops=HI t ops:=by funext s pl;unfold fO HI;rw [h1]
 unfold zL Oi;rw [h2]
def gH:List Int:=[0,0,1]
def oE:List Int:=[1,1,1]
def stM:List Int:=[1,1,3]
def Fu:List Int:=[0,0,0]
theorem WY:yM gG gH oE [cF.a,cF.b]=0:=by kernel_rfl
theorem aby:yM gG gH oE [cF.b,cF.a]=0:=by kernel_rfl
theorem gr1:Ft gH oE cF.a cF.b=true:=by kernel_rfl
theorem gr2:Ft gH oE cF.b cF.a=false:=by kernel_rfl
theorem afu:yM gG gH stM [oT 2 [vT 0,vT 1],oT 2 [vT 1,vT 0]]=0:=by kernel_rfl
theorem afv:yM gG gH oE [oT 2 [vT 0,vT 1],oT 2 [vT 1,vT 0]]=0:=by kernel_rfl
theorem eq1:I9 gH stM (oT 2 [vT 0,vT 1]) (oT 2 [vT 1,vT 0])=true:=by kernel_rfl
theorem eq2:I9 gH oE (oT 2 [vT 0,vT 1]) (oT 2 [vT 1,vT 0])=false:=by kernel_rfl
theorem afw:yL gG gH oE=0:=by kernel_rfl
theorem afx:yL gG Fu oE=0:=by kernel_rfl
theorem abz:yN db gH oE=-1:=by kernel_rfl
theorem abA:yN db Fu oE=1:=by kernel_rfl
theorem afy:Oi db [0,1,2]=some (gH,oE):=by kernel_rfl
def A8:List T:=[oT 1 [oT 0 []],vT 0,oT 0 [],oT 2 [oT 0 [],oT 0 []]]
theorem afz:yM gG gH oE A8=0:=by kernel_rfl
theorem afA:zB (Ft gH oE) 4 A8=[vT 0,oT 0 [],oT 1 [oT 0 []],oT 2 [oT 0 [],oT 0 []]]:=by kernel_rfl
theorem tf:zM db:=by
 refine ⟨by decide,fun e he ps hp=>?_⟩
 have hp3:ps.length=3:=hp
 have key:∀ e∈db.es,e.cs.length≤1000∧(∀ t∈e.a::e.rest,t.tree=true)∧∀ t∈e.a::e.rest,Fp 3 t=true:=by
  intro e he
  have h:(db.es.all fun e=>decide (e.cs.length≤1000) && ((e.a::e.rest).all (fun t=>t.tree) && (e.a::e.rest).all fun t=>Fp 3 t))=true:=by kernel_rfl
  have:=aaO.1 h e he
  simp only [zU,decide_eq_true_eq,aaO] at this
  exact this
 obtain ⟨k1,k2,k3⟩:=key e he
 exact ⟨k1,k2,fun t ht=>by rw [hp3];exact I8 (k3 t ht)⟩
end Go.aI
end
