/- Part 16 of 19 of the proof. -/
import Derived.Test.YtljchnfgjdjobaaGreatYao
import Derived.Test.YtljchnfgjdjobaaGreatYag
import Derived.KernelRfl
import Derived.Test.YtljchnfgjdjobaaGreatYam
import Derived.Test.YtljchnfgjdjobaaGreatYai
import Derived.Test.YtljchnfgjdjobaaGreatYah
import Derived.Test.YtljchnfgjdjobaaGreatYak
set_option linter.unusedVariables false
set_option linter.unusedSimpArgs false
set_option linter.defProp false
set_option linter.unusedSectionVars false
section
set_option maxRecDepth 100000
namespace Go.aJ
open Go Go.Proofs Go.eN
theorem ysI {t:Ty} (ht:yk t) {ops:List Int} {vo:AV} (ho:IL vo ops) (hr:∀ i∈ops,0≤i∧i < t.s.ops.length) (jO:ops.length≤1000000) {pl:List Int} (uN:pl.length=ops.length) (H W:List aa) (es:List AV) (Ab:es=kS 41 [(2,.aj t.av),(3,.aj vo),(4,.ptr H.length 0),(5,.ptr (H.length + 1) 0),(6,.aj (bo pl)),(21,.fn (.func 205) [] [.aj (.int .i64 ops.length),.aj (.int .i64 1),.aj (.int .i64 3)])]) :
 YS ops.length (cM 1 ((3:Int) + 1 - 1).toNat) (H.length + 2 + W.length) (fun s:Fo=>fx H W s++[.loop (ja s) bC es]) (fun s=>s=none) (c8 t ops pl):=by
 refine ⟨fun l s X hl _ hs=>?_,fun l s hs bP=>?_,fun s s'=>?_⟩
 ·subst hs
  have:=Ma ht ho hr jO uN H W es Ab l hl X _ rfl
  have el:ja none=.ready:=rfl
  refine fE.mono (by simpa [el,jS] using this) fun r H' h=>?_
  refine ⟨h.1,?_⟩
  rw [h.2];simp
 ·subst hs
  unfold c8 at *
  split at bP
  ·cases bP
  ·rename_i h;rw [if_neg h]
 ·simp [eY]
theorem Mb {vals:List Int}:∀ {n:Nat} {l:List Int},l∈eZ vals n→l.length=n∧∀ x∈l,x∈vals
 | 0,l,h=>by
   simp only [eZ,UQ,aaY,or_false] at h
   subst h;exact ⟨rfl,fun x hx=>by cases hx⟩
 | n + 1,l,h=>by
   simp only [eZ,adh,aag] at h
   obtain ⟨x,hx,y,hy,rfl⟩:=h
   obtain ⟨h1,h2⟩:=Mb hy
   exact ⟨by simp [h1],fun z hz=>by
    rcases UQ.1 hz with rfl | hz
    ·exact hx
    ·exact h2 z hz⟩
theorem Mc {t:Ty} (ht:yk t) {ops:List Int} {vo:AV} (ho:IL vo ops) (hr:∀ i∈ops,0≤i∧i < t.s.ops.length) (jO:ops.length≤1000000) (H:List aa) (es:List AV) (Ab:es=kS 41 [(2,.aj t.av),(3,.aj vo),(4,.ptr H.length 0),(5,.ptr (H.length + 1) 0),(14,.fn (.func 205) [] [.aj (.int .i64 ops.length),.aj (.int .i64 0),.aj (.int .i64 ((ops.length:Int) - 1))])])
 (pl:List Int) (uN:pl.length=ops.length) (k7:∀ x∈pl,x≤1000000) (Y:List aa) :
 jS Tryz.prog (H.length + 2) [bo pl] (fx H [] none++.loop .ready ba es::Y) fun r H'=>r=.bool (eo t ops none pl).2∧H'=fx H [] (eo t ops none pl).1++.loop (ja (eo t ops none pl).1) ba es::Y:=by
 have ees:es=[.any,.any,.aj t.av,.aj vo,.ptr H.length 0,.ptr (H.length + 1) 0,.any,.any,.any,.any,.any,.any,.any,.any,.fn (.func 205) [] [.aj (.int .i64 ops.length),.aj (.int .i64 0),.aj (.int .i64 ((ops.length:Int) - 1))],.any,.any,.any,.any,.any,.any,.any,.any,.any,.any,.any,.any,.any,.any,.any,.any,.any,.any,.any,.any,.any,.any,.any,.any,.any,.any]:=by rw [Ab];rfl
 have hk:∀ s,(fx H [] s).length=H.length + 2:=fun s=>by rw [eY];rfl
 have e0:∀ s st Y,(fx H [] s++aa.loop st ba es::Y)[H.length + 2]?=some (.loop st ba es):=fun s st Y=>vw _ _ _ _ (hk s)
 have gJ:∀ s st st' Y,(fx H [] s++aa.loop st ba es::Y).set (H.length + 2) (.loop st' ba es)=fx H [] s++aa.loop st' ba es::Y:=fun s st st' Y=>vx _ _ _ _ _ (hk s)
 refine oN (lc:=ba) (es:=es) (e0 none .ready Y) R9 Sa ⟨by rw [ees,By];rfl,by rw [xq];rfl,by rw [xq,By];rfl,?_,?_⟩ (xm ?_)
 ·rw [ees];intro x hx;simp only [UQ,aaY,or_false] at hx
  repeat' (first | (rcases hx with hx | hx;· subst hx;rfl) | (subst hx;rfl))
 ·intro x hx;simp only [UQ,aaY,or_false] at hx;subst hx;exact (aG pl).2.1
 ·have ez:(ba.ps.zip [bo pl]).reverse++b8 0 es=(15,bo pl)::b8 0 es:=by rw [xq];rfl
  rw [ez]
  generalize yl:b8 0 es=ea
  have g2:get ea 2=.aj t.av:=by rw [← yl,ees];rfl
  have g3:get ea 3=.aj vo:=by rw [← yl,ees];rfl
  have g4:get ea 4=.ptr H.length 0:=by rw [← yl,ees];rfl
  have g5:get ea 5=.ptr (H.length + 1) 0:=by rw [← yl,ees];rfl
  simp only [Kn,Ko]
  have hb:∀ K,jZ (H.length + 2) (fx H [] none++.loop .ready ba es::Y) K=K (fx H [] none++.loop .busy ba es::Y):=fun K=>by rw [tv (e0 none .ready Y),gJ]
  obtain ⟨a1,a2,a3,a4⟩:=ho.one
  obtain ⟨b1,b2,b3,b4,b5⟩:=aG pl
  have lvo:∀ (H:List aa) (φ:AV→Prop),aV none (.aj vo) H φ=φ vo:=fun H φ=>by simp [aV,a1,a2]
  have ip:IL (bo pl) pl:=.inl rfl
  have hlen:(fx H [] none++.loop .ready ba es::Y).length=H.length + 2 + (Y.length + 1):=by rw [aab,hk];rfl
  have endN:∀ n0 Z,n0=H.length + 2 + (Y.length + 1)→eo t ops none pl=(none,true)→qP n0 (H.length + 2) (fun r H'=>r=.bool (eo t ops none pl).2∧H'=fx H [] (eo t ops none pl).1++.loop (ja (eo t ops none pl).1) ba es::Y) .normal (fx H [] none++.loop .busy ba es::(Y++Z)):=by
   intro n0 Z Nm bP
   rw [FX (e0 none .busy _),gJ,bP]
   refine ⟨by rw [aab,hk];simp;omega,rfl,?_⟩
   rw [Nm,← hlen,show fx H [] none++aa.loop .ready ba es::(Y++Z)=(fx H [] none++aa.loop .ready ba es::Y)++Z by simp,adn]
   rfl
  have endR:∀ n0 Z s,n0=H.length + 2 + (Y.length + 1)→eo t ops none pl=(s,false)→s.isSome=true→qP n0 (H.length + 2) (fun r H'=>r=.bool (eo t ops none pl).2∧H'=fx H [] (eo t ops none pl).1++.loop (ja (eo t ops none pl).1) ba es::Y) .ret (fx H [] s++.loop .busy ba es::(Y++Z)):=by
   intro n0 Z s Nm bP hs
   have hlen2:(fx H [] s++.loop (.jump .ret) ba es::Y).length=H.length + 2 + (Y.length + 1):=by rw [aab,hk];rfl
   rw [L8 (e0 _ .busy _),gJ,bP]
   refine ⟨by rw [aab,hk];simp;omega,rfl,?_⟩
   rw [Nm,← hlen2,show fx H [] s++aa.loop (.jump .ret) ba es::(Y++Z)=(fx H [] s++aa.loop (.jump .ret) ba es::Y)++Z by simp,adn]
   have:ja s=.jump .ret:=if_pos hs
   rw [this]
  simp +contextual only [g2,g3,g4,g5,hb,bY,b1,b2,b4,b5,sZ,Nat.reduceEqDiff,Nat.reduceAdd,↓reduceIte]
  refine af (ab6 pl ip (by omega) k7) ?_
  cases hd:jt pl with
  | false=>
    have bP:eo t ops none pl=(none,true):=by rw [eo,if_neg (by rw [hd];simp)]
    simp +contextual only [Bool.not_false,sZ,Nat.reduceEqDiff,↓reduceIte]
    have:=endN ((fx H [] none).length + (Y.length + 1)) [] (by rw [hk]) bP
    rwa [abX] at this
  | true=>
    have bP:eo t ops none pl=dJ (c8 t ops pl) (eZ (cM 1 3) ops.length) none:=by rw [eo,if_pos hd]
    simp +contextual only [Bool.not_true,lvo,ho.aN,ho.len (by omega),sZ,Nat.reduceEqDiff,Nat.reduceAdd,↓reduceIte]
    refine af (Yx ops.length 1 3) ?_
    simp +contextual only [mG,sZ,Nat.reduceEqDiff,↓reduceIte]
    obtain ⟨W,hW⟩:∃ W,W=aa.loop .busy ba es::Y:=⟨_,rfl⟩
    have hH2:fx H [] none++aa.loop .busy ba es::Y=fx H W none:=by rw [hW];simp [fx]
    have hA:∀ s,fx H W s=fx H [] s++aa.loop .busy ba es::Y:=fun s=>by rw [hW];simp [fx]
    obtain ⟨esI,Yz⟩:∃ esI,esI=kS 41 [(2,AV.aj t.av),(3,.aj vo),(4,.ptr H.length 0),(5,.ptr (H.length + 1) 0),(6,.aj (bo pl)),(21,.fn (.func 205) [] [.aj (.int .i64 ops.length),.aj (.int .i64 1),.aj (.int .i64 3)])]:=⟨_,rfl⟩
    have ys:=ysI ht ho hr jO uN H W esI Yz
    have qq:(3:Int) + 1 - 1=3:=rfl
    have hvt:((3:Int)).toNat=3:=rfl
    rw [qq,hvt] at ys
    have Md:=Yw (n:=ops.length) (lo:=1) (hi:=3) (by omega) (by omega) jO (Good:=fun s:Fo=>s=none) (hy:=by rw [qq,hvt];exact ys) (fun s=>by simp [eY]) none rfl
    rw [qq,hvt] at Md
    rw [hH2]
    have eln:(fx H W none).length=H.length + 2 + W.length:=eY H W none
    refine tu (P:=Tryz.prog) (R:=fun r H'=>r=.tuple []∧H'=fx H W (dJ (c8 t ops pl) (eZ (cM 1 3) ops.length) none).1++[.loop (ja (dJ (c8 t ops pl) (eZ (cM 1 3) ops.length) none).1) bC esI]) 205 [] _ bC _ _ _ Tryz.call205 ?_ ?_
    ·rw [Bz,← Yz,eln]
     exact Md
    ·have h2:=vu t ops pl (eZ (cM 1 3) ops.length) none rfl
     rintro r H' ⟨rfl,rfl⟩
     generalize VE:(dJ (c8 t ops pl) (eZ (cM 1 3) ops.length) none).1=s' at h2
     have YA:eo t ops none pl=(s',s'.isNone):=by rw [bP];exact Prod.ext VE h2
     rw [eln]
     have eget:∀ st,(fx H W s'++[aa.loop st bC esI])[H.length + 2 + W.length]?=some (.loop st bC esI):=fun st=>vw _ _ _ _ (eY H W s')
     have eset:∀ st st',(fx H W s'++[aa.loop st bC esI]).set (H.length + 2 + W.length) (.loop st' bC esI)=fx H W s'++[.loop st' bC esI]:=fun st st'=>vx _ _ _ _ _ (eY H W s')
     cases s' with
     | none=>
       have el:ja none=.ready:=rfl
       rw [el,xl (eget _),eset]
       simp +contextual only [pP]
       have:=endN ((fx H [] none).length + (Y.length + 1)) [.loop .eO bC esI] (by rw [hk]) YA
       rw [hA]
       simpa using this
     | some o=>
       have el:ja (some o)=.jump .ret:=rfl
       rw [el,D5 (eget _),eset]
       simp +contextual only [pP]
       have:=endR ((fx H [] none).length + (Y.length + 1)) [.loop .eO bC esI] (some o) (by rw [hk]) YA rfl
       rw [hA]
       simpa using this
end Go.aJ
end
section
set_option maxRecDepth 100000
namespace Go.aJ
open Go Go.Proofs Go.eN
theorem ysO {t:Ty} (ht:yk t) {ops:List Int} {vo:AV} (ho:IL vo ops) (hr:∀ i∈ops,0≤i∧i < t.s.ops.length) (jO:ops.length≤1000000) (H:List aa) (es:List AV) (Ab:es=kS 41 [(2,.aj t.av),(3,.aj vo),(4,.ptr H.length 0),(5,.ptr (H.length + 1) 0),(14,.fn (.func 205) [] [.aj (.int .i64 ops.length),.aj (.int .i64 0),.aj (.int .i64 ((ops.length:Int) - 1))])]) :
 YS ops.length (cM 0 ops.length) (H.length + 2) (fun s:Fo=>fx H [] s++[.loop (ja s) ba es]) (fun s=>s=none) (eo t ops):=by
 refine ⟨fun l s X hl hm hs=>?_,fun l s hs bP=>?_,fun s s'=>?_⟩
 ·subst hs
  have:=Mc ht ho hr jO H es Ab l hl (fun x hx=>by have:=pc.1 (hm x hx);omega) X
  have el:ja none=.ready:=rfl
  refine fE.mono (by simpa [el,jS] using this) fun r H' h=>?_
  refine ⟨h.1,?_⟩
  rw [h.2];simp
 ·subst hs
  have h2:(eo t ops none l).2=(eo t ops none l).1.isNone:=by
   unfold eo
   split
   ·exact vu t ops l _ none rfl
   ·rfl
  rw [bP] at h2
  exact Option.isNone_iff_eq_none.1 h2.symm
 ·simp [eY]
def Uy (s:Fo):AV:=match s with | none=>fa [] [] | some (P,S)=>fa P S
theorem Hp (n0 s s':Nat) (sz sz':Option Nat) (env:Env) (H:List aa) (R:AV→List aa→Prop):bV n0 [.c s sz,.c s' sz'] env H R=aV sz (get env s) H fun x=>aV sz' (get env s') H fun y=>rj n0 [x,y] H R:=aei
theorem c93 {t:Ty} (ht:yk t) {ops:List Int} {vo:AV} (ho:IL vo ops) (hr:∀ i∈ops,0≤i∧i < t.s.ops.length) (jO:ops.length≤1000000):Pure Tryz.prog 93 [t.av,vo] (.tuple [Uy (nB t ops),.bool (nB t ops).isSome]):=by
 refine fun H=>aas.calls rfl ?_
 simp only [VY,VX]
 obtain ⟨e1,e2,e3,e4,e5,e6⟩:=Ty.facts t
 obtain ⟨a1,a2,a3,a4⟩:=ho.one
 have lvo:∀ (H:List aa) (φ:AV→Prop),aV none (.aj vo) H φ=φ vo:=fun H φ=>by simp [aV,a1,a2]
 have zf2:List.map AV.ae [AV.ah,.ah]=[.ah,.ah]:=rfl
 have zb2:∀ n,ak n [AV.ah,.ah]=true:=fun _=>rfl
 have hw:IntKind.i64.wrap ((ops.length:Int) - 1)=(ops.length:Int) - 1:=eD _ (by omega)
 simp +contextual only [e1,a3,lvo,zf2,zb2,ho.aN,ho.len (by omega),hw,sZ,Nat.reduceEqDiff,Nat.reduceAdd,↓reduceIte,reduceCtorEq]
 refine af (Yx ops.length 0 ((ops.length:Int) - 1)) ?_
 simp +contextual only [mG,sZ,Nat.reduceEqDiff,↓reduceIte,reduceCtorEq]
 have hA0:H++[aa.cells [AV.ah,.ah],.cells [.bool false]]=fx H [] none:=rfl
 rw [hA0]
 obtain ⟨esO,Ab⟩:∃ esO,esO=kS 41 [(2,AV.aj t.av),(3,.aj vo),(4,.ptr H.length 0),(5,.ptr (H.length + 1) 0),(14,.fn (.func 205) [] [.aj (.int .i64 ops.length),.aj (.int .i64 0),.aj (.int .i64 ((ops.length:Int) - 1))])]:=⟨_,rfl⟩
 have ys:=ysO ht ho hr jO H esO Ab
 have hv:((ops.length:Int) - 1 + 1 - 0).toNat=ops.length:=by omega
 have Md:=Yw (n:=ops.length) (lo:=0) (hi:=(ops.length:Int) - 1) (by omega) (by omega) jO (Good:=fun s:Fo=>s=none) (hy:=by rw [hv];exact ys) (fun s=>by simp [eY]) none rfl
 rw [hv] at Md
 have eln:∀ s,(fx H [] s).length=H.length + 2:=fun s=>eY H [] s
 refine tu (P:=Tryz.prog) (R:=fun r H'=>r=.tuple []∧H'=fx H [] (nB t ops)++[.loop (ja (nB t ops)) ba esO]) 205 [] _ ba _ _ _ Tryz.call205 ?_ ?_
 ·rw [By,← Ab,eln]
  exact Md
 ·rintro r H' ⟨rfl,rfl⟩
  generalize nB t ops=s'
  have eget:∀ st,(fx H [] s'++[aa.loop st ba esO])[H.length + 2]?=some (.loop st ba esO):=fun st=>vw _ _ _ _ (eln s')
  have eset:∀ st st',(fx H [] s'++[aa.loop st ba esO]).set (H.length + 2) (.loop st' ba esO)=fx H [] s'++[.loop st' ba esO]:=fun st st'=>vx _ _ _ _ _ (eln s')
  have k4:=Rl H [] [.loop .eO ba esO] s'
  have k5:=Rm H [] [.loop .eO ba esO] s'
  have htk:(fx H [] s'++[aa.loop .eO ba esO]).take H.length=H:=by rw [aa5 (by rw [eln];omega),fx,adn]
  have sp2:∀ (a b x y:AV),ai [a,b] 0 [x,y]=[x,y]:=fun _ _ _ _=>rfl
  rw [eln]
  cases s' with
  | none=>
    have el:ja none=.ready:=rfl
    rw [el,xl (eget _),eset]
    have o4n:o4 none=.cells [.ah,.ah]:=rfl
    have o5n:o5 none=.cells [.bool false]:=rfl
    rw [o4n] at k4
    rw [o5n] at k5
    have k4s:=fun o=>Rx (a:=o) (aM k4)
    have k5s:∀ o,((fx H [] none++[aa.loop .eO ba esO]).set H.length o)[H.length + 1]?=some (.cells [.bool false]):=fun o=>by rw [yq (by omega)];exact k5
    have k5t:∀ o o',(((fx H [] none++[aa.loop .eO ba esO]).set H.length o).set (H.length + 1) o')[H.length + 1]?=some o':=fun o o'=>Rx (by rw [acD];exact aM k5)
    have k4t:∀ o o',(((fx H [] none++[aa.loop .eO ba esO]).set H.length o).set (H.length + 1) o')[H.length]?=some o:=fun o o'=>by rw [yq (by omega)];exact k4s o
    have ab9:∀ o o',(((fx H [] none++[aa.loop .eO ba esO]).set H.length o).set (H.length + 1) o').take H.length=H:=fun o o'=>by rw [abO (by omega),abO (by omega),htk]
    simp +contextual only [pP,k4,k5s,k4t,k5t,zf2,zb2,sp2,Hp,sZ,Nat.reduceEqDiff,Nat.reduceAdd,Nat.reduceLT,↓reduceIte,reduceCtorEq]
    exact QT (ab9 _ _) ((bi [] []).2.2.2.2.2 _) rfl rfl rfl ⟨rfl,rfl⟩
  | some o=>
    obtain ⟨P,S⟩:=o
    have el:ja (some (P,S))=.jump .ret:=rfl
    rw [el,D5 (eget _),eset]
    have o4n:o4 (some (P,S))=.cells [.al 0 (ints P),.al 0 (ints S)]:=rfl
    have o5n:o5 (some (P,S))=.cells [.bool true]:=rfl
    rw [o4n] at k4
    rw [o5n] at k5
    simp +contextual only [pP,k4,k5,Hp,sZ,Nat.reduceEqDiff,Nat.reduceAdd,Nat.reduceLT,↓reduceIte,reduceCtorEq]
    exact QT htk ((bi P S).2.2.2.2.2 _) rfl rfl rfl ⟨rfl,rfl⟩
end Go.aJ
end
section
set_option maxRecDepth 100000
set_option maxHeartbeats 0
namespace Go.aJ
open Go Go.Proofs
noncomputable def YB:=aK Tryz.call75 Tryz.func75 Tryz.ntmps75 [(0,0,1),(5,2,1000),(6,0,1),(6,7,2),(6,8,1),(7,6,2),(7,9,2),(9,0,6004)] [(0,[1,2]),(1,[1,6]),(2,[1,6,7]),(3,[6,7,15,16,17]),(4,[6,7,15,16,17,18]),(5,[6,7,9,15,16,17]),(6,[6,7,9,15,16,17]),(7,[6,7,15,16,17]),(8,[6,7,15,16,17]),(9,[4,5])] [(7,(.take 1 true (.take 2 true (.take 3 true (.take 4 true (.take 5 true (.take 0 false (.br 6 (.take 7 true (.take 8 true (.br 9 .done .nil))) .nil))))))))]
end Go.aJ
end
section
set_option maxRecDepth 100000
namespace Go.aJ
open Go Go.Proofs Go.eN
def uy (z:AV) (kp:Nat→Prop) (v:AV) (xs:List AV) (G:List aa):Prop:=
 (xs=[]∧v=.ah)∨∃ id cap,¬ kp id∧v=.aU id 0 xs.length cap∧G[id]?=some (bn z xs cap)∧xs.length≤cap∧xs≠[]
section
variable {z:AV} {kp:Nat→Prop} {v:AV} {xs:List AV} {G:List aa}
theorem uy.one (h:uy z kp v xs G):v.one=true∧v.val=true∧v.ae=v∧v.cells=[v]:=by
 rcases h with ⟨_,rfl⟩ | ⟨id,cap,_,rfl,_⟩ <;> exact ⟨rfl,rfl,rfl,rfl⟩
theorem uy.a8 (h:uy z kp v xs G) {n:Nat} (hn:G.length≤n):v.a8 n=true:=by
 rcases h with ⟨_,rfl⟩ | ⟨id,cap,_,rfl,c,_⟩
 ·rfl
 ·have:=(aaw.1 c).1
  rw [j3];simp;omega
theorem uy.len (h:uy z kp v xs G) {H:List aa} (φ:AV→Prop):fz v H φ=φ (.int .i64 xs.length):=by
 rcases h with ⟨rfl,rfl⟩ | ⟨id,cap,_,rfl,_⟩ <;> rfl
theorem uy.aN (h:uy z kp v xs G):aN 1 v=True:=by
 rcases h with ⟨_,rfl⟩ | ⟨id,cap,_,rfl,_⟩ <;> rfl
theorem uy.set (h:uy z kp v xs G) {j:Nat} (hj:∀ l c,v≠.aU j 0 l c) (o:aa):uy z kp v xs (G.set j o):=by
 rcases h with h | ⟨id,cap,a,b,c,d⟩
 ·exact .inl h
 ·exact .inr ⟨id,cap,a,b,by rw [yq (fun e=>hj _ _ (by rw [e];exact b))];exact c,d⟩
end
theorem zQ {esz bytes:Nat} {z:AV} (hz:jo esz (bQ z)) {kp:Nat→Prop} {v:AV} {xs:List AV} {G:List aa} (h:uy z kp v xs G) (ew:∀ x∈xs,jo esz x) (o:Nat) (ys:List AV) (hy:ys≠[]) (qv:∀ x∈ys,jo esz x)
 (hb:(xs.length + ys.length) * bytes≤140737488355328) (hG:∀ j,kp j→j < G.length) {K:AV→List aa→Prop}
 (hK:∀ v' G',uy z kp v' (xs++ys) G'→(∀ j,kp j→G'[j]?=G[j]?)→G.length≤G'.length→K v' G'):cT esz bytes z v (.al o ys) G K:=by
 have nl:¬ kp G.length:=fun h=>adl _ (hG _ h)
 have jv:sq esz ys:=fun y hy=>⟨(qv y hy).len,(qv y hy).one⟩
 obtain ⟨f1,f2,f3,f4⟩:=jo.flat qv
 obtain ⟨g1,g2,g3,g4⟩:=jo.flat ew
 have uN:=rk hz
 have k7:∀ n m,ak n (cS z m)=true:=fun n m=>(jo.flat (j4 hz m)).2.2.1 n
 unfold cT
 simp only [dB]
 refine ⟨jv,?_⟩
 rcases h with ⟨rfl,rfl⟩ | ⟨id,cap,bm,rfl,hg,hle,_⟩
 ·refine ⟨by simpa using hb,fun e=>absurd e hy,fun _ cap hc _=>⟨?_,hK _ _ (.inr ⟨G.length,cap,nl,by simp,?_,by simpa using hc,by simpa using hy⟩) ?_ (by simp)⟩⟩
  ·rw [f2,bB];exact ⟨f3 _,k7 _ _⟩
  ·rw [f2];simp [bn]
  ·intro j hj;have:=hG j hj;rw [yp (by omega)]
 ·have yL:=(aaw.1 hg).1
  simp only [hg,bn,aab,g1,uN,abw,List.drop_zero]
  refine ⟨hb,hle,by rw [← abT];exact Nat.le_of_eq (by congr 1;omega),fun hroom=>⟨by rw [f2];exact f3 _,?_⟩,fun jO eC hc _=>⟨?_,?_⟩⟩
  ·rw [f2]
   refine hK _ _ (.inr ⟨id,cap,bm,by simp,?_,by simpa using hroom,by simp [hy]⟩) ?_ (by simp)
   ·rw [Rx yL,bn]
    congr 2
    unfold ai
    rw [f1,aa5 (by rw [g1];exact yo _),aak (by rw [g1];exact yo _),ado,aaZ (by rw [g1];omega),g1,
     show xs.length * esz + ys.length * esz - xs.length * esz=ys.length * esz by omega,zd hz _ _ (by omega),oc,List.nil_append,aab]
    rw [show cap - xs.length - ys.length=cap - (xs.length + ys.length) by omega,aa2]
   ·intro j hj;rw [yq (fun e=>bm (by rw [e];exact hj))]
  ·rw [aa5 (by rw [g1];exact yo _),aak (by rw [g1];exact yo _),g2,f2,bB,bB];exact ⟨⟨g3 _,f3 _⟩,k7 _ _⟩
  ·rw [aa5 (by rw [g1];exact yo _),aak (by rw [g1];exact yo _),g2,f2,← oc]
   refine hK _ _ (.inr ⟨G.length,eC,nl,by simp,?_,by simpa using hc,by simp [hy]⟩) ?_ (by simp)
   ·simp [bn]
   ·intro j hj;have:=hG j hj;rw [yp (by omega)]
def Uz (kp:Nat→Prop) (H:List aa) (xs:List AV) (r:AV) (H':List aa):Prop:=uy zN kp r xs H'∧(∀ j,kp j→H'[j]?=H[j]?)∧H.length≤H'.length
theorem YC:∀ (N:Nat) (t:T),wt t≤N→∀ (kp:Nat→Prop) (v:AV) (xs:List AV) (H:List aa),uy zN kp v xs H→(∀ x∈xs,jo 4 x)→(∀ j,kp j→j < H.length)→(xs.length + wt t) * 64≤140737488355328→
 aw Tryz.prog 132 [t.av,v] H (Uz kp H (xs++eS (w8 t xs.length))):=by
 intro N
 induction N with
 | zero=>intro t ht;have:=fO t;omega
 | succ N ih=>
 intro t ht kp v xs H hR ew hbase hb
 have hw:=Dz t
 have ZB:=iN t.l
 refine GW.2.calls rfl ?_
 simp only [GW,aK]
 obtain ⟨o1,o2,o3,o4⟩:=hR.one
 simp +contextual only [o3,hR.len,hR.aN,bdN,Xw,sZ,Nat.reduceEqDiff,Nat.reduceAdd,↓reduceIte,reduceCtorEq]
 refine zQ Bb hR ew 0 [mN t] (by simp) (by simp [rB]) (by simp;omega) hbase fun v1 G1 TY TZ qK=>?_
 obtain ⟨o1',o2',o3',o4'⟩:=TY.one
 simp +contextual only [sZ]
 intro _
 have hZ:∀ i,(xs++mN t::eS (dd (t.l.take i) (xs.length + 1))).length=xs.length + 1 + ij (t.l.take i):=by intro i;simp [rD,gZ];omega
 have jv:∀ i,∀ x∈xs++mN t::eS (dd (t.l.take i) (xs.length + 1)),jo 4 x:=by
  intro i x hx
  rcases abf.1 hx with hx | hx
  ·exact ew x hx
  ·rcases UQ.1 hx with rfl | hx
   ·exact rB t
   ·exact ke _ x hx
 refine aB t.l.length (fun i (p:AV×List aa)=>uy zN kp p.1 (xs++mN t::eS (dd (t.l.take i) (xs.length + 1))) p.2∧(∀ j,kp j→p.2[j]?=H[j]?)∧H.length≤p.2.length)
  (fun i p=>[(1,p.1),(5,.int .i64 xs.length),(6,iV (aY (t.l.take i) (xs.length + 1))),(17,.al 0 (bS t.l)),(18,.int .i64 t.l.length),(19,.int .i64 i)])
  (fun i p=>p.2) (v1,G1) ⟨⟨TY,TZ,qK⟩,aD _ _ _⟩ fun i p hi hI=>?_
 obtain ⟨v,G⟩:=p
 obtain ⟨hR,hG,hl⟩:=hI
 simp only at hR hG hl
 obtain ⟨o1,o2,o3,o4⟩:=hR.one
 have hle:=dn t.l i
 have Cg:=cF (t.l.take i) (xs.length + 1)
 have T1:(t.l.take i).length≤t.l.length:=by simp;omega
 simp +contextual only [o3,hR.len,hR.aN,hZ,qf,(fq _).2.1,iI,sZ,Nat.reduceEqDiff,Nat.reduceAdd,↓reduceIte,reduceCtorEq]
 refine ⟨fun aS=>⟨bW aS,by omega,?_⟩,fun iR=>?_⟩
 ·have aS:=bW aS
  have hwt:=ol aS
  have hnext:=dn t.l (i + 1)
  have e2:t.l.take (i + 1)=t.l.take i++[t.l.getD i default]:=by rw [ab8 aS];simp [aS]
  refine ag (ih (t.l.getD i default) (by have:=bX (fV aS);omega) kp v _ G hR (jv i) (fun j hj=>by have:=hbase j hj;omega) (by rw [hZ];omega)) ?_
  rintro r G' ⟨yf,eF,BL⟩
  obtain ⟨o1',o2',o3',o4'⟩:=yf.one
  simp +contextual only [o3',sZ,Nat.reduceEqDiff,↓reduceIte]
  refine ⟨i + 1,(r,G'),⟨aS,?_,fun j hj=>(eF j hj).trans (hG j hj),abY hl BL⟩,by omega,aE ?_ rfl⟩
  ·rw [hZ] at yf
   rw [e2,lI,rC,← List.cons_append,← aa2]
   exact yf
  ·rw [e2,iW,ay i (by omega)]
 ·have l9:i=t.l.length:=by have:=dg iR;omega
  subst l9
  rw [aa8] at hR
  have FI:=hZ t.l.length
  have FJ:=jv t.l.length
  rw [aa8] at FI FJ
  have gJ:(xs++mN t::eS (dd t.l (xs.length + 1))).set xs.length (FH (t,aY t.l (xs.length + 1)))=xs++eS (w8 t xs.length):=by
   rw [ac5 _ _ (yo _),adP,aef,oZ];rfl
  have jJ:(xs++mN t::eS (dd t.l (xs.length + 1))).getD xs.length .any=mN t:=by simp
  generalize xs++mN t::eS (dd t.l (xs.length + 1))=ys at hR FI FJ gJ jJ
  rcases hR with ⟨rfl,_⟩ | ⟨id,cap,bm,rfl,hg,cA,_⟩
  ·simp at FI
   omega
  have yL:=(aaw.1 hg).1
  obtain ⟨k1,k2,k3,k4,k5⟩:=aG (aY t.l (xs.length + 1))
  simp +contextual only [hg,ig,aa8,sZ,Nat.reduceEqDiff,↓reduceIte,reduceCtorEq]
  refine ⟨by omega,?_⟩
  refine A0 FJ (by omega) (by decide) (y:=FH (t,aY t.l (xs.length + 1))) k1 k4 (by rw [k2];exact k3 _) (by rw [jJ,k2];rfl) ?_
  simp +contextual only [sZ,Nat.reduceEqDiff,↓reduceIte,reduceCtorEq]
  rw [gJ]
  refine aX (G.length) (by omega) (by rw [aA,if_pos rfl,j3];simpa using yL) ?_
  rw [aA,if_pos rfl,aak (by simp)]
  refine ⟨.inr ⟨id,cap,bm,?_,?_,?_,?_⟩,?_,by simpa using hl⟩
  ·rw [← gJ];simp
  ·rw [Rx yL]
  ·rw [← gJ];simpa using cA
  ·rw [oZ];simp [eS]
  ·intro j hj;rw [yq (fun e=>bm (by rw [e];exact hj))];exact hG j hj
end Go.aJ
end
section
set_option maxRecDepth 100000
namespace Go.aJ
open Go Go.Proofs Go.eN
def xu (n0 id:Nat) (G:List aa):List aa:=G.mapIdx fun j o=>if j < n0 + 3∨j=id then o else .dead
theorem tA {n0 id j:Nat} {G:List aa}:(xu n0 id G)[j]?=(G[j]?).map fun o=>if j < n0 + 3∨j=id then o else .dead:=by simp [xu]
theorem zR {n0 id:Nat} {G:List aa}:(xu n0 id G).length=G.length:=by simp [xu]
theorem F4 {n0 id:Nat} {G:List aa}:(xu n0 id G).take (n0 + 3)=G.take (n0 + 3):=by
 apply ab1
 intro j
 rw [aam,aam]
 split
 ·rename_i hj
  rw [tA]
  cases G[j]? with
  | none=>rfl
  | some o=>simp [hj]
 ·rfl
theorem D6 {n0 id:Nat} {G:List aa} (h3:∀ (j:Nat) (o:aa),n0≤j→j < n0 + 3→G[j]?=some o→o.a8 (j + 1)=true) (bm:∀ o,G[id]?=some o→o.a8 (id + 1)=true):nc n0 G G.length (xu n0 id G):=by
 refine ⟨by rw [zR,Nat.min_self],fun j o ho=>?_⟩
 rw [tA] at ho
 cases hg:G[j]? with
 | none=>rw [hg] at ho;cases ho
 | some o'=>
   rw [hg] at ho
   simp only [Option.map_some,Option.some.injEq] at ho
   split at ho
   ·rename_i hc
    subst ho
    refine .inr ⟨rfl,fun h=>?_⟩
    rcases hc with hc | hc
    ·exact h3 j _ h hc hg
    ·subst hc;exact bm _ hg
   ·exact .inl ho.symm
def Me (H:List aa) (ps ss:List Int) (ts:List T) (r:AV) (G:List aa):Prop:=
 ∃ va,r=.tuple [.ptr (H.length + 2) 0,va]∧G.take (H.length + 3)=H++[.map [],.map [],kg ps ss (dd ts 0) H.length (H.length + 1)]∧H.length + 3≤G.length∧RO zI (H.length + 3) va (ints (aY ts 0)) G
theorem uy.YD {z:AV} {kp kp':Nat→Prop} {v:AV} {xs:List AV} {G G':List aa} (h:uy z kp v xs G) (hk:∀ id l c,v=.aU id 0 l c→¬ kp' id∧G'[id]?=G[id]?):uy z kp' v xs G':=by
 rcases h with h | ⟨id,cap,a,b,c,d⟩
 ·exact .inl h
 ·obtain ⟨h1,h2⟩:=hk _ _ _ b
  exact .inr ⟨id,cap,h1,b,by rw [h2];exact c,d⟩
theorem uy.ne {z:AV} {kp:Nat→Prop} {v:AV} {xs:List AV} {G:List aa} (h:uy z kp v xs G) {id l c:Nat} (e:v=.aU id 0 l c):¬ kp id:=by
 rcases h with ⟨_,rfl⟩ | ⟨id',cap,a,rfl,_⟩
 ·cases e
 ·cases e;exact a
theorem aca (ps ss:List Int) (ts:List T) (H:List aa) (hb:ij ts * 64≤140737488355328):aw Tryz.prog 75 [fa ps ss,.al 0 (bS ts)] H (Me H ps ss ts):=by
 refine YB.2.E9 rfl ?_
 simp only [YB,aK,fa]
 have ZB:=iN ts
 simp +contextual only [bdD,PK,sZ,Nat.reduceEqDiff,Nat.reduceAdd,↓reduceIte,reduceCtorEq]
 refine ⟨by simp;omega,fun _=>?_⟩
 have e0:∀ (l:List aa) (x:aa),(H++x::l)[H.length]?=some x:=by simp
 refine mF ts.length (fun i (p:AV×AV×List aa)=>uy zN (fun j=>j < H.length + 3∨∃ l c,p.2.1=.aU j 0 l c) p.1 (eS (dd (ts.take i) 0)) p.2.2∧uy zI (fun j=>j < H.length + 3∨∃ l c,p.1=.aU j 0 l c) p.2.1 (ints (aY (ts.take i) 0)) p.2.2∧H.length + 3≤p.2.2.length∧
  p.2.2.take (H.length + 3)=H++[.map [],.map [],.cells [.al 0 (ints ps),.al 0 (ints ss),p.1,.map H.length,.map (H.length + 1)]])
  (fun i p=>[(6,.ptr (H.length + 2) 0),(7,p.2.1),(15,.al 0 (bS ts)),(16,.int .i64 ts.length),(17,.int .i64 i)])
  (fun i p=>p.2.2) (.ah,.ah,_) ⟨⟨.inl ⟨rfl,rfl⟩,.inl ⟨rfl,rfl⟩,by simp,?_⟩,oW _ _ _⟩ fun i p hi hI=>?_
 ·rw [aak (by simp)]
 obtain ⟨v,va,G⟩:=p
 obtain ⟨hR,hA,hl,hG⟩:=hI
 simp only at hR hA hl hG
 obtain ⟨o1,o2,o3,o4⟩:=hR.one
 obtain ⟨p1,p2,p3,p4⟩:=hA.one
 have gget:∀ j,j < H.length + 3→G[j]?=(H++[.map [],.map [],.cells [.al 0 (ints ps),.al 0 (ints ss),v,.map H.length,.map (H.length + 1)]])[j]?:=by
  intro j hj;rw [← hG,aam,if_pos hj]
 have g2:G[H.length + 2]?=some (.cells [.al 0 (ints ps),.al 0 (ints ss),v,.map H.length,.map (H.length + 1)]):=by rw [gget _ (by omega)];simp
 have hle:=dn ts i
 have Cg:=cF (ts.take i) 0
 have T1:(ts.take i).length≤ts.length:=by simp;omega
 by_cases aS:i < ts.length
 ·have nu:((i:Int) < ts.length)=True:=eq_true (by omega)
  simp +contextual only [o3,p3,g2,hR.len,hR.aN,jE,nu,decide_true,sZ,Nat.reduceEqDiff,Nat.reduceAdd,Nat.reduceLT,↓reduceIte]
  have hwt:=ol aS
  have hnext:=dn ts (i + 1)
  have e2:ts.take (i + 1)=ts.take i++[ts.getD i default]:=by rw [ab8 aS];simp [aS]
  have arrlt:∀ {z:AV} {kp:Nat→Prop} {u:AV} {xs:List AV} {G:List aa} {j l c:Nat},uy z kp u xs G→u=.aU j 0 l c→j < G.length:=by
   intro z kp u xs G j l c h e
   rcases h with ⟨_,rfl⟩ | ⟨id',cap,_,rfl,h2,_⟩
   ·cases e
   ·cases e;exact aM h2
  refine ⟨aS,zQ Bc hA (oo _) 0 [.int .i64 (ij (ts.take i):Nat)] (by simp) (oo [_]) (by rw [ax];simp;omega) (fun j hj=>?_) fun va' G1 RR Ly qK=>?_⟩
  ·rcases hj with hj | ⟨l,c,e⟩
   ·omega
   ·exact arrlt hR e
  obtain ⟨p1',p2',p3',p4'⟩:=RR.one
  have g21:G1[H.length + 2]?=some (.cells [.al 0 (ints ps),.al 0 (ints ss),v,.map H.length,.map (H.length + 1)]):=by rw [Ly _ (.inl (by omega)),g2]
  have TY:uy zN (fun j=>j < H.length + 3∨∃ l c,va'=.aU j 0 l c) v (eS (dd (ts.take i) 0)) G1:=hR.YD fun id l c e=>by
   refine ⟨fun h=>?_,Ly id (.inr ⟨l,c,e⟩)⟩
   rcases h with h | ⟨l',c',e'⟩
   ·exact hR.ne e (.inl h)
   ·exact RR.ne e' (.inr ⟨l,c,e⟩)
  simp +contextual only [o3,p3',g21,sZ,Nat.reduceEqDiff,Nat.reduceAdd,Nat.reduceLT,↓reduceIte,reduceCtorEq]
  have hc:=YC (wt (ts.getD i default)) (ts.getD i default) (yo _) (fun j=>j < H.length + 3∨∃ l c,va'=.aU j 0 l c) v _ G1 TY (ke _) (fun j hj=>by
   rcases hj with hj | ⟨l,c,e⟩
   ·omega
   ·exact arrlt RR e) (by rw [jE];omega)
  refine ag hc ?_
  rintro r G' ⟨yf,Jw,BL⟩
  obtain ⟨o1',o2',o3',o4'⟩:=yf.one
  have g2':G'[H.length + 2]?=some (.cells [.al 0 (ints ps),.al 0 (ints ss),v,.map H.length,.map (H.length + 1)]):=by rw [Jw _ (.inl (by omega)),g21]
  have eu:=yf.a8 (yo _)
  have EZ:uy zI (fun j=>j < H.length + 3∨∃ l c,r=.aU j 0 l c) va' (ints (aY (ts.take i) 0)++[.int .i64 (ij (ts.take i):Nat)]) G':=RR.YD fun id l c e=>by
   refine ⟨fun h=>?_,Jw id (.inr ⟨l,c,e⟩)⟩
   rcases h with h | ⟨l',c',e'⟩
   ·exact RR.ne e (.inl h)
   ·exact yf.ne e' (.inr ⟨l,c,e⟩)
  have gt':G'.take (H.length + 3)=G.take (H.length + 3):=by
   apply ab1
   intro j
   rw [aam,aam]
   split
   ·rename_i hj;rw [Jw j (.inl hj),Ly j (.inl hj)]
   ·rfl
  simp +contextual only [sQ,o1',o2',o3',o4',g2',eu,sZ,Nat.reduceEqDiff,Nat.reduceAdd,Nat.reduceLeDiff,↓reduceIte]
  refine ⟨by omega,i + 1,(r,va',_),⟨aS,?_,?_,by simp;omega,?_⟩,by omega,AZ ?_ rfl⟩
  ·have h1:=yf.set (j:=H.length + 2) (fun l c e=>yf.ne e (.inl (by omega))) (.cells (ai [.al 0 (ints ps),.al 0 (ints ss),v,.map H.length,.map (H.length + 1)] 2 [r]))
   rw [jE] at h1
   rw [e2,lI,rC,abw]
   exact h1
  ·have h1:=EZ.set (j:=H.length + 2) (fun l c e=>EZ.ne e (.inl (by omega))) (.cells (ai [.al 0 (ints ps),.al 0 (ints ss),v,.map H.length,.map (H.length + 1)] 2 [r]))
   have ek:ints (aY (ts.take i++[ts.getD i default]) 0)=ints (aY (ts.take i) 0)++[.int .i64 (ij (ts.take i):Nat)]:=by rw [iW,abw];simp [ints]
   rw [e2,ek]
   exact h1
  ·rw [adK,gt',hG]
   simp [ai]
  ·rw [ay i (by omega)]
 ·have l9:i=ts.length:=by omega
  subst l9
  have nu:((ts.length:Int) < ts.length)=False:=eq_false (by omega)
  simp +contextual only [nu,decide_false,sZ,Nat.reduceEqDiff,↓reduceIte]
  rw [aa8] at hR hA
  have bz:∀ (l:List Int) (cap n:Nat),(bn zI (ints l) cap).a8 n=true:=fun l cap n=>by
   rw [Bd]
   simp only [aa.a8,bB]
   exact ⟨aW _ _,(jo.flat (j4 Bc _)).2.2.1 n⟩
  have fin:∀ (G':List aa),H.length + 3≤G'.length→(∀ id l c,va=.aU id 0 l c→G'[id]?=G[id]?)→G'.take (H.length + 3)=H++[.map [],.map [],kg ps ss (dd ts 0) H.length (H.length + 1)]→lD (nc H.length) H.length [.t 4,.t 5] [(4,.ptr (H.length + 2) 0),(5,va)] G' (Me H ps ss ts):=by
   intro G' BL bm eF
   have get3:∀ (j:Nat) (o:aa),H.length≤j→j < H.length + 3→G'[j]?=some o→o.a8 (j + 1)=true:=by
    intro j o h1 h2 ho
    have h3:(G'.take (H.length + 3))[j]?=some o:=by rw [aam,if_pos h2];exact ho
    rw [eF,aaN h1] at h3
    have:j=H.length∨j=H.length + 1∨j=H.length + 2:=by omega
    rcases this with rfl | rfl | rfl
    ·simp at h3;subst h3;rfl
    ·simp at h3;subst h3;rfl
    ·simp at h3;subst h3;exact zy ps ss _ _
   have uL:∀ id,RO zI (H.length + 3) va (ints (aY ts 0)) (xu H.length id G')→(∀ o,G'[id]?=some o→o.a8 (id + 1)=true)→va.a8 G'.length=true→lD (nc H.length) H.length [.t 4,.t 5] [(4,.ptr (H.length + 2) 0),(5,va)] G' (Me H ps ss ts):=by
    intro id xD eu ZM
    refine Lt (m:=G'.length) (by omega) (D6 get3 eu) (x:=.ptr (H.length + 2) 0) (y:=va) rfl (by simp [aA,p3]) (by rw [sN];exact decide_eq_true (by omega)) ZM ⟨va,rfl,by rw [F4,eF],by rw [zR];exact BL,xD⟩
   rcases hA with ⟨e1,rfl⟩ | ⟨id,cap,hk,rfl,hg,hc,eU⟩
   ·exact uL G'.length (.inl ⟨e1,rfl⟩) (fun o ho=>by rw [aby (yo _)] at ho;cases ho) rfl
   ·have P5:=bm _ _ _ rfl
    rw [hg] at P5
    refine uL id (.inr ⟨id,cap,by have:=fun h=>hk (.inl h);omega,rfl,by rw [tA,P5];simp,hc,eU⟩) (fun o ho=>?_) ?_
    ·rw [P5] at ho;cases ho;exact bz _ _ _
    ·rw [j3];exact decide_eq_true (aM P5)
  rw [DA]
  unfold Ae
  rw [g2]
  rcases hR with ⟨e1,rfl⟩ | ⟨id,cap,bm,rfl,hg,cA,eU⟩
  ·simp +contextual only [List.getElem?_cons_succ,List.getElem?_cons_zero,p3,sZ,Nat.reduceEqDiff,↓reduceIte,reduceCtorEq]
   refine fin G hl (fun _ _ _ _=>rfl) ?_
   rw [hG,kg,om,if_pos (DB e1)]
  ·simp +contextual only [List.getElem?_cons_succ,List.getElem?_cons_zero,p3,sZ,Nat.reduceEqDiff,↓reduceIte,reduceCtorEq]
   have VR:H.length + 3≤id:=by have:=fun h=>bm (.inl h);omega
   refine wR (by decide) Bb (ke _) (fun x hx=>?_) hg cA ⟨?_,?_,?_⟩
   ·obtain ⟨q,_,rfl⟩:=aag.1 hx;rfl
   ·rw [yq (by omega)];exact g2
   ·rw [ch];exact w9 _ _
   ·refine fin _ (by simp;omega) (fun id' l c e=>?_) ?_
    ·have h1:id'≠id:=fun e'=>hA.ne e (.inr ⟨_,_,by rw [e']⟩)
     have h2:id'≠H.length + 2:=fun e'=>hA.ne e (.inl (by omega))
     rw [yq (Ne.symm h2),yq (Ne.symm h1)]
    ·rw [adK,adK,hG]
     have e1:∀ X:List aa,X.length≤id→X.set id .dead=X:=fun X h=>List.set_eq_of_length_le h
     rw [e1 _ (by simp;omega),kg,om,if_neg (fun e=>eU (by rw [e];rfl))]
     simp
end Go.aJ
end
section
set_option maxRecDepth 100000
set_option maxHeartbeats 0
namespace Go.aJ
open Go Go.Proofs
noncomputable def Rn:=aK Tryz.call105 Tryz.func105 Tryz.ntmps105 [(5,6,2)] [(0,[0,1,2]),(1,[0,1,2]),(2,[0,1,2,16]),(3,[6]),(4,[0,1,2,7]),(5,[0,7]),(6,[0]),(7,[6])] [(5,(.take 0 true (.take 1 true (.take 2 true (.take 3 true (.take 4 true (.take 5 true (.br 6 (.take 7 true .done) .nil))))))))]
end Go.aJ
end
section
set_option maxRecDepth 100000
namespace Go.aJ
open Go Go.Proofs Go.eN
theorem spI (A B:List Int) (k:Nat):ai (ints A) k (ints B)=ints (A.take k++B++A.drop (k + B.length)):=by
 unfold ai
 rw [lK,s8,lL,ax,lL]
 rw [aa2]
theorem sl3 {id i n cap:Nat} (h:i < n) (hc:n≤cap) (φ:AV→Prop):bD 1 (.aU id 0 n cap) (some (.int .i64 (i:Int))) (some (.int .i64 ((i:Int) + 1))) (some (.int .i64 (n:Int))) φ=φ (.aU id (if n=i then 0 else 0 + i * 1) ((i + 1) - i) (n - i)):=by
 have e1:((i:Int) + 1).toNat=i + 1:=by omega
 simp only [bD,oH,dV,aaa,adU,true_and,e1,eq_iff_iff]
 constructor
 ·rintro ⟨_,_,_,h⟩;exact h.2.2.2
 ·exact fun k=>⟨by omega,by omega,by omega,by omega,by omega,by omega,k⟩
theorem acb {id i n cap:Nat} (hc:i≤cap) (φ:AV→Prop):bD 1 (.aU id 0 n cap) none (some (.int .i64 (i:Int))) none φ=φ (.aU id 0 i cap):=by
 have e:(if cap=0 then 0 else 0 + 0 * 1)=0:=by split <;> simp
 simp only [bD,gR,dV,aaa,e,ad7,eq_iff_iff]
 constructor
 ·rintro ⟨_,h⟩;exact h.2.2
 ·exact fun k=>⟨by omega,by omega,hc,k⟩
theorem acd {id i n cap:Nat} (h:i + 1≤n) (hc:n≤cap) (φ:AV→Prop):bD 1 (.aU id 0 n cap) (some (.int .i64 ((i:Int) + 1))) none none φ=φ (.aU id (if cap=i + 1 then 0 else 0 + (i + 1) * 1) (n - (i + 1)) (cap - (i + 1))):=by
 have e1:((i:Int) + 1).toNat=i + 1:=by omega
 simp only [bD,gR,dV,e1,eq_iff_iff]
 constructor
 ·rintro ⟨_,h⟩;exact h.2.2
 ·exact fun k=>⟨by omega,h,hc,k⟩
theorem ace {id l h n cap:Nat} (hl:l < h) (hc:h≤cap) (φ:AV→Prop):bD 1 (.aU id 0 n cap) (some (.int .i64 (l:Int))) (some (.int .i64 (h:Int))) none φ=φ (.aU id l (h - l) (cap - l)):=by
 have e:(if cap=l then 0 else 0 + l * 1)=l:=by rw [if_neg (by omega)];omega
 simp only [bD,gR,dV,aaa,e,eq_iff_iff]
 constructor
 ·rintro ⟨_,_,h⟩;exact h.2.2
 ·exact fun k=>⟨by omega,by omega,by omega,hc,k⟩
theorem acf (P S pad:List Int) (a:Int) (hb:(P++a::S).length≤1000000000) (id cap:Nat) (cA:cap=(P++a::S++pad).length) {H:List aa} (hg:H[id]?=some (.cells (ints (P++a::S++pad)))) :
 aw Tryz.prog 105 [.aU id 0 (P.length + 1 + S.length) cap,.int .i64 P.length,.int .i64 ((P.length:Int) + 1)] H fun r H'=>r=.aU id 0 (P.length + S.length) cap∧H'=H.set id (.cells (ints (P++S++0::pad))):=by
 refine Rn.2.calls rfl ?_
 simp only [Rn,aK]
 have je:cap=P.length + 1 + S.length + pad.length:=by rw [cA];simp;omega
 rw [cA] at je
 have ne:((P.length:Int)=(P.length:Int) + 1)=False:=eq_false (by omega)
 have qx:=aM hg
 have s1:=fun φ=>sl3 (id:=id) (i:=P.length) (n:=P.length + 1 + S.length) (cap:=cap) (by omega) (by omega) φ
 have s2:=fun φ=>acb (id:=id) (i:=P.length) (n:=P.length + 1 + S.length) (cap:=cap) (by omega) φ
 have s3':=fun φ=>acd (id:=id) (i:=P.length) (n:=P.length + 1 + S.length) (cap:=cap) (by omega) (by omega) φ
 have un:∀ a b c d,(AV.aU a b c d).ae=.aU a b c d:=fun _ _ _ _=>rfl
 have ox1:∀ (env:Env) (i:IX),gS env (some i)=some (au env i):=fun _ _=>rfl
 have ox2:∀ (env:Env),gS env none=none:=fun _=>rfl
 have s4:=fun φ=>ace (id:=id) (l:=P.length + S.length) (h:=P.length + 1 + S.length) (n:=P.length + S.length) (cap:=cap) (by omega) (by omega) φ
 simp +contextual only [Option.map_some,Option.map_none,ox1,s1,s2,s3',ne,decide_false,un,sZ,Nat.reduceEqDiff,Nat.reduceAdd,↓reduceIte,reduceCtorEq]
 have hnone:∀ a b c d,dB (AV.aU a b c d)=none:=fun _ _ _ _=>rfl
 have e0:P.length + 1 + S.length - (P.length + 1)=S.length:=by omega
 have eA:P++a::S++pad=(P++[a])++(S++pad):=by simp
 unfold cT
 simp only [hnone,vM,hg,ax,e0]
 have pg:(if cap=P.length + 1 then 0 else 0 + (P.length + 1) * 1) + S.length * 1≤(P++a::S++pad).length:=by simp only [aab,List.length_cons];split <;> omega
 have htake:(List.take (S.length * 1) (List.drop (if cap=P.length + 1 then 0 else 0 + (P.length + 1) * 1) (ints (P++a::S++pad))))=ints S:=by
  rw [s8,lK,ac6]
  congr 1
  by_cases hc:cap=P.length + 1
  ·have:S=[]:=abt.1 (by omega)
   subst this;simp
  ·rw [if_neg hc,eA,List.drop_left' (by simp),adn]
 rw [if_pos pg]
 simp only [hg,htake,vh,lM,aW]
 refine ⟨?_,trivial,by omega,by rw [ax,← cA];omega,trivial,?_⟩
 ·rw [adH,ax];simp only [aab,List.length_cons] at pg ⊢;omega
 obtain ⟨x,X,hxX,hXl⟩:∃ x X,(a::S).drop S.length=x::X∧X.length=0:=by
  have hl:((a::S).drop S.length).length=1:=by simp
  cases hd:(a::S).drop S.length with
  | nil=>rw [hd] at hl;simp at hl
  | cons x X=>rw [hd] at hl;exact ⟨x,X,rfl,by simpa using hl⟩
 have hX0:X=[]:=abt.1 hXl
 subst hX0
 have e1:ai (ints (P++a::S++pad)) (0 + P.length * 1) (ints S)=ints (P++S++x::pad):=by
  rw [spI]
  congr 1
  have h1:(P++a::S++pad).take (0 + P.length * 1)=P:=by rw [aa2,abw,ac6,adn]
  have h2:(P++a::S++pad).drop (0 + P.length * 1 + S.length)=x::pad:=by
   rw [aa2,abw,ac6,← aed,aeb,adb (by simp),hxX];rfl
  rw [h1,h2]
 rw [e1]
 have gs:∀ o,(H.set id o)[id]?=some o:=fun o=>Rx qx
 have e2:P.length + 1 + S.length - (P.length + S.length)=1:=by omega
 have e3:((P.length + S.length:Nat):Int)=((P.length + S.length:Nat):Int):=rfl
 simp +contextual only [ox1,ox2,s4,un,e2,IJ,sZ,Nat.reduceEqDiff,↓reduceIte,reduceCtorEq]
 unfold iM
 have ap1:cS (.int .i64 0) 1=ints [0]:=rfl
 simp only [gs,ap1,vh,lM,aW,ax,spI,adE]
 refine ⟨by simp;omega,trivial,trivial,?_⟩
 have e4:(P++S++x::pad).take (P.length + S.length)++[0]++(P++S++x::pad).drop (P.length + S.length + [(0:Int)].length)=P++S++0::pad:=by
  have hl:(P++S).length=P.length + S.length:=by simp
  rw [← hl,adn,← aed,aeb];simp
 rw [e4]
 simp +contextual only [un,sZ,↓reduceIte,reduceCtorEq]
 exact TL (by simp) (by rw [j3];exact decide_eq_true qx) rfl rfl
end Go.aJ
end
section
set_option maxRecDepth 100000
namespace Go.aJ
open Go Go.Proofs Go.eN
theorem Ro {S:List aa→Prop} (hS:zB S) {Q:Int→Prop} {a:List Int} {id cap:Nat} (hg:∀ G,S G→G[id]?=some (bn zI (ints a) cap)) (hc:a.length≤cap) (la:a.length≤1000000000) (g:Nat) (pre cI:List AV) (cA:cI.map AV.ae=cI) (lX:pre.map AV.ae=pre)
 (hf:∀ x∈a,∀ H,S H→aw Tryz.prog g (pre++[.int .i64 x]++cI) H (SB S (Q x))) {H:List aa} (hH:S H) :
 aw Tryz.prog 100 [.aU id 0 a.length cap,.fn (.func g) pre cI] H (SI S Q a):=by
 refine CF.2.calls rfl ?_
 simp only [CF,aK]
 simp +contextual only [sZ,Nat.reduceEqDiff,Nat.reduceAdd,↓reduceIte,reduceCtorEq]
 have fin:∀ (n:Int) (G:List aa),S G→((n=-1∧∀ x∈a,¬ Q x)∨∃ m:Nat,n=m∧m < a.length∧Q (a.getD m 0)∧∀ j,j < m→¬ Q (a.getD j 0))→bV H.length [.t 4] [(4,.int .i64 n)] G (SI S Q a):=by
  intro n G hG hn
  refine aX H.length (yo _) (by rw [aA,if_pos rfl];rfl) ?_
  rw [aA,if_pos rfl,aak (by rw [hS H G hH hG];exact yo _)]
  refine ⟨hG,?_⟩
  rcases hn with ⟨rfl,h⟩ | ⟨m,rfl,h⟩
  ·exact .inl ⟨rfl,h⟩
  ·exact .inr ⟨m,rfl,h⟩
 refine aB a.length (fun i (G:List aa)=>S G∧∀ j,j < i→¬ Q (a.getD j 0))
  (fun i G=>[(0,.aU id 0 a.length cap),(1,.fn (.func g) pre cI),(7,.int .i64 a.length),(8,.int .i64 i)]) (fun i G=>G) H ⟨⟨hH,fun j hj=>by omega⟩,aD _ _ _⟩ fun i G hi hI=>?_
 obtain ⟨hG,hq⟩:=hI
 by_cases aS:i < a.length
 ·have nu:((i:Int) < a.length)=True:=eq_true (by omega)
  simp +contextual only [nu,decide_true,ig,hg G hG,Hc aS,cA,lX,sZ,Nat.reduceEqDiff,Nat.reduceAdd,↓reduceIte,reduceCtorEq]
  refine ⟨by omega,ag (hf _ (aO (by omega)) G hG) ?_⟩
  rintro r G' ⟨x,rfl,hx,eF⟩
  cases x with
  | false=>
    simp +contextual only [sZ,Nat.reduceEqDiff,↓reduceIte,reduceCtorEq]
    refine ⟨i + 1,G',⟨by omega,eF,fun j hj=>?_⟩,by omega,aE (by rw [ay i (by omega)]) rfl⟩
    by_cases h:j=i
    ·subst h;exact fun h=>absurd (hx.2 h) (by simp)
    ·exact hq j (by omega)
  | true=>
    simp +contextual only [sZ,Nat.reduceEqDiff,↓reduceIte,reduceCtorEq]
    exact fin _ _ eF (.inr ⟨i,rfl,by omega,hx.1 rfl,hq⟩)
 ·have nu:((i:Int) < a.length)=False:=eq_false (by omega)
  simp +contextual only [nu,decide_false,sZ,Nat.reduceEqDiff,↓reduceIte,reduceCtorEq]
  refine fin _ _ hG (.inl ⟨rfl,fun x hx=>?_⟩)
  obtain ⟨j,hj,rfl⟩:=adM hx
  have:=hq j (by omega)
  simpa [hj] using this
theorem YE {S:List aa→Prop} (hS:zB S) {Q:Int→Prop} {a:List Int} {id cap:Nat} (hg:∀ G,S G→G[id]?=some (bn zI (ints a) cap)) (hc:a.length≤cap) (la:a.length≤1000000000) (g:Nat) (pre cI:List AV) (cA:cI.map AV.ae=cI) (lX:pre.map AV.ae=pre)
 (hf:∀ x∈a,∀ H,S H→aw Tryz.prog g (pre++[.int .i64 x]++cI) H (SB S (Q x))) {H:List aa} (hH:S H) :
 aw Tryz.prog 102 [.aU id 0 a.length cap,.fn (.func g) pre cI] H (SB S (∃ x∈a,Q x)):=by
 refine CG.2.calls rfl ?_
 simp only [CG,aK]
 simp +contextual only [sZ,Nat.reduceEqDiff,Nat.reduceAdd,↓reduceIte,reduceCtorEq]
 refine ag (Ro hS hg hc la g pre cI cA lX hf hH) ?_
 rintro r G ⟨hG,⟨rfl,h⟩ | ⟨n,rfl,h1,h2,_⟩⟩
 ·simp +contextual only [sZ,↓reduceIte,reduceCtorEq]
  exact Be hS (b:=false) (by simp) ⟨fun h=>by simp at h,fun ⟨x,hx,h'⟩=>absurd h' (h x hx)⟩ hH hG
 ·simp +contextual only [sZ,↓reduceIte,reduceCtorEq]
  exact Be hS (b:=true) (by simp) ⟨fun _=>⟨_,aO h1,h2⟩,fun _=>rfl⟩ hH hG
def SG (c:Cx) (G H:List aa):Prop:=Du c H∧Up c G H
theorem SG.len (c:Cx) (G:List aa):zB (SG c G):=fun H H' h h'=>h'.2.len.trans h.2.len.symm
theorem acg {c:Cx} (hc:c.Ok) {i x:Int} (hi:c.dP i) (hx:c.dP x) {t9:Nat} {G:List aa} (h9:G[t9]?=some (.cells [.ptr c.d 0])) (n1:t9≠c.e) (n2:t9≠c.g) (H:List aa) (hH:SG c G H) :
 aw Tryz.prog 103 ([]++[.int .i64 x]++[.ptr t9 0,.aj (.int .i64 i)]) H (SB (SG c G) (R c.O (c.tm i) (c.tm x))):=by
 refine V0.2.calls rfl ?_
 simp only [V0,aK,List.nil_append,List.cons_append]
 have h9':H[t9]?=some (.cells [.ptr c.d 0]):=by rw [hH.2.get t9 n1 n2,h9]
 simp +contextual only [h9',sZ,Nat.reduceEqDiff,Nat.reduceAdd,Nat.reduceLT,↓reduceIte,reduceCtorEq]
 refine ag (kj hc hi hx H hH.1) ?_
 rintro r G' ⟨b,rfl,hb,hU,hD⟩
 simp +contextual only [sZ,↓reduceIte,reduceCtorEq]
 exact Be (SG.len c G) rfl hb hH ⟨hD,hH.2.trans hU⟩
theorem ach {c:Cx} (hc:c.Ok) {i:Int} (hi:c.dP i) {t9 t10 id cap:Nat} {l:List Int} {G:List aa} (hl:∀ x∈l,c.dP x) (yy:l.length≤cap) (MN:l.length≤1000000000)
 (h9:G[t9]?=some (.cells [.ptr c.d 0])) (n1:t9≠c.e) (n2:t9≠c.g)
 (h10:G[t10]?=some (.cells [.aU id 0 l.length cap])) (m1:t10≠c.e) (m2:t10≠c.g)
 (hg:G[id]?=some (bn zI (ints l) cap)) (k1:id≠c.e) (k2:id≠c.g) (H:List aa) (hH:SG c G H) :
 aw Tryz.prog 101 ([]++[.int .i64 i]++[.ptr t10 0,.ptr t9 0]) H (SB (SG c G) (¬ ∃ x∈l,R c.O (c.tm i) (c.tm x))):=by
 refine VZ.2.calls rfl ?_
 simp only [VZ,aK,List.nil_append,List.cons_append]
 have aci:H[t10]?=some (.cells [.aU id 0 l.length cap]):=by rw [hH.2.get t10 m1 m2,h10]
 simp +contextual only [aci,sZ,Nat.reduceEqDiff,Nat.reduceAdd,Nat.reduceLT,↓reduceIte,reduceCtorEq]
 refine ag (YE (SG.len c G) (fun G' eF=>by rw [eF.2.get id k1 k2,hg]) yy MN 103 [] [.ptr t9 0,.aj (.int .i64 i)] rfl rfl (fun x hx H' hH'=>acg hc hi (hl x hx) h9 n1 n2 H' hH') hH) ?_
 rintro r G' ⟨b,rfl,hb,hG⟩
 simp +contextual only [sZ,↓reduceIte,reduceCtorEq]
 refine Be (SG.len c G) (b:=!b) (by simp) ?_ hH hG
 rw [← hb];cases b <;> simp
end Go.aJ
end
section
set_option maxRecDepth 100000
set_option maxHeartbeats 0
namespace Go.aJ
open Go Go.Proofs
noncomputable def YF:=aK Tryz.call37 Tryz.func37 Tryz.ntmps37 [(0,0,1),(0,1,1),(9,2,2000),(10,0,1),(10,12,2000),(10,15,1),(11,4,2000)] [(0,[2,3,4]),(1,[2,4,8]),(2,[2,4,8,18]),(3,[6,7]),(4,[2,4,22]),(5,[6,7]),(6,[9,10]),(7,[9,10,11]),(8,[9,10,11,31]),(9,[9,10,11,12]),(10,[9,10,11,12]),(11,[9,10,11]),(12,[6,7])] [(10,(.take 1 true (.take 2 true (.take 3 true (.take 4 true (.take 5 true (.take 6 true (.take 7 true (.take 8 true (.take 9 true (.take 10 true (.take 11 true (.br 0 (.br 12 (.take 13 true (.br 14 (.br 15 .done .nil) .nil)) .nil) (.br 12 (.take 13 true (.br 0 (.br 14 (.br 15 .done .nil) .nil) .nil)) .nil))))))))))))))]
noncomputable def Rp:=aK Tryz.call104 Tryz.func104 Tryz.ntmps104 [(1,4,2),(5,4,2000),(7,0,3003)] [(0,[1,2]),(1,[1,2]),(2,[1,2,10,11,12]),(3,[1,2,10,11,12,13]),(4,[1,2,3,4,10,11,12]),(5,[1,2,10,11,12]),(6,[1,2,10,11,12]),(7,[2])] [(5,(.take 3 true (.take 0 false (.take 2 false (.br 1 (.br 4 (.take 5 true (.br 6 .done .nil)) .nil) (.br 4 (.take 1 true (.take 5 true (.br 6 .done .nil))) .nil))))))]
end Go.aJ
end
section
set_option maxRecDepth 100000
namespace Go.aJ
open Go Go.Proofs Go.eN
def zT:AV:=.agg [.int .i64 0,.int .i64 0,.ah]
theorem Mf:jo 3 (bQ zT):=⟨rfl,rfl,rfl,rfl⟩
theorem uj (t:T):t.av=.agg [.int .i64 t.k,.int .i64 t.n,.al 0 (bS t.l)]:=by cases t;rfl
theorem xv (t:T):jo 3 t.av:=by
 rw [uj]
 exact ⟨rfl,rfl,by simp [AV.cells,dQ,bE,cN,gW,ch],rfl⟩
theorem Hq {l:List T} {x:AV} (h:x∈bS l):∃ t∈l,x=t.av:=by
 induction l with
 | nil=>cases h
 | cons y r ih=>
   rcases UQ.1 h with rfl | h
   ·exact ⟨y,aan,rfl⟩
   ·obtain ⟨t,ht,e⟩:=ih h;exact ⟨t,aai _ ht,e⟩
theorem pd (l:List T):∀ x∈bS l,jo 3 x:=by
 intro x hx;obtain ⟨t,_,rfl⟩:=Hq hx;exact xv t
theorem Hr {l:List T} {i:Nat} (h:i < l.length):(bS l).getD i .any=(l.getD i default).av:=by
 induction l generalizing i with
 | nil=>simp at h
 | cons x r ih=>
   cases i with
   | zero=>rfl
   | succ i=>simpa [bS] using ih (i:=i) (by simpa using h)
theorem jb (l:List T):(bS l).length=l.length:=by induction l with | nil=>rfl | cons x r ih=>simp [bS,ih]
def CT (base:Nat) (v:AV) (l:List T) (G:List aa):Prop:=
 (l=[]∧v=.ah)∨∃ id cap,base≤id∧v=.aU id 0 l.length cap∧G[id]?=some (bn zT (bS l) cap)∧l.length≤cap
theorem CT.one {base:Nat} {v:AV} {l:List T} {G:List aa} (h:CT base v l G):v.one=true∧v.val=true∧v.ae=v∧v.cells=[v]:=by
 rcases h with ⟨_,rfl⟩ | ⟨id,cap,_,rfl,_⟩ <;> exact ⟨rfl,rfl,rfl,rfl⟩
theorem CT.a8 {base:Nat} {v:AV} {l:List T} {G:List aa} (h:CT base v l G) {n:Nat} (hn:G.length≤n):v.a8 n=true:=by
 rcases h with ⟨_,rfl⟩ | ⟨id,cap,_,rfl,c,_⟩
 ·rfl
 ·have:=(aaw.1 c).1
  rw [j3];simp;omega
theorem CT.len {base:Nat} {v:AV} {l:List T} {G:List aa} (h:CT base v l G) {H:List aa} (φ:AV→Prop):fz v H φ=φ (.int .i64 l.length):=by
 rcases h with ⟨rfl,rfl⟩ | ⟨id,cap,_,rfl,_⟩ <;> rfl
theorem CT.aN {base:Nat} {v:AV} {l:List T} {G:List aa} (h:CT base v l G):aN 1 v=True:=by
 rcases h with ⟨rfl,rfl⟩ | ⟨id,cap,_,rfl,_⟩ <;> rfl
theorem Mg (o:Nat) (φ:AV→Prop):dl 0 false (.al o []) φ=(φ (.bool true)∧φ (.bool false)):=by simp [dl,isNil]
theorem Mh (o:Nat) (x:AV) (r:List AV) (φ:AV→Prop):dl 0 false (.al o (x::r)) φ=φ (.bool false):=by simp [dl,isNil]
theorem Mi {esz bytes:Nat} {z:AV} {id o:Nat} {G:List aa} (bm:G[id]?=some (.cells [])) {K:AV→List aa→Prop} (hK:K (.aU id 0 0 0) G):cT esz bytes z (.aU id 0 0 0) (.al o []) G K:=by
 unfold cT
 simp only [dB,bm]
 refine ⟨fun y h=>by simp at h,by simp,yo _,by simp,fun _=>⟨by simp [flat,ak],?_⟩,fun h=>absurd h (by simp)⟩
 have e:ai ([]:List AV) ((0 + 0) * esz) (List.map AV.ae (flat []))=[]:=by simp [ai,flat]
 simp only [flat,ai,adZ,List.map_nil,List.length_nil,abX,List.take_nil,List.drop_nil]
 rw [FL bm]
 exact hK
theorem ack (l:List T) (H:List aa) (hb:l.length * 40≤140737488355328):aw Tryz.prog 58 [.al 0 (bS l)] H fun r H'=>CT H.length r l H'∧H'.take H.length=H∧H.length≤H'.length:=by
 refine Xe.2.calls rfl ?_
 simp only [Xe,aK]
 cases l with
 | nil=>
   simp +contextual only [bS,Mg,vg,tP,sZ,Nat.reduceEqDiff,Nat.reduceAdd,↓reduceIte,reduceCtorEq]
   refine ⟨aX H.length (yo _) (by rw [aA,if_pos rfl];rfl) ⟨.inl ⟨rfl,by rw [aA,if_pos rfl]⟩,by simp,by simp⟩,?_⟩
   refine ⟨rfl,Mi (by simp [flat]) ?_⟩
   simp +contextual only [sZ,↓reduceIte,reduceCtorEq]
   refine aX (H.length + 1) (by omega) (by rw [aA,if_pos rfl,j3];exact decide_eq_true (by omega)) ?_
   rw [aA,if_pos rfl,aak (by simp)]
   exact ⟨.inr ⟨H.length,0,yo _,rfl,by simp [bn,bS,flat,cS],yo _⟩,by simp,by simp⟩
 | cons v r=>
   simp +contextual only [bS,Mh,vg,tP,sZ,Nat.reduceEqDiff,Nat.reduceAdd,↓reduceIte,reduceCtorEq]
   refine ⟨rfl,Hb Mf (by simp [flat]) (bS (v::r)) (by simp [bS]) (pd _) (by rw [jb];exact hb) (base:=H.length) (by simp) fun v' G' hR hG hl=>?_⟩
   obtain ⟨o1,o2,o3,o4⟩:=hR.one
   simp +contextual only [o3,sZ,↓reduceIte,reduceCtorEq]
   have BL:H.length≤G'.length:=by simp at hl;omega
   refine aX G'.length BL (by rw [aA,if_pos rfl];exact hR.a8 (yo _)) ?_
   rw [aA,if_pos rfl,aa8]
   refine ⟨?_,by rw [hG];simp,BL⟩
   rcases hR with ⟨h,_⟩ | ⟨id,cap,a,b,c,d,_⟩
   ·cases h
   ·rw [jb] at b d;exact .inr ⟨id,cap,a,b,c,d⟩
theorem loadT {l:List T} {cap i:Nat} (h:i < l.length) (φ:AV→Prop):cL (some (bn zT (bS l) cap)) (some 3) (i * 3) φ=φ (l.getD i default).av:=by
 obtain ⟨g1,_⟩:=jo.flat (pd l)
 rw [jb] at g1
 have h1:=pZ (pd l) i (by rw [jb];exact h)
 rw [Hr h] at h1
 have Er:(l.getD i default).av.cells.length=3:=(xv _).len
 have e:((flat (bS l)++cS zT (cap - (bS l).length)).drop (i * 3)).take 3=(l.getD i default).av.cells:=by
  rw [adb (by omega),h1,aa2,aa5 (by omega),aak (by omega)]
 simp only [bn,cL,e,eq_iff_iff,aab]
 have e2:AV.agg ((l.getD i default).av.cells.map AV.drop)=(l.getD i default).av:=by rw [uj];rfl
 rw [e2]
 constructor
 ·exact fun h=>h.2
 ·exact fun h2=>⟨by omega,h2⟩
theorem storeT {l:List T} {cap i id:Nat} (h:i < l.length) {H:List aa} (hg:H[id]?=some (bn zT (bS l) cap)) {K:List aa→Prop} (hK:K H):iH (some (bn zT (bS l) cap)) 3 id (i * 3) (l.getD i default).av H K:=by
 obtain ⟨g1,_⟩:=jo.flat (pd l)
 rw [jb] at g1
 have h1:=pZ (pd l) i (by rw [jb];exact h)
 rw [Hr h] at h1
 have ho:=xv (l.getD i default)
 have Er:=ho.len
 have hs:ai (flat (bS l)++cS zT (cap - (bS l).length)) (i * 3) ((l.getD i default).av.cells.map AV.ae)=flat (bS l)++cS zT (cap - (bS l).length):=by
  rw [ho.un]
  unfold ai
  have e1:(flat (bS l)++cS zT (cap - (bS l).length)).drop (i * 3)=(l.getD i default).av.cells++(flat ((bS l).drop (i + 1))++cS zT (cap - (bS l).length)):=by
   rw [adb (by omega),h1,aa2]
  have e2:(flat (bS l)++cS zT (cap - (bS l).length)).drop (i * 3 + (l.getD i default).av.cells.length)=flat ((bS l).drop (i + 1))++cS zT (cap - (bS l).length):=by
   rw [← aed,e1,aeb]
  rw [e2,← e1,adB]
 have hv:(l.getD i default).av.val=true:=by rw [uj];rfl
 simp only [bn,iH]
 refine ⟨hv,Er,by rw [aab];omega,ho.one,by rw [ho.un];exact bu (ac1 _) _ ho.bl,?_⟩
 rw [hs,show (aa.cells (flat (bS l)++cS zT (cap - (bS l).length)))=bn zT (bS l) cap from rfl,FL hg]
 exact hK
theorem CT.set {base:Nat} {v:AV} {l:List T} {G:List aa} (h:CT base v l G) {j:Nat} (hj:j < base) (o:aa):CT base v l (G.set j o):=by
 rcases h with h | ⟨id,cap,a,b,c,d⟩
 ·exact .inl h
 ·exact .inr ⟨id,cap,a,b,by rw [yq (by omega)];exact c,d⟩
theorem CT.s6 {base:Nat} {v:AV} {l:List T} {G:List aa} (h:CT base v l G) (X:List aa):CT base v l (G++X):=by
 rcases h with h | ⟨id,cap,a,b,c,d⟩
 ·exact .inl h
 ·exact .inr ⟨id,cap,a,b,by rw [yp (aM c)];exact c,d⟩
theorem CT.get {base:Nat} {v:AV} {l:List T} {G:List aa} (h:CT base v l G) {i:Nat} (hi:i < l.length):∃ id cap,base≤id∧v=.aU id 0 l.length cap∧G[id]?=some (bn zT (bS l) cap)∧l.length≤cap:=by
 rcases h with ⟨rfl,_⟩ | h
 ·simp at hi
 ·exact h
theorem acm:∀ (n:Nat) (t:T),wt t≤n→wt t≤1000000000→Pure Tryz.prog 104 [t.av] t.av:=by
 intro n
 induction n with
 | zero=>intro t h;have:=fO t;omega
 | succ n ih=>
   intro t hn hb H
   refine Rp.2.E9 rfl ?_
   simp only [Rp,aK]
   have hw:=Dz t
   have ZB:=iN t.l
   rw [uj]
   simp +contextual only [sZ,Nat.reduceEqDiff,Nat.reduceAdd,Nat.reduceLT,↓reduceIte]
   have yL:(H++[aa.cells [.int .i64 t.k,.int .i64 t.n,.al 0 (bS t.l)],.cells [.int .i64 0,.int .i64 0,.ah]]).length=H.length + 2:=by simp
   refine ag (ack t.l _ (by omega)) ?_
   rintro v G ⟨hC,hG,hl⟩
   rw [yL] at hC hG hl
   obtain ⟨o1,o2,o3,o4⟩:=hC.one
   have g0:G[H.length]?=some (.cells [.int .i64 t.k,.int .i64 t.n,.al 0 (bS t.l)]):=by
    have:(G.take (H.length + 2))[H.length]?=G[H.length]?:=by rw [aam,if_pos (by omega)]
    rw [← this,hG];simp
   have g1:G[H.length + 1]?=some (.cells [.int .i64 0,.int .i64 0,.ah]):=by
    have:(G.take (H.length + 2))[H.length + 1]?=G[H.length + 1]?:=by rw [aam,if_pos (by omega)]
    rw [← this,hG];simp
   have eF:G.take H.length=H:=by
    have:G.take H.length=(G.take (H.length + 2)).take H.length:=by rw [List.take_take];congr 1;omega
    rw [this,hG];simp
   have YG:=hC.a8 (yo _)
   have Ej:H.length < G.length:=by omega
   have gJ:∀ o,(G.set H.length o)[H.length]?=some o:=fun o=>Rx Ej
   simp +contextual only [sQ,o1,o2,o3,o4,g0,YG,gJ,hC.aN,hC.len,sZ,Nat.reduceEqDiff,Nat.reduceAdd,Nat.reduceLT,↓reduceIte]
   refine mF t.l.length (fun i (G:List aa)=>CT (H.length + 2) v t.l G∧G[H.length]?=some (.cells [.int .i64 t.k,.int .i64 t.n,v])∧G[H.length + 1]?=some (.cells [.int .i64 0,.int .i64 0,.ah])∧G.take H.length=H)
    (fun i G=>[(1,.ptr H.length 0),(2,.ptr (H.length + 1) 0),(10,v),(11,.int .i64 t.l.length),(12,.int .i64 i)]) (fun i G=>G) (G.set H.length (.cells [.int .i64 t.k,.int .i64 t.n,v]))
    ⟨⟨hC.set (by omega) _,gJ _,by rw [yq (by omega)];exact g1,by rw [abO (by omega)];exact eF⟩,oW _ _ _⟩ fun i G hi hI=>?_
   clear hG g0 g1 eF YG Ej gJ hl hC
   obtain ⟨hC,g0,g1,hG⟩:=hI
   by_cases aS:i < t.l.length
   ·have nu:((i:Int) < t.l.length)=True:=eq_true (by omega)
    obtain ⟨id,cap,bm,rfl,hg,cA⟩:=hC.get aS
    have yL:=aM hg
    have P5:∀ X,(G++X)[id]?=some (bn zT (bS t.l) cap):=fun X=>by rw [yp yL];exact hg
    have g0':∀ X,(G++X)[H.length]?=some (.cells [.int .i64 t.k,.int .i64 t.n,.aU id 0 t.l.length cap]):=fun X=>by rw [yp (aM g0)];exact g0
    have hx:=uj (t.l.getD i default)
    have hL:∀ φ,cL (some (bn zT (bS t.l) cap)) (some 3) (i * 3) φ=φ (.agg [.int .i64 (t.l.getD i default).k,.int .i64 (t.l.getD i default).n,.al 0 (bS (t.l.getD i default).l)]):=fun φ=>by rw [← hx];exact loadT aS φ
    have hwx:wt (t.l.getD i default)≤ij t.l:=by
     have:=ol aS;have:=dn t.l (i + 1);omega
    have hcall:=ih (t.l.getD i default) (by omega) (by omega)
    rw [hx] at hcall
    have hS:=fun {H':List aa} (hg:H'[id]?=some (bn zT (bS t.l) cap)) {K:List aa→Prop} (hK:K H')=>storeT (id:=id) aS hg hK
    rw [hx] at hS
    simp +contextual only [nu,decide_true,ig,hg,hL,g0',sZ,Nat.reduceEqDiff,Nat.reduceAdd,Nat.reduceLT,↓reduceIte,reduceCtorEq]
    refine ⟨aS,af hcall ?_,af hcall ?_⟩
    all_goals
     simp +contextual only [ig,g0',P5,sZ,Nat.reduceEqDiff,Nat.reduceAdd,Nat.reduceLT,↓reduceIte,reduceCtorEq]
     refine ⟨aS,hS (P5 _) ?_⟩
     simp +contextual only [sZ,Nat.reduceEqDiff,↓reduceIte]
     refine ⟨i + 1,_,⟨aS,hC.s6 _,g0' _,by rw [yp (aM g1)];exact g1,by rw [aa5 (by have:=aM g1;omega)];exact hG⟩,by omega,AZ (by rw [ay i (by omega)]) rfl⟩
   ·have l9:i=t.l.length:=by omega
    have nu:((i:Int) < t.l.length)=False:=eq_false (by omega)
    simp +contextual only [sQ,nu,decide_false,g0,sZ,Nat.reduceEqDiff,↓reduceIte]
    have fin:∀ (G':List aa),G'[H.length + 1]?=some (.cells [.int .i64 t.k,.int .i64 t.n,.al 0 (bS t.l)])→G'.take H.length=H→cL G'[H.length + 1]? (some 3) 0 fun v=>wQ (nc H.length) H.length v G' fun r H'=>r=AV.agg [AV.int IntKind.i64 t.k,AV.int IntKind.i64 t.n,AV.al 0 (bS t.l)]∧H'=H:=by
     intro G' h1 h2
     rw [h1,GS]
     exact ⟨H.length,H,yo _,IZ h2 rfl,_,le_refl _,by simp [AV.drop,wJ,bE,cN,gW,ch,dQ],rfl,rfl⟩
    have ls:∀ (l:List AV) (G':List aa),(∀ o,(G'.set (H.length + 1) o).take H.length=G'.take H.length):=fun l G' o=>abO (by omega)
    have qK:=aM g1
    rcases hC with ⟨e,rfl⟩ | ⟨id,cap,bm,rfl,hg,cA⟩
    ·rw [e] at fin ⊢
     have e1:∀ (K:AV→List aa→Prop),dD 3 AV.ah.drop G K=K (.al 0 []) G:=fun K=>rfl
     rw [e1]
     simp +contextual only [sQ,g1,sZ,Nat.reduceEqDiff,Nat.reduceAdd,↓reduceIte,reduceCtorEq]
     exact fin _ (Rx qK) (by rw [abO (by omega)];exact hG)
    ·have e1:∀ l c,(AV.aU id 0 l c).drop=.aU id 0 l c:=fun _ _=>rfl
     rw [e1]
     have ef:=fun K hK=>wR (esz:=3) (by decide) Mf (pd t.l) (fun x hx=>by obtain ⟨y,_,rfl⟩:=Hq hx;rw [uj];rfl) hg (by rw [jb];exact cA) (K:=K) hK
     rw [jb] at ef
     refine ef _ ?_
     have g1':(G.set id .dead)[H.length + 1]?=some (.cells [.int .i64 0,.int .i64 0,.ah]):=by rw [yq (by omega)];exact g1
     simp +contextual only [sQ,g1',sZ,Nat.reduceEqDiff,Nat.reduceAdd,↓reduceIte,reduceCtorEq]
     exact fin _ (Rx (by simpa using qK)) (by rw [abO (by omega),abO (by omega)];exact hG)
end Go.aJ
end
section
set_option maxRecDepth 100000
namespace Go.aJ
open Go Go.Proofs Go.eN
def Mj (r:T→T→Bool) (l:List T):Nat:=l.findIdx fun a=>l.all fun x=>!r a x
def yd (r:T→T→Bool):Nat→List T→List T
 | 0,_=>[]
 | n + 1,l=>l.getD (Mj r l) default::yd r n (l.eraseIdx (Mj r l))
theorem Rq {r:T→T→Prop} (hi:∀ a,¬ r a a) (ht:∀ a b c,r a b→r b c→r a c):∀ l:List T,l≠[]→∃ a∈l,∀ x∈l,¬ r a x
 | [],h=>absurd rfl h
 | [a],_=>⟨a,aan,fun x hx=>by rcases UQ.1 hx with rfl | hx;exact hi _;cases hx⟩
 | a::b::l,_=>by
   obtain ⟨m,hm,hl⟩:=Rq hi ht (b::l) (by simp)
   by_cases h:r m a
   ·refine ⟨a,aan,fun x hx=>?_⟩
    rcases UQ.1 hx with rfl | hx
    ·exact hi _
    ·exact fun h'=>hl x hx (ht _ _ _ h h')
   ·refine ⟨m,aai _ hm,fun x hx=>?_⟩
    rcases UQ.1 hx with rfl | hx
    ·exact h
    ·exact hl x hx
noncomputable def ym (s:Sg) (ps ss:List Int) (ts:List T):List T×Int:=
 if iJ s ps ss ts=0 then if 1000 < ts.length then ([],2) else (yd (Jf ps ss) ts.length ts,0) else ([],iJ s ps ss ts)
theorem P6 (n:Nat):cS zI n=ints (List.replicate n 0):=by
 induction n with
 | zero=>rfl
 | succ n ih=>
   have e:cS zI (n + 1)=.int .i64 0::cS zI n:=rfl
   rw [e,ih];rfl
theorem D7 (l:List Int) (cap:Nat):bn zI (ints l) cap=.cells (ints (l++List.replicate (cap - l.length) 0)):=by
 rw [Bd,P6,lL]
theorem YH {L:List Int} {n id cap:Nat} (hn:n < L.length) (hc:L.length≤cap) (hb:L.length≤1000000000) {H:List aa} (hg:H[id]?=some (bn zI (ints L) cap)) :
 aw Tryz.prog 105 [.aU id 0 L.length cap,.int .i64 (n:Int),.int .i64 ((n:Int) + 1)] H fun r H'=>r=.aU id 0 (L.eraseIdx n).length cap∧H'=H.set id (bn zI (ints (L.eraseIdx n)) cap):=by
 have e1:L=L.take n++L.getD n 0::L.drop (n + 1):=by
  have:L.getD n 0=L[n]:=by simp [hn]
  rw [this,← aaU hn,adB]
 have e2:L.eraseIdx n=L.take n++L.drop (n + 1):=adu ..
 have l1:(L.take n).length=n:=by simp;omega
 have l2:(L.drop (n + 1)).length=L.length - (n + 1):=by simp
 have hp:(L.take n++L.getD n 0::L.drop (n + 1)++List.replicate (cap - L.length) 0).length=cap:=by rw [← e1];simp;omega
 have P5:H[id]?=some (.cells (ints (L.take n++L.getD n 0::L.drop (n + 1)++List.replicate (cap - L.length) 0))):=by rw [← e1,← D7];exact hg
 have h:=acf (L.take n) (L.drop (n + 1)) (List.replicate (cap - L.length) 0) (L.getD n 0) (by rw [← e1];exact hb) id cap hp.symm P5
 have el:L.take n++L.drop (n + 1)++0::List.replicate (cap - L.length) 0=L.eraseIdx n++List.replicate (cap - (L.eraseIdx n).length) 0:=by
  rw [e2]
  congr 1
  rw [aab,l1,l2,show cap - (n + (L.length - (n + 1)))=(cap - L.length) + 1 by omega]
  rfl
 have ll:(L.eraseIdx n).length=(L.take n).length + (L.drop (n + 1)).length:=by rw [e2,aab]
 rw [el,l1,l2,show n + 1 + (L.length - (n + 1))=L.length by omega] at h
 rw [D7,ll,l1,l2]
 rw [ll,l1,l2] at h
 exact h
theorem Mk {r:T→T→Bool} {l:List T} {n:Nat} (hn:n < l.length) (h1:∀ x∈l,r (l.getD n default) x=false) (h2:∀ j,j < n→∃ x∈l,r (l.getD j default) x=true):Mj r l=n:=by
 unfold Mj
 rw [List.findIdx_eq hn]
 refine ⟨?_,fun j hj=>?_⟩
 ·have e:l[n]=l.getD n default:=by simp [hn]
  rw [e,aaL]
  intro x hx;rw [h1 x hx];rfl
 ·obtain ⟨x,hx,h⟩:=h2 j hj
  have mZ:j < l.length:=by omega
  have e:l[j]=l.getD j default:=by simp [mZ]
  rw [e,adz]
  exact ⟨x,hx,by rw [h];simp⟩
theorem xw {c:Cx} {L:List Int} {n:Nat} (h:n < L.length):(L.map c.tm).getD n default=c.tm (L.getD n 0):=by simp [h]
theorem Ht {Hs G:List aa} {n0:Nat} {l:List T} {e:Int} {u:AV} (hu:u.ae.le (.al 0 (bS l))) (hH:Hs.take n0=G):bV n0 [.t 6,.t 7] [(6,u),(7,.int .i64 e)] Hs (fun r H'=>r=.tuple [.al 0 (bS l),.int .i64 e]∧H'=G):=by
 subst hH
 refine ⟨n0,yo _,[.al 0 (bS l),.int .i64 e],?_,by simp [ak,ch,dQ,gW],rfl,rfl⟩
 exact ⟨hu,le_refl _,trivial⟩
theorem mU (vs:List T):(sY vs).ae.le (.al 0 (bS vs)):=by
 cases vs with
 | nil=>exact .inr (.inr (.inr (.inl ⟨rfl,0,rfl⟩)))
 | cons v r=>exact le_refl _
theorem Du.UA {c:Cx} {H:List aa} {n:Nat} (h:Du c (H.take n)) (hn:True):Du c H:=by
 have hg:∀ {j:Nat} {o:aa},(H.take n)[j]?=some o→H[j]?=some o:=by
  intro j o h
  rw [aam] at h
  split at h
  ·exact h
  ·cases h
 exact ⟨hg h.d,by obtain ⟨m,h1,h2⟩:=h.e;exact ⟨m,hg h1,h2⟩,by obtain ⟨m,h1,h2⟩:=h.g;exact ⟨m,hg h1,h2⟩⟩
theorem c37 (s:Sg) (ps ss:List Int) (ts:List T) (hlen:ts.length < 9223372036854775808):Pure Tryz.prog 37 [s.av,fa ps ss,.al 0 (bS ts)] (.tuple [.al 0 (bS (ym s ps ss ts).1),.int .i64 (ym s ps ss ts).2]):=by
 refine fun H=>YF.2.calls rfl ?_
 simp only [YF,aK]
 obtain ⟨q1,q2,q3,q4,q5,q6⟩:=bi ps ss
 simp +contextual only [aZ,q1,q4,cW,sZ,Nat.reduceEqDiff,Nat.reduceAdd,↓reduceIte,reduceCtorEq]
 refine af (X0 s ps ss ts) ?_
 by_cases h0:iJ s ps ss ts=0
 ·by_cases Nl:1000 < ts.length
  ·have e:ym s ps ss ts=([],2):=by unfold ym;rw [if_pos h0,if_pos Nl]
   have eu:((1000:Int) < ts.length)=True:=eq_true (by omega)
   rw [e]
   simp +contextual only [h0,eu,decide_true,hlen,sZ,Nat.reduceEqDiff,↓reduceIte,reduceCtorEq]
   exact Ht (mU []) aa8
  ·have e:ym s ps ss ts=(yd (Jf ps ss) ts.length ts,0):=by unfold ym;rw [if_pos h0,if_neg Nl]
   have eu:((1000:Int) < ts.length)=False:=eq_false (by omega)
   rw [e]
   have hr:=rH h0
   have hw:=mR hr.tree
   simp +contextual only [q4,cW,h0,eu,decide_false,hlen,sZ,Nat.reduceEqDiff,Nat.reduceAdd,↓reduceIte]
   refine ag (aca ps ss ts H (by omega)) ?_
   rintro r G ⟨va,rfl,hG,hGl,hR⟩
   obtain ⟨o1,o2,o3,o4⟩:=hR.one
   have YG:∀ n,G.length≤n→va.a8 n=true:=fun n hn=>hR.a8 hn
   have pN:=YG (G.length + 2) (by omega)
   have pr:∀ o o',va.a8 (G++[o,o']:List aa).length=true:=fun o o'=>YG _ (by simp)
   have hp1:(AV.ptr (H.length + 2) 0).a8 (G.length + 1)=true:=by rw [sN];exact decide_eq_true (by omega)
   simp +contextual only [o1,o2,o3,o4,pN,hp1,sZ,Nat.reduceEqDiff,Nat.reduceAdd,Nat.reduceLT,↓reduceIte]
   refine ⟨rfl,by decide,?_⟩
   have hG0:G.take H.length=H:=by
    have:G.take H.length=(G.take (H.length + 3)).take H.length:=by rw [List.take_take];congr 1;omega
    rw [this,hG];simp
   rcases hR with ⟨e1,rfl⟩ | ⟨id,cap,bm,rfl,hg,cA,eU⟩
   ·have e2:ts=[]:=by
     have:=cF ts 0
     have h3:aY ts 0=[]:=ads.1 e1
     rw [h3] at this
     exact abt.1 this.symm
    subst e2
    refine aB 0 (fun _ _=>True) (fun i (p:Unit)=>[(9,.ptr G.length 0),(10,.ptr (G.length + 1) 0),(11,.ah)]) (fun i p=>G++[.cells [.ptr (H.length + 2) 0],.cells [.ah]]) () ⟨trivial,aE rfl ?_⟩ fun i p hi hI=>?_
    ·rfl
    ·simp +contextual only [sZ,Nat.reduceEqDiff,Nat.reduceAdd,Nat.reduceLT,↓reduceIte,reduceCtorEq,Int.reduceLT]
     exact Ht (mU []) (by rw [aa5 (by omega)];exact hG0)
   ·have RI:ts≠[]:=fun e=>eU (by rw [e];rfl)
    have acn:id < G.length:=aM hg
    obtain ⟨c,ec⟩:∃ c,c=gK ps ss ts H.length:=⟨_,rfl⟩
    have hc:c.Ok:=by rw [ec];exact hr.cx RI (by omega) H.length
    have cO:c.O=ko ps ss:=by rw [ec];rfl
    have cd:c.d=H.length + 2:=by rw [ec];rfl
    have ce:c.e=H.length:=by rw [ec];rfl
    have cg:c.g=H.length + 1:=by rw [ec];rfl
    have hD0:Du c (G++[.cells [.ptr (H.length + 2) 0],.cells [.aU id 0 (aY ts 0).length cap]]):=by
     have h1:=zC ps ss RI H
     rw [← ec,← hG] at h1
     exact Du.s6 (h1.UA trivial) _
    obtain ⟨k1,k2⟩:=(PO ts).kids
    have YI:(aY ts 0).map c.tm=ts:=by rw [ec];exact k1
    have aco:∀ x∈aY ts 0,c.dP x:=by rw [ec];exact k2
    rw [ax] at *
    have Cg:=cF ts 0
    refine aB ts.length (fun j (p:List Int×List T×List aa)=>j + p.1.length=ts.length∧(∀ x∈p.1,c.dP x)∧yd (Jf ps ss) ts.length ts=p.2.1++yd (Jf ps ss) p.1.length (p.1.map c.tm)∧p.2.1.length=j∧Du c p.2.2∧
     p.2.2[G.length]?=some (.cells [.ptr c.d 0])∧p.2.2[G.length + 1]?=some (.cells [.aU id 0 p.1.length cap])∧p.2.2[id]?=some (bn zI (ints p.1) cap)∧p.2.2.take H.length=H∧p.1.length≤cap∧∀ x∈p.1,c.tm x∈ts)
     (fun i p=>[(9,.ptr G.length 0),(10,.ptr (G.length + 1) 0),(11,sY p.2.1)]) (fun i p=>p.2.2) (aY ts 0,[],G++[.cells [.ptr (H.length + 2) 0],.cells [.aU id 0 (aY ts 0).length cap]])
     ⟨⟨by simp [Cg],aco,by rw [YI,Cg];rfl,rfl,hD0,by rw [cd];simp,by simp,by rw [yp acn];exact hg,by rw [aa5 (by omega)];exact hG0,cA,fun x hx=>by rw [← YI];exact aea hx⟩,aE rfl rfl⟩ fun j p hj hI=>?_
    obtain ⟨L,out,F⟩:=p
    obtain ⟨i1,i2,i3,i4,i5,i6,i7,i8,i9,i10,i11⟩:=hI
    simp only at i1 i2 i3 i4 i5 i6 i7 i8 i9 i10 i11
    have MN:L.length≤1000:=by omega
    by_cases hL:L=[]
    ·have hz:((0:Int) < (L.length:Int))=False:=eq_false (by rw [hL];simp)
     have Zs:(sY out).ae.ae=(sY out).ae:=by cases out <;> rfl
     simp +contextual only [i7,hz,decide_false,Zs,sZ,Nat.reduceEqDiff,Nat.reduceAdd,Nat.reduceLT,↓reduceIte,reduceCtorEq]
     have e2:yd (Jf ps ss) ts.length ts=out:=by rw [i3,hL];simp [yd]
     rw [e2]
     exact Ht (by rw [Zs];exact mU out) i9
    ·have ns:=ad9.2 hL
     have hz:((0:Int) < (L.length:Int))=True:=eq_true (by omega)
     simp +contextual only [i7,hz,decide_true,sZ,Nat.reduceEqDiff,Nat.reduceAdd,Nat.reduceLT,↓reduceIte,reduceCtorEq]
     refine ag (Ro (Q:=fun i=>¬ ∃ x∈L,R c.O (c.tm i) (c.tm x)) (SG.len c F) (fun G' eF=>by rw [eF.2.get id (by omega) (by omega),i8]) i10 (by omega) 101 [] [.ptr (G.length + 1) 0,.ptr G.length 0] rfl rfl
      (fun x hx H' hH'=>ach hc (i2 x hx) i2 i10 (by omega) i6 (by omega) (by omega) i7 (by omega) (by omega) i8 (by omega) (by omega) H' hH') ⟨i5,Up.refl c F⟩) ?_
     rintro r F1 ⟨⟨nz,ZN⟩,hq⟩
     have RH:∃ n:Nat,r=.int .i64 n∧n < L.length∧(¬ ∃ x∈L,R c.O (c.tm (L.getD n 0)) (c.tm x))∧∀ j,j < n→∃ x∈L,R c.O (c.tm (L.getD j 0)) (c.tm x):=by
      rcases hq with ⟨_,hq⟩ | ⟨n,h1,h2,h3,h4⟩
      ·exfalso
       obtain ⟨m,hm,h1⟩:=Rq (r:=fun a b=>R c.O a b) (fun a=>Xu rfl) (fun a b d h h'=>PH h h') (L.map c.tm) (by simpa using hL)
       obtain ⟨x,hx,rfl⟩:=aag.1 hm
       refine hq x hx fun ⟨y,hy,h⟩=>h1 _ (aea hy) h
      ·exact ⟨n,h1,h2,h3,fun j hj=>Classical.not_not.1 (h4 j hj)⟩
     obtain ⟨n,rfl,hn,h1,h2⟩:=RH
     have j7:F1[G.length + 1]?=some (.cells [.aU id 0 L.length cap]):=by rw [ZN.get _ (by omega) (by omega),i7]
     have j6:F1[G.length]?=some (.cells [.ptr c.d 0]):=by rw [ZN.get _ (by omega) (by omega),i6]
     have j8:F1[id]?=some (bn zI (ints L) cap):=by rw [ZN.get _ (by omega) (by omega),i8]
     have j9:F1.take H.length=H:=by
      refine Eq.trans ?_ i9
      apply ab1
      intro k
      rw [aam,aam]
      by_cases hk:k < H.length
      ·rw [if_pos hk,if_pos hk];exact ZN.get _ (by omega) (by omega)
      ·rw [if_neg hk,if_neg hk]
     have Jv:Mj (Jf ps ss) (L.map c.tm)=n:=by
      refine Mk (by simpa using hn) (fun x hx=>?_) fun j hj=>?_
      ·obtain ⟨y,hy,rfl⟩:=aag.1 hx
       rw [xw hn]
       cases hb:Jf ps ss (c.tm (L.getD n 0)) (c.tm y) with
       | false=>rfl
       | true=>exact absurd ⟨y,hy,by rw [cO];exact vk.1 hb⟩ h1
      ·obtain ⟨y,hy,h⟩:=h2 j hj
       rw [xw (by omega)]
       exact ⟨_,aea hy,vk.2 (by rw [← cO];exact h)⟩
     have hxN:=i2 _ (aO hn)
     have je:c.nd.length≤2000000:=by
      have:c.nd=dd ts 0:=by rw [ec];rfl
      rw [this,gZ];omega
     simp +contextual only [j7,j6,j8,nz.d,mP,fN0,cG,ig,Hc hn,sZ,Nat.reduceEqDiff,Nat.reduceAdd,Nat.reduceLT,↓reduceIte,reduceCtorEq]
     have htree:=hr.tree _ (i11 _ (aO hn))
     have hwx:wt (c.tm (L.getD n 0))≤2000:=by
      have:=((T.fp _).1 htree).1;have:=LO (c.tm (L.getD n 0));omega
     have YJ:Pure Tryz.prog 104 [(c.nd.getD (L.getD n 0).toNat default).fst.av] (c.tm (L.getD n 0)).av:=acm _ (c.tm (L.getD n 0)) (yo _) (by omega)
     have LN:=YH hn i10 (by omega) j8
     have iR:(L.eraseIdx n).length=L.length - 1:=List.length_eraseIdx_of_lt hn
     refine ⟨hn,hxN,af YJ ?_,af YJ ?_⟩
     all_goals
      simp +contextual only [Pz,I3,j7,sZ,Nat.reduceEqDiff,Nat.reduceAdd,Nat.reduceLT,↓reduceIte,reduceCtorEq]
      refine ⟨by omega,?_⟩
      rw [eD _ (by omega)]
      refine ag LN ?_
      rintro r F2 ⟨rfl,rfl⟩
      have m7:(F1.set id (bn zI (ints (L.eraseIdx n)) cap))[G.length + 1]?=some (.cells [.aU id 0 L.length cap]):=by rw [yq (by omega)];exact j7
      have nD:(AV.aU id 0 (L.eraseIdx n).length cap).a8 (G.length + 1 + 1)=true:=by rw [j3];exact decide_eq_true (by omega)
      have r1:∀ l,(AV.aU id 0 l cap).one=true∧(AV.aU id 0 l cap).val=true∧(AV.aU id 0 l cap).ae=.aU id 0 l cap∧(AV.aU id 0 l cap).cells=[.aU id 0 l cap]:=fun _=>⟨rfl,rfl,rfl,rfl⟩
      obtain ⟨u1,u2,u3,u4⟩:=r1 (L.eraseIdx n).length
      simp +contextual only [m7,nD,u1,u2,u3,u4,sZ,Nat.reduceEqDiff,Nat.reduceAdd,↓reduceIte]
      refine ⟨j + 1,(L.eraseIdx n,out++[c.tm (L.getD n 0)],_),⟨by omega,by show j + 1 + (L.eraseIdx n).length=_;omega,fun x hx=>i2 x (List.mem_of_mem_eraseIdx hx),?_,by simp [i4],?_,?_,?_,?_,?_,by show (L.eraseIdx n).length≤cap;omega,fun x hx=>i11 x (List.mem_of_mem_eraseIdx hx)⟩,by omega,aE rfl rfl⟩
      ·have hs:L.length=(L.eraseIdx n).length + 1:=by omega
       rw [i3,hs,yd,Jv,xw hn,aa2]
       have em:(L.map c.tm).eraseIdx n=(L.eraseIdx n).map c.tm:=by rw [adu,adu,ac3,List.map_take,List.map_drop]
       rw [em];rfl
      ·exact (nz.set (by omega) (by omega) (by omega)).set (by omega) (by omega) (by omega)
      ·rw [yq (by omega),yq (by omega)];exact j6
      ·rw [Rx (by have:=aM j7;simp;omega)]
      ·rw [yq (by omega),Rx (aM j8)]
      ·rw [abO (by omega),abO (by omega)];exact j9
 ·have e:ym s ps ss ts=([],iJ s ps ss ts):=by unfold ym;rw [if_neg h0]
  rw [e]
  simp +contextual only [h0,sZ,Nat.reduceEqDiff,↓reduceIte,reduceCtorEq]
  exact Ht (mU []) aa8
end Go.aJ
end
section
set_option maxRecDepth 1000000
namespace Go.aJ
open Go Go.Proofs Go.eN
def vT (n:Int):T:=.mk 1 n []
def oT (n:Int) (l:List T):T:=.mk 2 n l
def fY:Sg:=⟨[⟨#[78]⟩],[⟨⟨#[122]⟩,[],0⟩,⟨⟨#[115]⟩,[0],0⟩,⟨⟨#[97,100,100]⟩,[0,0],0⟩]⟩
def YK:gL:=⟨[0],[],oT 2 [vT 0,oT 0 []],vT 0⟩
def cz:gL:=⟨[0,0],[],oT 2 [vT 0,oT 1 [vT 1]],oT 1 [oT 2 [vT 0,vT 1]]⟩
def c9:Ty:=⟨fY,[YK,cz]⟩
theorem P7:pE Tryz.prog Sb (dC Tryz.prog Sb 100000) false 64 [] []=some (c9.av,[]):=by kernel_rfl
theorem BB:pE Tryz.prog Sb (dC Tryz.prog Sb 100000) false 62 [c9.av] []=some (.int .i64 0,[]):=by kernel_rfl
theorem F5:pE Tryz.prog Sb (dC Tryz.prog Sb 100000) false 92 [c9.av] []=some (.al 0 (ints [0,1,2]),[]):=by kernel_rfl
theorem c64:Pure Tryz.prog 64 [] c9.av:=Pure.mk rfl ((u0 sM (AJ sM 100000)).1 _ _ _ _ _ P7)
theorem BC:Pure Tryz.prog 62 [c9.av] (.int .i64 0):=Pure.mk rfl ((u0 sM (AJ sM 100000)).1 _ _ _ _ _ BB)
theorem UB:Pure Tryz.prog 92 [c9.av] (.al 0 (ints [0,1,2])):=Pure.mk rfl ((u0 sM (AJ sM 100000)).1 _ _ _ _ _ F5)
end Go.aJ
end
section
set_option maxRecDepth 100000
namespace Go.aJ
open Go Go.Proofs Go.eN
theorem c66 {a b:List Int} {va vb:AV} (ha:IL va a) (hb:IL vb b) (la:a.length≤1000000000) (lb:b.length≤1000000000):Pure Tryz.prog 66 [va,vb] (.bool (decide (a=b))):=by
 refine fun H=>k66.2.calls rfl ?_
 simp only [k66,aK]
 obtain ⟨a1,a2,a3,a4⟩:=ha.one
 obtain ⟨b1,b2,b3,b4⟩:=hb.one
 simp +contextual only [a2,b2,ha.aN,hb.aN,ha.len (by omega),hb.len (by omega),sZ,Nat.reduceEqDiff,Nat.reduceAdd,↓reduceIte,reduceCtorEq]
 refine ⟨fun eU=>bf rfl (by rw [decide_eq_false (fun e=>eU (by rw [e]))]),fun heq=>?_⟩
 refine aR a.length (fun i=>∀ j,j < i→a.getD j 0=b.getD j 0)
  (fun i=>[(0,va),(1,vb),(12,.int .i64 b.length),(13,.int .i64 i)]) (fun i=>H) ⟨fun j hj=>by omega,aD _ _ _⟩ fun i hi hI=>?_
 simp +contextual only [a2,b2,ha.lens,hb.lens,ha.idx,hb.idx,aaa,sZ,Nat.reduceEqDiff,↓reduceIte,reduceCtorEq]
 refine ⟨fun aS=>⟨by omega,by omega,fun eU=>?_,fun he=>?_⟩,fun iR=>?_⟩
 ·refine bf rfl (by rw [decide_eq_false (fun e=>eU (by rw [e]))])
 ·refine ⟨i + 1,⟨by omega,fun j hj=>?_⟩,by omega,aE (by rw [ay i (by omega)]) rfl⟩
  by_cases h:j=i
  ·subst h;exact he
  ·exact hI j (by omega)
 ·refine bf rfl (by rw [decide_eq_true (zz (by omega) fun j hj=>hI j (by omega))])
noncomputable def mV (e:Int) (t:Ty) (ps ss:List Int):Int×Bool×Int:=
 if e≠0 then (0,false,e) else if eT t.s ps ss≠0 then (0,false,eT t.s ps ss) else (max (ej t ps ss) 0,decide (0≤ej t ps ss),0)
def F6 (p:Int×Bool×Int):AV:=.tuple [.int .i64 p.1,.bool p.2.1,.int .i64 p.2.2]
theorem c31 {t:Ty} {e:Int} (YL:Pure Tryz.prog 62 [t.av] (.int .i64 e)) (ht:e=0→yk t) (ps ss:List Int):Pure Tryz.prog 31 [t.av,fa ps ss] (F6 (mV e t ps ss)):=by
 refine fun H=>k31.2.calls rfl ?_
 simp only [k31,aK]
 obtain ⟨q1,q2,q3,q4,q5,q6⟩:=bi ps ss
 obtain ⟨e1,e2,e3,e4,e5,e6⟩:=Ty.facts t
 simp +contextual only [q1,e1,e4,dq,sZ,Nat.reduceEqDiff,Nat.reduceAdd,↓reduceIte,reduceCtorEq]
 refine af YL ?_
 by_cases h0:e=0
 ·subst h0
  simp +contextual only [aZ,q4,cW,zO,sZ,Nat.reduceEqDiff,Nat.reduceAdd,↓reduceIte]
  refine af (Vi t.s ps ss) ?_
  by_cases h1:eT t.s ps ss=0
  ·have hv:=(lO.1 h1).2
   simp +contextual only [h1,q4,e4,cW,dq,sZ,Nat.reduceEqDiff,Nat.reduceAdd,↓reduceIte]
   refine af (Ys t ps ss hv.va fun q hq=>(ht rfl).eq q hq ps hv.1) ?_
   simp +contextual only [sZ,Nat.reduceEqDiff,↓reduceIte,reduceCtorEq]
   have e0:mV 0 t ps ss=(max (ej t ps ss) 0,decide (0≤ej t ps ss),0):=by unfold mV;rw [if_neg (by simp),if_neg (by simp [h1])]
   rw [e0]
   exact zA (by decide) aa8 ⟨rfl,rfl,rfl⟩ rfl rfl rfl ⟨rfl,rfl⟩
  ·have e0:mV 0 t ps ss=(0,false,eT t.s ps ss):=by unfold mV;rw [if_neg (by simp),if_pos h1]
   rw [e0]
   simp +contextual only [h1,sZ,Nat.reduceEqDiff,↓reduceIte,reduceCtorEq]
   exact zA (by decide) aa8 ⟨rfl,rfl,rfl⟩ rfl rfl rfl ⟨rfl,rfl⟩
 ·have e0:mV e t ps ss=(0,false,e):=by unfold mV;rw [if_pos h0]
  rw [e0]
  simp +contextual only [h0,sZ,Nat.reduceEqDiff,↓reduceIte,reduceCtorEq]
  exact zA (by decide) aa8 ⟨rfl,rfl,rfl⟩ rfl rfl rfl ⟨rfl,rfl⟩
noncomputable def yn (e:Int) (t:Ty) (ps ss:List Int):Int:=if (mV e t ps ss).2.2=0∧(mV e t ps ss).2.1=true then 60 else (mV e t ps ss).2.2
theorem F7 (p:Int×Bool×Int) (φ:AV→Prop):bG (F6 p) 0 φ=φ (.int .i64 p.1)∧bG (F6 p) 1 φ=φ (.bool p.2.1)∧bG (F6 p) 2 φ=φ (.int .i64 p.2.2):=by simp [F6,bG,kX,oS]
theorem Hu (p:Int×Bool×Int):(F6 p).ae=F6 p:=rfl
theorem c33 {t:Ty} {e:Int} (YL:Pure Tryz.prog 62 [t.av] (.int .i64 e)) (ht:e=0→yk t) (ps ss:List Int):Pure Tryz.prog 33 [t.av,fa ps ss] (.int .i64 (yn e t ps ss)):=by
 refine fun H=>k33.2.calls rfl ?_
 simp only [k33,aK]
 obtain ⟨q1,q2,q3,q4,q5,q6⟩:=bi ps ss
 obtain ⟨e1,e2,e3,e4,e5,e6⟩:=Ty.facts t
 simp +contextual only [q1,q4,e1,e4,cW,dq,sZ,Nat.reduceEqDiff,Nat.reduceAdd,↓reduceIte,reduceCtorEq]
 refine af (c31 YL ht ps ss) ?_
 unfold yn
 generalize mV e t ps ss=p
 have x1:=fun φ=>(F7 p φ).1
 have x2:=fun φ=>(F7 p φ).2.1
 have x3:=fun φ=>(F7 p φ).2.2
 obtain ⟨n,b,m⟩:=p
 simp only at x1 x2 x3
 by_cases h0:m=0
 ·subst h0
  cases b <;>
  simp +contextual only [x1,x2,x3,Hu,sZ,Nat.reduceEqDiff,↓reduceIte,reduceCtorEq] <;>
  exact bf rfl rfl
 ·have hm:(m=0)=False:=eq_false h0
  simp +contextual only [x1,x2,x3,Hu,hm,decide_false,sZ,Nat.reduceEqDiff,↓reduceIte,reduceCtorEq]
  exact bf rfl (by simp [h0])
theorem Ml {H e:List aa} {u v w x y z:AV} (hb:x.a8 H.length=true∧y.a8 H.length=true∧z.a8 H.length=true) (hx:u.ae=x) (hy:v.ae=y) (hz:w.ae=z):rj H.length [u,v,w] (H++e) fun r H'=>r=.tuple [x,y,z]∧H'=H:=by
 subst hx;subst hy;subst hz
 exact ⟨H.length,yo _,_,b9 _,by show ak _ [u.ae,v.ae,w.ae]=true;rw [bE,bE,bE,cN,hb.1,hb.2.1,hb.2.2];rfl,rfl,by simp⟩
theorem tB (f:Fo):∃ P S,Uy f=fa P S:=by
 cases f with
 | none=>exact ⟨_,_,rfl⟩
 | some p=>exact ⟨_,_,rfl⟩
noncomputable def BP (e:Int) (t:Ty) (ops:List Int):Fo×Int:=if e≠0 then (none,e) else if 4 < ops.length then (none,2) else (nB t ops,0)
theorem c35 {t:Ty} {e:Int} {ops:List Int} (YL:Pure Tryz.prog 62 [t.av] (.int .i64 e)) (ZO:e=0→Pure Tryz.prog 92 [t.av] (.al 0 (ints ops))) (ht:e=0→yk t) (hr:e=0→∀ i∈ops,0≤i∧i < t.s.ops.length) (hl:ops.length≤1000000) :
 Pure Tryz.prog 35 [t.av] (.tuple [Uy (BP e t ops).1,.bool (BP e t ops).1.isSome,.int .i64 (BP e t ops).2]):=by
 refine fun H=>k35.2.calls rfl ?_
 simp only [k35,aK]
 obtain ⟨e1,e2,e3,e4,e5,e6⟩:=Ty.facts t
 have zf2:List.map AV.ae [AV.ah,.ah]=[.ah,.ah]:=rfl
 have zb2:∀ n,ak n [AV.ah,.ah]=true:=fun _=>rfl
 simp +contextual only [e1,e4,dq,zf2,zb2,sZ,Nat.reduceEqDiff,Nat.reduceAdd,↓reduceIte]
 refine af YL ?_
 have gz:(H++[aa.cells [AV.ah,.ah]])[H.length]?=some (.cells [.ah,.ah]):=by simp
 by_cases h0:e=0
 ·subst h0
  simp +contextual only [e4,dq,sZ,Nat.reduceEqDiff,Nat.reduceAdd,↓reduceIte]
  refine af (ZO rfl) ?_
  by_cases h4:4 < ops.length
  ·have UC:((4:Int) < ops.length)=True:=eq_true (by omega)
   have e0:BP 0 t ops=(none,2):=by unfold BP;rw [if_neg (by simp),if_pos h4]
   rw [e0]
   have sp2:∀ (a b x y:AV),ai [a,b] 0 [x,y]=[x,y]:=fun _ _ _ _=>rfl
   simp +contextual only [zf2,zb2,ax,UC,decide_true,gz,eL,sp2,sZ,Nat.reduceEqDiff,Nat.reduceAdd,↓reduceIte,reduceCtorEq]
   exact fun _=>Ml ⟨rfl,rfl,rfl⟩ rfl rfl rfl
  ·have UC:((4:Int) < ops.length)=False:=eq_false (by omega)
   have e0:BP 0 t ops=(nB t ops,0):=by unfold BP;rw [if_neg (by simp),if_neg h4]
   rw [e0]
   simp +contextual only [e4,dq,ax,UC,decide_false,sZ,Nat.reduceEqDiff,Nat.reduceAdd,↓reduceIte]
   intro hl9
   refine af (c93 (ht rfl) (.inr rfl) (hr rfl) hl) ?_
   generalize nB t ops=f
   obtain ⟨P,S,ef⟩:=tB f
   obtain ⟨q1,q2,q3,q4,q5,q6⟩:=bi P S
   rw [ef]
   have zo:(fa P S).cells=[.al 0 (ints P),.al 0 (ints S)]:=rfl
   have sp2:∀ (a b x y:AV),ai [a,b] 0 [x,y]=[x,y]:=fun _ _ _ _=>rfl
   simp +contextual only [gz,q1,q4,eL,zo,sp2,cW,aW,sZ,Nat.reduceEqDiff,Nat.reduceAdd,Nat.reduceLT,↓reduceIte,reduceCtorEq]
   exact Ml ⟨q6 _,rfl,rfl⟩ rfl rfl rfl
 ·have hm:(e=0)=False:=eq_false h0
  have e0:BP e t ops=(none,e):=by unfold BP;rw [if_pos h0]
  rw [e0]
  have sp2:∀ (a b x y:AV),ai [a,b] 0 [x,y]=[x,y]:=fun _ _ _ _=>rfl
  simp +contextual only [zf2,zb2,hm,gz,eL,sp2,sZ,Nat.reduceEqDiff,Nat.reduceAdd,↓reduceIte,reduceCtorEq]
  exact Ml ⟨rfl,rfl,rfl⟩ rfl rfl rfl
end Go.aJ
end
section
namespace Go.aJ
open Go Go.Proofs Go.eN
end Go.aJ
end
section
namespace Go.eN
open Go.aJ
def Rr {G:T→T→Prop} [h:∀ x y,Decidable (G x y)]:∀ l m,Decidable (Lx G l m)
 | [],_=>isFalse (fun h=>h)
 | _::_,[]=>isTrue trivial
 | x::l,y::m=>@instDecidableOr _ _ (@instDecidableAnd _ _ inferInstance (Rr l m)) (h x y)
def YM {G:T→T→Prop} [h:∀ x y,Decidable (G x y)] (l m:List T):Decidable (Mu G l m):=by unfold Mu;exact inferInstance
def YN {sp:Int→Int} {G:T→T→Prop} [h:∀ x y,Decidable (G x y)] (a b:T):Decidable (Fm sp G a b):=by
 unfold Fm
 have:=@Rr G h
 have:=@YM G h
 exact inferInstance
def Mm (sp:Int→Int):∀ (f:Nat) (a b:T),Decidable (M6 sp f a b)
 | 0,_,_=>isFalse (fun h=>h)
 | f + 1,a,b=>@YN sp (M6 sp f) (Mm sp f) a b
instance YO (sp:Int→Int) (a b:T):Decidable (Gt sp a b):=Mm sp (wt a + wt b) a b
instance YP (O:Od) (a b:T):Decidable (R O a b):=YO O.sp (norm O a) (norm O b)
instance YQ (O:Od) (a b:T):Decidable (E O a b):=inferInstanceAs (Decidable (norm O a=norm O b))
end Go.eN
end
section
namespace Go.aJ
open Go Go.Proofs Go.eN
mutual
def D8 (n:Nat):T→Bool
 | .mk k m l=>(!decide (k=2) || (decide (0≤m) && decide (m < n))) && BD n l
def BD (n:Nat):List T→Bool
 | []=>true
 | x::r=>D8 n x && BD n r
end
mutual
theorem Hv {n:Nat}:∀ {t:T},D8 n t=true→nE (fun m=>0≤m∧m < n) t
 | .mk k m l,h=>by
   simp only [D8,yu,ab0,abr,decide_eq_false_iff_not,decide_eq_true_eq] at h
   exact .mk k m l (fun hk=>h.1.resolve_left fun hn=>hn hk) (D9 h.2)
theorem D9 {n:Nat}:∀ {l:List T},BD n l=true→∀ x∈l,nE (fun m=>0≤m∧m < n) x
 | [],_=>fun x hx=>by cases hx
 | y::r,h=>by
   simp only [BD,yu] at h
   have h1:=Hv h.1
   have h2:=D9 h.2
   intro x hx
   rcases UQ.1 hx with rfl | hx
   ·exact h1
   ·exact h2 x hx
end
def Ea (ps ss:List Int) (a b:T):Bool:=match YP (ko ps ss) a b with | .isTrue _=>true | .isFalse _=>false
theorem BE {ps ss:List Int} {a b:T}:Ea ps ss a b=true↔R (ko ps ss) a b:=by
 unfold Ea
 cases YP (ko ps ss) a b with
 | isTrue h=>simp [h]
 | isFalse h=>simp [h]
end Go.aJ
end
section
set_option maxRecDepth 1000000
namespace Go.aJ
open Go Go.Proofs Go.eN
theorem BF (ps ss:List Int) (a b:T):Jf ps ss a b=Ea ps ss a b:=by rw [ac0,vk,BE]
def Hw (ps ss:List Int) (a b:T):Bool:=match YQ (ko ps ss) a b with | .isTrue _=>true | .isFalse _=>false
theorem Hy (ps ss:List Int) (a b:T):X1 ps ss a b=Hw ps ss a b:=by
 rw [ac0,Hh]
 unfold Hw
 cases YQ (ko ps ss) a b with
 | isTrue h=>simp [h]
 | isFalse h=>simp [h]
def UD (s:Sg) (ps ss:List Int):Bool:=decide (ps.length=s.ops.length) && (decide (ss.length=s.ops.length) && ((List.range ps.length).all (fun j=>decide (0≤ps.getD j 0∧ps.getD j 0≤255∧1≤ss.getD j 0∧ss.getD j 0≤3)) && (List.range ps.length).all fun j=>(List.range ps.length).all fun k=>!decide (ps.getD j 0=ps.getD k 0) || decide (ss.getD j 0=ss.getD k 0)))
theorem Mn {s:Sg} {ps ss:List Int}:UD s ps ss=true↔kG s ps ss:=by
 simp only [UD,yu,decide_eq_true_eq,aaL,abq,ab0,abr,decide_eq_false_iff_not]
 constructor
 ·rintro ⟨h1,h2,h3,h4⟩
  exact ⟨h1,h2,h3,fun j k hj hk he=>(h4 j hj k hk).resolve_left fun hn=>hn he⟩
 ·rintro ⟨h1,h2,h3,h4⟩
  refine ⟨h1,h2,h3,fun j hj k hk=>?_⟩
  by_cases h:ps.getD j 0=ps.getD k 0
  ·exact .inr (h4 j k hj hk h)
  ·exact .inl h
def xx (s:Sg) (ps ss:List Int):Int:=if nv s=true then (if UD s ps ss=true then 0 else 60) else 40
theorem rP (s:Sg) (ps ss:List Int):eT s ps ss=xx s ps ss:=by
 unfold eT xx
 by_cases h:kG s ps ss
 ·rw [if_pos h,if_pos (Mn.2 h)]
 ·rw [if_neg h,if_neg (fun k=>h (Mn.1 k))]
def xy (s:Sg) (ps ss:List Int) (l:List T):Int:=if xx s ps ss=0 then (if (l.all fun t=>t.tree && DP s t)=true then 0 else 4) else xx s ps ss
theorem jc (s:Sg) (ps ss:List Int) (l:List T):iJ s ps ss l=xy s ps ss l:=by unfold iJ xy;rw [rP]
def Mo (ps ss:List Int) (e:gL):Bool:=e.rest.all fun y=>Ea ps ss e.a y
theorem Mq (ps ss:List Int) (e:gL):rN ps ss e=Mo ps ss e:=by
 rw [ac0]
 simp only [rN,Jh,Mo,aaL,BE]
 exact @decide_eq_true_iff _ (Classical.propDecidable _)
def xz (t:Ty) (ps ss:List Int):Int:=lf (fun e=>!Mo ps ss e) t.es 0
theorem tC (t:Ty) (ps ss:List Int):ej t ps ss=xz t ps ss:=by
 unfold ej xz
 congr 1
 funext e
 rw [Mq]
def F8 (t:Ty) (ops pl st:List Int):Bool:=decide (xx t.s (iY t.s.ops.length ops pl) (iZ t.s.ops.length ops st)=0) && decide (xz t (iY t.s.ops.length ops pl) (iZ t.s.ops.length ops st) < 0)
theorem Jq (t:Ty) (ops pl st:List Int):kI t ops pl st=F8 t ops pl st:=by
 unfold kI F8
 rw [rP,tC,ac0]
 simp
def F9 (t:Ty) (ops pl:List Int) (s:Fo) (st:List Int):Fo×Bool:=if F8 t ops pl st=true then (some (iY t.s.ops.length ops pl,iZ t.s.ops.length ops st),false) else (s,true)
def Ga (t:Ty) (ops:List Int) (s:Fo) (pl:List Int):Fo×Bool:=if jt pl=true then dJ (F9 t ops pl) (eZ (cM 1 3) ops.length) s else (s,true)
def Mr (t:Ty) (ops:List Int):Fo:=(dJ (Ga t ops) (eZ (cM 0 ops.length) ops.length) none).1
theorem Ms (t:Ty) (ops:List Int):nB t ops=Mr t ops:=by
 have h1:c8 t ops=F9 t ops:=by funext pl s st;unfold c8 F9;rw [Jq]
 have h2:eo t ops=Ga t ops:=by funext s pl;unfold eo Ga;rw [h1]
 unfold nB Mr;rw [h2]
def fZ:List Int:=[0,0,1]
def nA:List Int:=[1,1,1]
def stM:List Int:=[1,1,3]
def Eb:List Int:=[0,0,0]
theorem UE:xy fY fZ nA [cz.a,cz.b]=0:=by kernel_rfl
theorem YR:xy fY fZ nA [cz.b,cz.a]=0:=by kernel_rfl
theorem gr1:Ea fZ nA cz.a cz.b=true:=by kernel_rfl
theorem gr2:Ea fZ nA cz.b cz.a=false:=by kernel_rfl
theorem acq:xy fY fZ stM [oT 2 [vT 0,vT 1],oT 2 [vT 1,vT 0]]=0:=by kernel_rfl
theorem acr:xy fY fZ nA [oT 2 [vT 0,vT 1],oT 2 [vT 1,vT 0]]=0:=by kernel_rfl
theorem eq1:Hw fZ stM (oT 2 [vT 0,vT 1]) (oT 2 [vT 1,vT 0])=true:=by kernel_rfl
theorem eq2:Hw fZ nA (oT 2 [vT 0,vT 1]) (oT 2 [vT 1,vT 0])=false:=by kernel_rfl
theorem acs:xx fY fZ nA=0:=by kernel_rfl
theorem acu:xx fY Eb nA=0:=by kernel_rfl
theorem YT:xz c9 fZ nA=-1:=by kernel_rfl
theorem YU:xz c9 Eb nA=1:=by kernel_rfl
theorem acv:Mr c9 [0,1,2]=some (fZ,nA):=by kernel_rfl
def zS:List T:=[oT 1 [oT 0 []],vT 0,oT 0 [],oT 2 [oT 0 [],oT 0 []]]
theorem acw:xy fY fZ nA zS=0:=by kernel_rfl
theorem acx:yd (Ea fZ nA) 4 zS=[vT 0,oT 0 [],oT 1 [oT 0 []],oT 2 [oT 0 [],oT 0 []]]:=by kernel_rfl
theorem rQ:yk c9:=by
 refine ⟨by decide,fun e he ps hp=>?_⟩
 have hp3:ps.length=3:=hp
 have key:∀ e∈c9.es,e.cs.length≤1000∧(∀ t∈e.a::e.rest,t.tree=true)∧∀ t∈e.a::e.rest,D8 3 t=true:=by
  intro e he
  have h:(c9.es.all fun e=>decide (e.cs.length≤1000) && ((e.a::e.rest).all (fun t=>t.tree) && (e.a::e.rest).all fun t=>D8 3 t))=true:=by kernel_rfl
  have:=aaL.1 h e he
  simp only [yu,decide_eq_true_eq,aaL] at this
  exact this
 obtain ⟨k1,k2,k3⟩:=key e he
 exact ⟨k1,k2,fun t ht=>by rw [hp3];exact Hv (k3 t ht)⟩
end Go.aJ
end
