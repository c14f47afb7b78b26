/- Part 13 of 15 of the proof. -/
import Derived.Test.YtljchnfgjdjobaaGreatVal
import Derived.Test.YtljchnfgjdjobaaGreatVag
import Derived.KernelRfl
import Derived.Test.YtljchnfgjdjobaaGreatVaj
import Derived.Test.YtljchnfgjdjobaaGreatVah
import Derived.Test.YtljchnfgjdjobaaGreatVaf
import Derived.Test.YtljchnfgjdjobaaGreatVai
set_option linter.unusedVariables false
set_option linter.unusedSimpArgs false
set_option linter.defProp false
set_option linter.unusedSectionVars false
section
set_option maxRecDepth 100000
namespace Go.aL
open Go Go.Proofs Go.fN
theorem ysI {t:Ty} (ht:BP t) {ops:List Int} {vo:AV} (ho:IL vo ops) (hr:∀ i∈ops,0≤i∧i < t.s.ops.length) (jW:ops.length≤1000000) {pl:List Int} (vA:pl.length=ops.length) (H W:List aa) (es:List AV) (Ar:es=kW 41 [(2,.ai t.av),(3,.ai vo),(4,.ptr H.length 0),(5,.ptr (H.length + 1) 0),(6,.ai (bu pl)),(21,.fn (.func 205) [] [.ai (.int .i64 ops.length),.ai (.int .i64 1),.ai (.int .i64 3)])]) :
 YS ops.length (dw 1 ((3:Int) + 1 - 1).toNat) (H.length + 2 + W.length) (fun s:Fo=>ft H W s++[.loop (iZ s) bD es]) (fun s=>s=none) (dF t ops pl):=by
 refine ⟨fun l s X hl _ hs=>?_,fun l s hs bS=>?_,fun s s'=>?_⟩
 ·subst hs
  have:=MP ht ho hr jW vA H W es Ar l hl X _ rfl
  have el:iZ none=.ready:=rfl
  refine fD.mono (by simpa [el,jZ] using this) fun r H' h=>?_
  refine ⟨h.1,?_⟩
  rw [h.2];simp
 ·subst hs
  unfold dF at *
  split at bS
  ·cases bS
  ·rename_i h;rw [if_neg h]
 ·simp [eW]
theorem MQ {vals:List Int}:∀ {n:Nat} {l:List Int},l∈iL vals n→l.length=n∧∀ x∈l,x∈vals
 | 0,l,h=>by
   simp only [iL,List.mem_cons,List.not_mem_nil,or_false] at h
   subst h;exact ⟨rfl,fun x hx=>by cases hx⟩
 | n + 1,l,h=>by
   simp only [iL,List.mem_flatMap,List.mem_map] at h
   obtain ⟨x,hx,y,hy,rfl⟩:=h
   obtain ⟨h1,h2⟩:=MQ hy
   exact ⟨by simp [h1],fun z hz=>by
    rcases List.mem_cons.1 hz with rfl | hz
    ·exact hx
    ·exact h2 z hz⟩
theorem MR {t:Ty} (ht:BP t) {ops:List Int} {vo:AV} (ho:IL vo ops) (hr:∀ i∈ops,0≤i∧i < t.s.ops.length) (jW:ops.length≤1000000) (H:List aa) (es:List AV) (Ar:es=kW 41 [(2,.ai t.av),(3,.ai vo),(4,.ptr H.length 0),(5,.ptr (H.length + 1) 0),(14,.fn (.func 205) [] [.ai (.int .i64 ops.length),.ai (.int .i64 0),.ai (.int .i64 ((ops.length:Int) - 1))])])
 (pl:List Int) (vA:pl.length=ops.length) (lh:∀ x∈pl,x≤1000000) (Y:List aa) :
 jZ Tryz.prog (H.length + 2) [bu pl] (ft H [] none++.loop .ready ba es::Y) fun r H'=>r=.bool (fp t ops none pl).2∧H'=ft H [] (fp t ops none pl).1++.loop (iZ (fp t ops none pl).1) ba es::Y:=by
 have ees:es=[.any,.any,.ai t.av,.ai vo,.ptr H.length 0,.ptr (H.length + 1) 0,.any,.any,.any,.any,.any,.any,.any,.any,.fn (.func 205) [] [.ai (.int .i64 ops.length),.ai (.int .i64 0),.ai (.int .i64 ((ops.length:Int) - 1))],.any,.any,.any,.any,.any,.any,.any,.any,.any,.any,.any,.any,.any,.any,.any,.any,.any,.any,.any,.any,.any,.any,.any,.any,.any,.any]:=by rw [Ar];rfl
 have hk:∀ s,(ft H [] s).length=H.length + 2:=fun s=>by rw [eW];rfl
 have e0:∀ s st Y,(ft H [] s++aa.loop st ba es::Y)[H.length + 2]?=some (.loop st ba es):=fun s st Y=>vk _ _ _ _ (hk s)
 have gI:∀ s st st' Y,(ft H [] s++aa.loop st ba es::Y).set (H.length + 2) (.loop st' ba es)=ft H [] s++aa.loop st' ba es::Y:=fun s st st' Y=>vn _ _ _ _ _ (hk s)
 refine oO (lc:=ba) (es:=es) (e0 none .ready Y) Ux Uy ⟨by rw [ees,BM];rfl,by rw [xu];rfl,by rw [xu,BM];rfl,?_,?_⟩ (xm ?_)
 ·rw [ees];intro x hx;simp only [List.mem_cons,List.not_mem_nil,or_false] at hx
  repeat' (first | (rcases hx with hx | hx;· subst hx;rfl) | (subst hx;rfl))
 ·intro x hx;simp only [List.mem_cons,List.not_mem_nil,or_false] at hx;subst hx;exact (aH pl).2.1
 ·have ez:(ba.ps.zip [bu pl]).reverse++bX 0 es=(15,bu pl)::bX 0 es:=by rw [xu];rfl
  rw [ez]
  generalize yy:bX 0 es=ea
  have g2:get ea 2=.ai t.av:=by rw [← yy,ees];rfl
  have g3:get ea 3=.ai vo:=by rw [← yy,ees];rfl
  have g4:get ea 4=.ptr H.length 0:=by rw [← yy,ees];rfl
  have g5:get ea 5=.ptr (H.length + 1) 0:=by rw [← yy,ees];rfl
  simp only [LB,LC]
  have hb:∀ K,kh (H.length + 2) (ft H [] none++.loop .ready ba es::Y) K=K (ft H [] none++.loop .busy ba es::Y):=fun K=>by rw [tc (e0 none .ready Y),gI]
  obtain ⟨a1,a2,a3,a4⟩:=ho.one
  obtain ⟨b1,b2,b3,b4,b5⟩:=aH pl
  have lvo:∀ (H:List aa) (φ:AV→Prop),aQ none (.ai vo) H φ=φ vo:=fun H φ=>by simp [aQ,a1,a2]
  have ip:IL (bu pl) pl:=.inl rfl
  have hlen:(ft H [] none++.loop .ready ba es::Y).length=H.length + 2 + (Y.length + 1):=by rw [List.length_append,hk];rfl
  have endN:∀ n0 Z,n0=H.length + 2 + (Y.length + 1)→fp t ops none pl=(none,true)→qR n0 (H.length + 2) (fun r H'=>r=.bool (fp t ops none pl).2∧H'=ft H [] (fp t ops none pl).1++.loop (iZ (fp t ops none pl).1) ba es::Y) .normal (ft H [] none++.loop .busy ba es::(Y++Z)):=by
   intro n0 Z Nm bS
   rw [Ge (e0 none .busy _),gI,bS]
   refine ⟨by rw [List.length_append,hk];simp;omega,rfl,?_⟩
   rw [Nm,← hlen,show ft H [] none++aa.loop .ready ba es::(Y++Z)=(ft H [] none++aa.loop .ready ba es::Y)++Z by simp,List.take_left]
   rfl
  have endR:∀ n0 Z s,n0=H.length + 2 + (Y.length + 1)→fp t ops none pl=(s,false)→s.isSome=true→qR n0 (H.length + 2) (fun r H'=>r=.bool (fp t ops none pl).2∧H'=ft H [] (fp t ops none pl).1++.loop (iZ (fp t ops none pl).1) ba es::Y) .ret (ft H [] s++.loop .busy ba es::(Y++Z)):=by
   intro n0 Z s Nm bS hs
   have hlen2:(ft H [] s++.loop (.jump .ret) ba es::Y).length=H.length + 2 + (Y.length + 1):=by rw [List.length_append,hk];rfl
   rw [MN (e0 _ .busy _),gI,bS]
   refine ⟨by rw [List.length_append,hk];simp;omega,rfl,?_⟩
   rw [Nm,← hlen2,show ft H [] s++aa.loop (.jump .ret) ba es::(Y++Z)=(ft H [] s++aa.loop (.jump .ret) ba es::Y)++Z by simp,List.take_left]
   have:iZ s=.jump .ret:=if_pos hs
   rw [this]
  simp +contextual only [g2,g3,g4,g5,hb,bV,b1,b2,b4,b5,sZ,Nat.reduceEqDiff,Nat.reduceAdd,↓reduceIte]
  refine ae (adq pl ip (by omega) lh) ?_
  cases hd:oD pl with
  | false=>
    have bS:fp t ops none pl=(none,true):=by rw [fp,if_neg (by rw [hd];simp)]
    simp +contextual only [Bool.not_false,sZ,Nat.reduceEqDiff,↓reduceIte]
    have:=endN ((ft H [] none).length + (Y.length + 1)) [] (by rw [hk]) bS
    rwa [List.append_nil] at this
  | true=>
    have bS:fp t ops none pl=eY (dF t ops pl) (iL (dw 1 3) ops.length) none:=by rw [fp,if_pos hd]
    simp +contextual only [Bool.not_true,lvo,ho.aN,ho.len (by omega),sZ,Nat.reduceEqDiff,Nat.reduceAdd,↓reduceIte]
    refine ae (ZP ops.length 1 3) ?_
    simp +contextual only [mJ,sZ,Nat.reduceEqDiff,↓reduceIte]
    obtain ⟨W,hW⟩:∃ W,W=aa.loop .busy ba es::Y:=⟨_,rfl⟩
    have hH2:ft H [] none++aa.loop .busy ba es::Y=ft H W none:=by rw [hW];simp [ft]
    have hA:∀ s,ft H W s=ft H [] s++aa.loop .busy ba es::Y:=fun s=>by rw [hW];simp [ft]
    obtain ⟨esI,ZQ⟩:∃ esI,esI=kW 41 [(2,AV.ai t.av),(3,.ai vo),(4,.ptr H.length 0),(5,.ptr (H.length + 1) 0),(6,.ai (bu pl)),(21,.fn (.func 205) [] [.ai (.int .i64 ops.length),.ai (.int .i64 1),.ai (.int .i64 3)])]:=⟨_,rfl⟩
    have ys:=ysI ht ho hr jW vA H W esI ZQ
    have qz:(3:Int) + 1 - 1=3:=rfl
    have hvt:((3:Int)).toNat=3:=rfl
    rw [qz,hvt] at ys
    have MS:=ZO (n:=ops.length) (lo:=1) (hi:=3) (by omega) (by omega) jW (Good:=fun s:Fo=>s=none) (hy:=by rw [qz,hvt];exact ys) (fun s=>by simp [eW]) none rfl
    rw [qz,hvt] at MS
    rw [hH2]
    have eln:(ft H W none).length=H.length + 2 + W.length:=eW H W none
    refine tb (P:=Tryz.prog) (R:=fun r H'=>r=.tuple []∧H'=ft H W (eY (dF t ops pl) (iL (dw 1 3) ops.length) none).1++[.loop (iZ (eY (dF t ops pl) (iL (dw 1 3) ops.length) none).1) bD esI]) 205 [] _ bD _ _ _ Tryz.call205 ?_ ?_
    ·rw [BN,← ZQ,eln]
     exact MS
    ·have h2:=BO t ops pl (iL (dw 1 3) ops.length) none rfl
     rintro r H' ⟨rfl,rfl⟩
     generalize Ws:(eY (dF t ops pl) (iL (dw 1 3) ops.length) none).1=s' at h2
     have ZR:fp t ops none pl=(s',s'.isNone):=by rw [bS];exact Prod.ext Ws h2
     rw [eln]
     have eget:∀ st,(ft H W s'++[aa.loop st bD esI])[H.length + 2 + W.length]?=some (.loop st bD esI):=fun st=>vk _ _ _ _ (eW H W s')
     have eset:∀ st st',(ft H W s'++[aa.loop st bD esI]).set (H.length + 2 + W.length) (.loop st' bD esI)=ft H W s'++[.loop st' bD esI]:=fun st st'=>vn _ _ _ _ _ (eW H W s')
     cases s' with
     | none=>
       have el:iZ none=.ready:=rfl
       rw [el,xl (eget _),eset]
       simp +contextual only [pP]
       have:=endN ((ft H [] none).length + (Y.length + 1)) [.loop .eO bD esI] (by rw [hk]) ZR
       rw [hA]
       simpa using this
     | some o=>
       have el:iZ (some o)=.jump .ret:=rfl
       rw [el,Eg (eget _),eset]
       simp +contextual only [pP]
       have:=endR ((ft H [] none).length + (Y.length + 1)) [.loop .eO bD esI] (some o) (by rw [hk]) ZR rfl
       rw [hA]
       simpa using this
end Go.aL
end
section
set_option maxRecDepth 100000
namespace Go.aL
open Go Go.Proofs Go.fN
theorem ysO {t:Ty} (ht:BP t) {ops:List Int} {vo:AV} (ho:IL vo ops) (hr:∀ i∈ops,0≤i∧i < t.s.ops.length) (jW:ops.length≤1000000) (H:List aa) (es:List AV) (Ar:es=kW 41 [(2,.ai t.av),(3,.ai vo),(4,.ptr H.length 0),(5,.ptr (H.length + 1) 0),(14,.fn (.func 205) [] [.ai (.int .i64 ops.length),.ai (.int .i64 0),.ai (.int .i64 ((ops.length:Int) - 1))])]) :
 YS ops.length (dw 0 ops.length) (H.length + 2) (fun s:Fo=>ft H [] s++[.loop (iZ s) ba es]) (fun s=>s=none) (fp t ops):=by
 refine ⟨fun l s X hl hm hs=>?_,fun l s hs bS=>?_,fun s s'=>?_⟩
 ·subst hs
  have:=MR ht ho hr jW H es Ar l hl (fun x hx=>by have:=z6.1 (hm x hx);omega) X
  have el:iZ none=.ready:=rfl
  refine fD.mono (by simpa [el,jZ] using this) fun r H' h=>?_
  refine ⟨h.1,?_⟩
  rw [h.2];simp
 ·subst hs
  have h2:(fp t ops none l).2=(fp t ops none l).1.isNone:=by
   unfold fp
   split
   ·exact BO t ops l _ none rfl
   ·rfl
  rw [bS] at h2
  exact Option.isNone_iff_eq_none.1 h2.symm
 ·simp [eW]
def foA (s:Fo):AV:=match s with | none=>eX [] [] | some (P,S)=>eX P S
theorem HH (n0 s s':Nat) (sz sz':Option Nat) (env:Env) (H:List aa) (R:AV→List aa→Prop):bW n0 [.c s sz,.c s' sz'] env H R=aQ sz (get env s) H fun x=>aQ sz' (get env s') H fun y=>rk n0 [x,y] H R:=_root_.id rfl
theorem c93 {t:Ty} (ht:BP t) {ops:List Int} {vo:AV} (ho:IL vo ops) (hr:∀ i∈ops,0≤i∧i < t.s.ops.length) (jW:ops.length≤1000000):Pure Tryz.prog 93 [t.av,vo] (.tuple [foA (yx t ops),.bool (yx t ops).isSome]):=by
 refine fun H=>abX.calls rfl ?_
 simp only [W9,W8]
 obtain ⟨e1,e2,e3,e4,e5,e6⟩:=Ty.facts t
 obtain ⟨a1,a2,a3,a4⟩:=ho.one
 have lvo:∀ (H:List aa) (φ:AV→Prop),aQ none (.ai vo) H φ=φ vo:=fun H φ=>by simp [aQ,a1,a2]
 have zf2:List.map AV.ab [AV.ah,.ah]=[.ah,.ah]:=rfl
 have zb2:∀ n,aj n [AV.ah,.ah]=true:=fun _=>rfl
 have hw:IntKind.i64.wrap ((ops.length:Int) - 1)=(ops.length:Int) - 1:=dL _ (by omega)
 simp +contextual only [e1,a3,lvo,zf2,zb2,ho.aN,ho.len (by omega),hw,sZ,Nat.reduceEqDiff,Nat.reduceAdd,↓reduceIte,reduceCtorEq]
 refine ae (ZP ops.length 0 ((ops.length:Int) - 1)) ?_
 simp +contextual only [mJ,sZ,Nat.reduceEqDiff,↓reduceIte,reduceCtorEq]
 have hA0:H++[aa.cells [AV.ah,.ah],.cells [.bool false]]=ft H [] none:=rfl
 rw [hA0]
 obtain ⟨esO,Ar⟩:∃ esO,esO=kW 41 [(2,AV.ai t.av),(3,.ai vo),(4,.ptr H.length 0),(5,.ptr (H.length + 1) 0),(14,.fn (.func 205) [] [.ai (.int .i64 ops.length),.ai (.int .i64 0),.ai (.int .i64 ((ops.length:Int) - 1))])]:=⟨_,rfl⟩
 have ys:=ysO ht ho hr jW H esO Ar
 have hv:((ops.length:Int) - 1 + 1 - 0).toNat=ops.length:=by omega
 have MS:=ZO (n:=ops.length) (lo:=0) (hi:=(ops.length:Int) - 1) (by omega) (by omega) jW (Good:=fun s:Fo=>s=none) (hy:=by rw [hv];exact ys) (fun s=>by simp [eW]) none rfl
 rw [hv] at MS
 have eln:∀ s,(ft H [] s).length=H.length + 2:=fun s=>eW H [] s
 refine tb (P:=Tryz.prog) (R:=fun r H'=>r=.tuple []∧H'=ft H [] (yx t ops)++[.loop (iZ (yx t ops)) ba esO]) 205 [] _ ba _ _ _ Tryz.call205 ?_ ?_
 ·rw [BM,← Ar,eln]
  exact MS
 ·rintro r H' ⟨rfl,rfl⟩
  generalize yx t ops=s'
  have eget:∀ st,(ft H [] s'++[aa.loop st ba esO])[H.length + 2]?=some (.loop st ba esO):=fun st=>vk _ _ _ _ (eln s')
  have eset:∀ st st',(ft H [] s'++[aa.loop st ba esO]).set (H.length + 2) (.loop st' ba esO)=ft H [] s'++[.loop st' ba esO]:=fun st st'=>vn _ _ _ _ _ (eln s')
  have k4:=R9 H [] [.loop .eO ba esO] s'
  have k5:=Sa H [] [.loop .eO ba esO] s'
  have RH:(ft H [] s'++[aa.loop .eO ba esO]).take H.length=H:=by rw [List.take_append_of_le_length (by rw [eln];omega),ft,List.take_left]
  have sp2:∀ (a b x y:AV),ag [a,b] 0 [x,y]=[x,y]:=fun _ _ _ _=>rfl
  rw [eln]
  cases s' with
  | none=>
    have el:iZ none=.ready:=rfl
    rw [el,xl (eget _),eset]
    have o4n:o4 none=.cells [.ah,.ah]:=rfl
    have o5n:o5 none=.cells [.bool false]:=rfl
    rw [o4n] at k4
    rw [o5n] at k5
    have k4s:=fun o=>List.getElem?_set_self (a:=o) (aO k4)
    have k5s:∀ o,((ft H [] none++[aa.loop .eO ba esO]).set H.length o)[H.length + 1]?=some (.cells [.bool false]):=fun o=>by rw [List.getElem?_set_ne (by omega)];exact k5
    have k5t:∀ o o',(((ft H [] none++[aa.loop .eO ba esO]).set H.length o).set (H.length + 1) o')[H.length + 1]?=some o':=fun o o'=>List.getElem?_set_self (by rw [List.length_set];exact aO k5)
    have k4t:∀ o o',(((ft H [] none++[aa.loop .eO ba esO]).set H.length o).set (H.length + 1) o')[H.length]?=some o:=fun o o'=>by rw [List.getElem?_set_ne (by omega)];exact k4s o
    have adv:∀ o o',(((ft H [] none++[aa.loop .eO ba esO]).set H.length o).set (H.length + 1) o').take H.length=H:=fun o o'=>by rw [List.take_set_of_le (by omega),List.take_set_of_le (by omega),RH]
    simp +contextual only [pP,k4,k5s,k4t,k5t,zf2,zb2,sp2,HH,sZ,Nat.reduceEqDiff,Nat.reduceAdd,Nat.reduceLT,↓reduceIte,reduceCtorEq]
    exact jz (adv _ _) ((bo [] []).2.2.2.2.2 _) rfl rfl rfl ⟨rfl,rfl⟩
  | some o=>
    obtain ⟨P,S⟩:=o
    have el:iZ (some (P,S))=.jump .ret:=rfl
    rw [el,Eg (eget _),eset]
    have o4n:o4 (some (P,S))=.cells [.al 0 (ints P),.al 0 (ints S)]:=rfl
    have o5n:o5 (some (P,S))=.cells [.bool true]:=rfl
    rw [o4n] at k4
    rw [o5n] at k5
    simp +contextual only [pP,k4,k5,HH,sZ,Nat.reduceEqDiff,Nat.reduceAdd,Nat.reduceLT,↓reduceIte,reduceCtorEq]
    exact jz RH ((bo P S).2.2.2.2.2 _) rfl rfl rfl ⟨rfl,rfl⟩
end Go.aL
end
section
set_option maxRecDepth 100000
set_option maxHeartbeats 0
namespace Go.aL
open Go Go.Proofs
noncomputable def ZS:=aF Tryz.call75 Tryz.func75 Tryz.ntmps75 [(0,0,1),(5,2,1000),(6,0,1),(6,7,2),(6,8,1),(7,6,2),(7,9,2),(9,0,6004)] [(0,[1,2]),(1,[1,6]),(2,[1,6,7]),(3,[6,7,15,16,17]),(4,[6,7,15,16,17,18]),(5,[6,7,9,15,16,17]),(6,[6,7,9,15,16,17]),(7,[6,7,15,16,17]),(8,[6,7,15,16,17]),(9,[4,5])] [(7,(.take 1 true (.take 2 true (.take 3 true (.take 4 true (.take 5 true (.take 0 false (.br 6 (.take 7 true (.take 8 true (.br 9 .done .nil))) .nil))))))))]
end Go.aL
end
section
set_option maxRecDepth 100000
namespace Go.aL
open Go Go.Proofs Go.fN
def ul (z:AV) (kp:Nat→Prop) (v:AV) (xs:List AV) (G:List aa):Prop:=
 (xs=[]∧v=.ah)∨∃ id cap,¬ kp id∧v=.bc id 0 xs.length cap∧G[id]?=some (bt z xs cap)∧xs.length≤cap∧xs≠[]
section
variable {z:AV} {kp:Nat→Prop} {v:AV} {xs:List AV} {G:List aa}
theorem ul.one (h:ul z kp v xs G):v.one=true∧v.val=true∧v.ab=v∧v.cells=[v]:=by
 rcases h with ⟨_,rfl⟩ | ⟨id,cap,_,rfl,_⟩ <;> exact ⟨rfl,rfl,rfl,rfl⟩
theorem ul.aV (h:ul z kp v xs G) {n:Nat} (hn:G.length≤n):v.aV n=true:=by
 rcases h with ⟨_,rfl⟩ | ⟨id,cap,_,rfl,c,_⟩
 ·rfl
 ·have:=(List.getElem?_eq_some_iff.1 c).1
  rw [gU];simp;omega
theorem ul.len (h:ul z kp v xs G) {H:List aa} (φ:AV→Prop):fx v H φ=φ (.int .i64 xs.length):=by
 rcases h with ⟨rfl,rfl⟩ | ⟨id,cap,_,rfl,_⟩ <;> rfl
theorem ul.aN (h:ul z kp v xs G):aN 1 v=True:=by
 rcases h with ⟨_,rfl⟩ | ⟨id,cap,_,rfl,_⟩ <;> rfl
theorem ul.set (h:ul z kp v xs G) {j:Nat} (hj:∀ l c,v≠.bc j 0 l c) (o:aa):ul z kp v xs (G.set j o):=by
 rcases h with h | ⟨id,cap,a,b,c,d⟩
 ·exact .inl h
 ·exact .inr ⟨id,cap,a,b,by rw [List.getElem?_set_ne (fun e=>hj _ _ (by rw [e];exact b))];exact c,d⟩
end
theorem z8 {esz bytes:Nat} {z:AV} (hz:jr esz (bO z)) {kp:Nat→Prop} {v:AV} {xs:List AV} {G:List aa} (h:ul z kp v xs G) (fP:∀ x∈xs,jr esz x) (o:Nat) (ys:List AV) (hy:ys≠[]) (qt:∀ x∈ys,jr esz x)
 (hb:(xs.length + ys.length) * bytes≤140737488355328) (hG:∀ j,kp j→j < G.length) {K:AV→List aa→Prop}
 (hK:∀ v' G',ul z kp v' (xs++ys) G'→(∀ j,kp j→G'[j]?=G[j]?)→G.length≤G'.length→K v' G'):b7 esz bytes z v (.al o ys) G K:=by
 have nl:¬ kp G.length:=fun h=>Nat.lt_irrefl _ (hG _ h)
 have jy:qB esz ys:=fun y hy=>⟨(qt y hy).len,(qt y hy).one⟩
 obtain ⟨f1,f2,f3,f4⟩:=jr.flat qt
 obtain ⟨g1,g2,g3,g4⟩:=jr.flat fP
 have vA:=ry hz
 have lh:∀ n m,aj n (dh z m)=true:=fun n m=>(jr.flat (ko hz m)).2.2.1 n
 unfold b7
 simp only [dl]
 refine ⟨jy,?_⟩
 rcases h with ⟨rfl,rfl⟩ | ⟨id,cap,bp,rfl,hg,hle,_⟩
 ·refine ⟨by simpa using hb,fun e=>absurd e hy,fun _ cap hc _=>⟨?_,hK _ _ (.inr ⟨G.length,cap,nl,by simp,?_,by simpa using hc,by simpa using hy⟩) ?_ (by simp)⟩⟩
  ·rw [f2,aY];exact ⟨f3 _,lh _ _⟩
  ·rw [f2];simp [bt]
  ·intro j hj;have:=hG j hj;rw [List.getElem?_append_left (by omega)]
 ·have uM:=(List.getElem?_eq_some_iff.1 hg).1
  simp only [hg,bt,List.length_append,g1,vA,Nat.zero_add,List.drop_zero]
  refine ⟨hb,hle,by rw [← Nat.add_mul];exact Nat.le_of_eq (by congr 1;omega),fun hroom=>⟨by rw [f2];exact f3 _,?_⟩,fun jW fT hc _=>⟨?_,?_⟩⟩
  ·rw [f2]
   refine hK _ _ (.inr ⟨id,cap,bp,by simp,?_,by simpa using hroom,by simp [hy]⟩) ?_ (by simp)
   ·rw [List.getElem?_set_self uM,bt]
    congr 2
    unfold ag
    rw [f1,List.take_append_of_le_length (by rw [g1];exact Nat.le_refl _),List.take_of_length_le (by rw [g1];exact Nat.le_refl _),List.drop_append,List.drop_of_length_le (by rw [g1];omega),g1,
     show xs.length * esz + ys.length * esz - xs.length * esz=ys.length * esz by omega,zA hz _ _ (by omega),om,List.nil_append,List.length_append]
    rw [show cap - xs.length - ys.length=cap - (xs.length + ys.length) by omega,List.append_assoc]
   ·intro j hj;rw [List.getElem?_set_ne (fun e=>bp (by rw [e];exact hj))]
  ·rw [List.take_append_of_le_length (by rw [g1];exact Nat.le_refl _),List.take_of_length_le (by rw [g1];exact Nat.le_refl _),g2,f2,aY,aY];exact ⟨⟨g3 _,f3 _⟩,lh _ _⟩
  ·rw [List.take_append_of_le_length (by rw [g1];exact Nat.le_refl _),List.take_of_length_le (by rw [g1];exact Nat.le_refl _),g2,f2,← om]
   refine hK _ _ (.inr ⟨G.length,fT,nl,by simp,?_,by simpa using hc,by simp [hy]⟩) ?_ (by simp)
   ·simp [bt]
   ·intro j hj;have:=hG j hj;rw [List.getElem?_append_left (by omega)]
def Vu (kp:Nat→Prop) (H:List aa) (xs:List AV) (r:AV) (H':List aa):Prop:=ul zN kp r xs H'∧(∀ j,kp j→H'[j]?=H[j]?)∧H.length≤H'.length
theorem ZT:∀ (N:Nat) (t:T),wt t≤N→∀ (kp:Nat→Prop) (v:AV) (xs:List AV) (H:List aa),ul zN kp v xs H→(∀ x∈xs,jr 4 x)→(∀ j,kp j→j < H.length)→(xs.length + wt t) * 64≤140737488355328→
 aq Tryz.prog 132 [t.av,v] H (Vu kp H (xs++eT (wZ t xs.length))):=by
 intro N
 induction N with
 | zero=>intro t ht;have:=fO t;omega
 | succ N ih=>
 intro t ht kp v xs H hR fP hbase hb
 have hw:=DM t
 have hlw:=iR t.l
 refine Hm.2.calls rfl ?_
 simp only [Hm,aF]
 obtain ⟨o1,o2,o3,o4⟩:=hR.one
 simp +contextual only [o3,hR.len,hR.aN,bdN,YU,sZ,Nat.reduceEqDiff,Nat.reduceAdd,↓reduceIte,reduceCtorEq]
 refine z8 Bq hR fP 0 [mQ t] (by simp) (by simp [rF]) (by simp;omega) hbase fun v1 G1 UU UW uA=>?_
 obtain ⟨o1',o2',o3',o4'⟩:=UU.one
 simp +contextual only [sZ]
 intro _
 have jh:∀ i,(xs++mQ t::eT (da (t.l.take i) (xs.length + 1))).length=xs.length + 1 + ij (t.l.take i):=by intro i;simp [rH,gZ];omega
 have jy:∀ i,∀ x∈xs++mQ t::eT (da (t.l.take i) (xs.length + 1)),jr 4 x:=by
  intro i x hx
  rcases List.mem_append.1 hx with hx | hx
  ·exact fP x hx
  ·rcases List.mem_cons.1 hx with rfl | hx
   ·exact rF t
   ·exact kq _ x hx
 refine aJ t.l.length (fun i (p:AV×List aa)=>ul zN kp p.1 (xs++mQ t::eT (da (t.l.take i) (xs.length + 1))) p.2∧(∀ j,kp j→p.2[j]?=H[j]?)∧H.length≤p.2.length)
  (fun i p=>[(1,p.1),(5,.int .i64 xs.length),(6,iI (aU (t.l.take i) (xs.length + 1))),(17,.al 0 (bC t.l)),(18,.int .i64 t.l.length),(19,.int .i64 i)])
  (fun i p=>p.2) (v1,G1) ⟨⟨UU,UW,uA⟩,aA _ _ _⟩ fun i p hi hI=>?_
 obtain ⟨v,G⟩:=p
 obtain ⟨hR,hG,hl⟩:=hI
 simp only at hR hG hl
 obtain ⟨o1,o2,o3,o4⟩:=hR.one
 have hle:=dt t.l i
 have GF:=cI (t.l.take i) (xs.length + 1)
 have UX:(t.l.take i).length≤t.l.length:=by simp;omega
 simp +contextual only [o3,hR.len,hR.aN,jh,sT,(fo _).2.1,jK,sZ,Nat.reduceEqDiff,Nat.reduceAdd,↓reduceIte,reduceCtorEq]
 refine ⟨fun aK=>⟨bi aK,by omega,?_⟩,fun gr=>?_⟩
 ·have aK:=bi aK
  have hwt:=ot aK
  have hnext:=dt t.l (i + 1)
  have e2:t.l.take (i + 1)=t.l.take i++[t.l.getD i default]:=by rw [List.take_succ_eq_append_getElem aK];simp [aK]
  refine af (ih (t.l.getD i default) (by have:=bP (cq aK);omega) kp v _ G hR (jy i) (fun j hj=>by have:=hbase j hj;omega) (by rw [jh];omega)) ?_
  rintro r G' ⟨pE,dN,vS⟩
  obtain ⟨o1',o2',o3',o4'⟩:=pE.one
  simp +contextual only [o3',sZ,Nat.reduceEqDiff,↓reduceIte]
  refine ⟨i + 1,(r,G'),⟨aK,?_,fun j hj=>(dN j hj).trans (hG j hj),Nat.le_trans hl vS⟩,by omega,aC ?_ rfl⟩
  ·rw [jh] at pE
   rw [e2,lM,rG,← List.cons_append,← List.append_assoc]
   exact pE
  ·rw [e2,iX,au i (by omega)]
 ·have me:i=t.l.length:=by have:=cb gr;omega
  subst me
  rw [List.take_length] at hR
  have FY:=jh t.l.length
  have FZ:=jy t.l.length
  rw [List.take_length] at FY FZ
  have gI:(xs++mQ t::eT (da t.l (xs.length + 1))).set xs.length (FX (t,aU t.l (xs.length + 1)))=xs++eT (wZ t xs.length):=by
   rw [List.set_append_right _ _ (Nat.le_refl _),Nat.sub_self,List.set_cons_zero,o6];rfl
  have jQ:(xs++mQ t::eT (da t.l (xs.length + 1))).getD xs.length .any=mQ t:=by simp
  generalize xs++mQ t::eT (da t.l (xs.length + 1))=ys at hR FY FZ gI jQ
  rcases hR with ⟨rfl,_⟩ | ⟨id,cap,bp,rfl,hg,cj,_⟩
  ·simp at FY
   omega
  have uM:=(List.getElem?_eq_some_iff.1 hg).1
  obtain ⟨k1,k2,k3,k4,k5⟩:=aH (aU t.l (xs.length + 1))
  simp +contextual only [hg,lj,List.take_length,sZ,Nat.reduceEqDiff,↓reduceIte,reduceCtorEq]
  refine ⟨by omega,?_⟩
  refine Bm FZ (by omega) (by decide) (y:=FX (t,aU t.l (xs.length + 1))) k1 k4 (by rw [k2];exact k3 _) (by rw [jQ,k2];rfl) ?_
  simp +contextual only [sZ,Nat.reduceEqDiff,↓reduceIte,reduceCtorEq]
  rw [gI]
  refine aX (G.length) (by omega) (by rw [ay,if_pos rfl,gU];simpa using uM) ?_
  rw [ay,if_pos rfl,List.take_of_length_le (by simp)]
  refine ⟨.inr ⟨id,cap,bp,?_,?_,?_,?_⟩,?_,by simpa using hl⟩
  ·rw [← gI];simp
  ·rw [List.getElem?_set_self uM]
  ·rw [← gI];simpa using cj
  ·rw [o6];simp [eT]
  ·intro j hj;rw [List.getElem?_set_ne (fun e=>bp (by rw [e];exact hj))];exact hG j hj
end Go.aL
end
section
set_option maxRecDepth 100000
namespace Go.aL
open Go Go.Proofs Go.fN
def xw (n0 id:Nat) (G:List aa):List aa:=G.mapIdx fun j o=>if j < n0 + 3∨j=id then o else .dead
theorem tg {n0 id j:Nat} {G:List aa}:(xw n0 id G)[j]?=(G[j]?).map fun o=>if j < n0 + 3∨j=id then o else .dead:=by simp [xw]
theorem z9 {n0 id:Nat} {G:List aa}:(xw n0 id G).length=G.length:=by simp [xw]
theorem Gj {n0 id:Nat} {G:List aa}:(xw n0 id G).take (n0 + 3)=G.take (n0 + 3):=by
 apply List.ext_getElem?
 intro j
 rw [List.getElem?_take,List.getElem?_take]
 split
 ·rename_i hj
  rw [tg]
  cases G[j]? with
  | none=>rfl
  | some o=>simp [hj]
 ·rfl
theorem Eh {n0 id:Nat} {G:List aa} (h3:∀ (j:Nat) (o:aa),n0≤j→j < n0 + 3→G[j]?=some o→o.aV (j + 1)=true) (bp:∀ o,G[id]?=some o→o.aV (id + 1)=true):kH n0 G G.length (xw n0 id G):=by
 refine ⟨by rw [z9,Nat.min_self],fun j o ho=>?_⟩
 rw [tg] at ho
 cases hg:G[j]? with
 | none=>rw [hg] at ho;cases ho
 | some o'=>
   rw [hg] at ho
   simp only [Option.map_some,Option.some.injEq] at ho
   split at ho
   ·rename_i hc
    subst ho
    refine .inr ⟨rfl,fun h=>?_⟩
    rcases hc with hc | hc
    ·exact h3 j _ h hc hg
    ·subst hc;exact bp _ hg
   ·exact .inl ho.symm
def MT (H:List aa) (ps ss:List Int) (ts:List T) (r:AV) (G:List aa):Prop:=
 ∃ va,r=.tuple [.ptr (H.length + 2) 0,va]∧G.take (H.length + 3)=H++[.map [],.map [],kr ps ss (da ts 0) H.length (H.length + 1)]∧H.length + 3≤G.length∧RO zI (H.length + 3) va (ints (aU ts 0)) G
theorem ul.ZU {z:AV} {kp kp':Nat→Prop} {v:AV} {xs:List AV} {G G':List aa} (h:ul z kp v xs G) (hk:∀ id l c,v=.bc id 0 l c→¬ kp' id∧G'[id]?=G[id]?):ul z kp' v xs G':=by
 rcases h with h | ⟨id,cap,a,b,c,d⟩
 ·exact .inl h
 ·obtain ⟨h1,h2⟩:=hk _ _ _ b
  exact .inr ⟨id,cap,h1,b,by rw [h2];exact c,d⟩
theorem ul.ne {z:AV} {kp:Nat→Prop} {v:AV} {xs:List AV} {G:List aa} (h:ul z kp v xs G) {id l c:Nat} (e:v=.bc id 0 l c):¬ kp id:=by
 rcases h with ⟨_,rfl⟩ | ⟨id',cap,a,rfl,_⟩
 ·cases e
 ·cases e;exact a
theorem adw (ps ss:List Int) (ts:List T) (H:List aa) (hb:ij ts * 64≤140737488355328):aq Tryz.prog 75 [eX ps ss,.al 0 (bC ts)] H (MT H ps ss ts):=by
 refine ZS.2.wF rfl ?_
 simp only [ZS,aF,eX]
 have hlw:=iR ts
 simp +contextual only [bdD,Qg,sZ,Nat.reduceEqDiff,Nat.reduceAdd,↓reduceIte,reduceCtorEq]
 refine ⟨by simp;omega,fun _=>?_⟩
 have e0:∀ (l:List aa) (x:aa),(H++x::l)[H.length]?=some x:=by simp
 refine jF ts.length (fun i (p:AV×AV×List aa)=>ul zN (fun j=>j < H.length + 3∨∃ l c,p.2.1=.bc j 0 l c) p.1 (eT (da (ts.take i) 0)) p.2.2∧ul zI (fun j=>j < H.length + 3∨∃ l c,p.1=.bc j 0 l c) p.2.1 (ints (aU (ts.take i) 0)) p.2.2∧H.length + 3≤p.2.2.length∧
  p.2.2.take (H.length + 3)=H++[.map [],.map [],.cells [.al 0 (ints ps),.al 0 (ints ss),p.1,.map H.length,.map (H.length + 1)]])
  (fun i p=>[(6,.ptr (H.length + 2) 0),(7,p.2.1),(15,.al 0 (bC ts)),(16,.int .i64 ts.length),(17,.int .i64 i)])
  (fun i p=>p.2.2) (.ah,.ah,_) ⟨⟨.inl ⟨rfl,rfl⟩,.inl ⟨rfl,rfl⟩,by simp,?_⟩,lI _ _ _⟩ fun i p hi hI=>?_
 ·rw [List.take_of_length_le (by simp)]
 obtain ⟨v,va,G⟩:=p
 obtain ⟨hR,hA,hl,hG⟩:=hI
 simp only at hR hA hl hG
 obtain ⟨o1,o2,o3,o4⟩:=hR.one
 obtain ⟨p1,p2,p3,p4⟩:=hA.one
 have gget:∀ j,j < H.length + 3→G[j]?=(H++[.map [],.map [],.cells [.al 0 (ints ps),.al 0 (ints ss),v,.map H.length,.map (H.length + 1)]])[j]?:=by
  intro j hj;rw [← hG,List.getElem?_take,if_pos hj]
 have g2:G[H.length + 2]?=some (.cells [.al 0 (ints ps),.al 0 (ints ss),v,.map H.length,.map (H.length + 1)]):=by rw [gget _ (by omega)];simp
 have hle:=dt ts i
 have GF:=cI (ts.take i) 0
 have UX:(ts.take i).length≤ts.length:=by simp;omega
 by_cases aK:i < ts.length
 ·have nt:((i:Int) < ts.length)=True:=eq_true (by omega)
  simp +contextual only [o3,p3,g2,hR.len,hR.aN,jL,nt,decide_true,sZ,Nat.reduceEqDiff,Nat.reduceAdd,Nat.reduceLT,↓reduceIte]
  have hwt:=ot aK
  have hnext:=dt ts (i + 1)
  have e2:ts.take (i + 1)=ts.take i++[ts.getD i default]:=by rw [List.take_succ_eq_append_getElem aK];simp [aK]
  have arrlt:∀ {z:AV} {kp:Nat→Prop} {u:AV} {xs:List AV} {G:List aa} {j l c:Nat},ul z kp u xs G→u=.bc j 0 l c→j < G.length:=by
   intro z kp u xs G j l c h e
   rcases h with ⟨_,rfl⟩ | ⟨id',cap,_,rfl,h2,_⟩
   ·cases e
   ·cases e;exact aO h2
  refine ⟨aK,z8 Br hA (ow _) 0 [.int .i64 (ij (ts.take i):Nat)] (by simp) (ow [_]) (by rw [aw];simp;omega) (fun j hj=>?_) fun va' G1 SJ LR uA=>?_⟩
  ·rcases hj with hj | ⟨l,c,e⟩
   ·omega
   ·exact arrlt hR e
  obtain ⟨p1',p2',p3',p4'⟩:=SJ.one
  have g21:G1[H.length + 2]?=some (.cells [.al 0 (ints ps),.al 0 (ints ss),v,.map H.length,.map (H.length + 1)]):=by rw [LR _ (.inl (by omega)),g2]
  have UU:ul zN (fun j=>j < H.length + 3∨∃ l c,va'=.bc j 0 l c) v (eT (da (ts.take i) 0)) G1:=hR.ZU fun id l c e=>by
   refine ⟨fun h=>?_,LR id (.inr ⟨l,c,e⟩)⟩
   rcases h with h | ⟨l',c',e'⟩
   ·exact hR.ne e (.inl h)
   ·exact SJ.ne e' (.inr ⟨l,c,e⟩)
  simp +contextual only [o3,p3',g21,sZ,Nat.reduceEqDiff,Nat.reduceAdd,Nat.reduceLT,↓reduceIte,reduceCtorEq]
  have hc:=ZT (wt (ts.getD i default)) (ts.getD i default) (Nat.le_refl _) (fun j=>j < H.length + 3∨∃ l c,va'=.bc j 0 l c) v _ G1 UU (kq _) (fun j hj=>by
   rcases hj with hj | ⟨l,c,e⟩
   ·omega
   ·exact arrlt SJ e) (by rw [jL];omega)
  refine af hc ?_
  rintro r G' ⟨pE,JK,vS⟩
  obtain ⟨o1',o2',o3',o4'⟩:=pE.one
  have g2':G'[H.length + 2]?=some (.cells [.al 0 (ints ps),.al 0 (ints ss),v,.map H.length,.map (H.length + 1)]):=by rw [JK _ (.inl (by omega)),g21]
  have dU:=pE.aV (Nat.le_refl _)
  have E7:ul zI (fun j=>j < H.length + 3∨∃ l c,r=.bc j 0 l c) va' (ints (aU (ts.take i) 0)++[.int .i64 (ij (ts.take i):Nat)]) G':=SJ.ZU fun id l c e=>by
   refine ⟨fun h=>?_,JK id (.inr ⟨l,c,e⟩)⟩
   rcases h with h | ⟨l',c',e'⟩
   ·exact SJ.ne e (.inl h)
   ·exact pE.ne e' (.inr ⟨l,c,e⟩)
  have gt':G'.take (H.length + 3)=G.take (H.length + 3):=by
   apply List.ext_getElem?
   intro j
   rw [List.getElem?_take,List.getElem?_take]
   split
   ·rename_i hj;rw [JK j (.inl hj),LR j (.inl hj)]
   ·rfl
  simp +contextual only [kj,o1',o2',o3',o4',g2',dU,sZ,Nat.reduceEqDiff,Nat.reduceAdd,Nat.reduceLeDiff,↓reduceIte]
  refine ⟨by omega,i + 1,(r,va',_),⟨aK,?_,?_,by simp;omega,?_⟩,by omega,rq ?_ rfl⟩
  ·have h1:=pE.set (j:=H.length + 2) (fun l c e=>pE.ne e (.inl (by omega))) (.cells (ag [.al 0 (ints ps),.al 0 (ints ss),v,.map H.length,.map (H.length + 1)] 2 [r]))
   rw [jL] at h1
   rw [e2,lM,rG,Nat.zero_add]
   exact h1
  ·have h1:=E7.set (j:=H.length + 2) (fun l c e=>E7.ne e (.inl (by omega))) (.cells (ag [.al 0 (ints ps),.al 0 (ints ss),v,.map H.length,.map (H.length + 1)] 2 [r]))
   have ek:ints (aU (ts.take i++[ts.getD i default]) 0)=ints (aU (ts.take i) 0)++[.int .i64 (ij (ts.take i):Nat)]:=by rw [iX,Nat.zero_add];simp [ints]
   rw [e2,ek]
   exact h1
  ·rw [List.take_set,gt',hG]
   simp [ag]
  ·rw [au i (by omega)]
 ·have me:i=ts.length:=by omega
  subst me
  have nt:((ts.length:Int) < ts.length)=False:=eq_false (by omega)
  simp +contextual only [nt,decide_false,sZ,Nat.reduceEqDiff,↓reduceIte]
  rw [List.take_length] at hR hA
  have bz:∀ (l:List Int) (cap n:Nat),(bt zI (ints l) cap).aV n=true:=fun l cap n=>by
   rw [Bs]
   simp only [aa.aV,aY]
   exact ⟨bb _ _,(jr.flat (ko Br _)).2.2.1 n⟩
  have fin:∀ (G':List aa),H.length + 3≤G'.length→(∀ id l c,va=.bc id 0 l c→G'[id]?=G[id]?)→G'.take (H.length + 3)=H++[.map [],.map [],kr ps ss (da ts 0) H.length (H.length + 1)]→lE (kH H.length) H.length [.t 4,.t 5] [(4,.ptr (H.length + 2) 0),(5,va)] G' (MT H ps ss ts):=by
   intro G' vS bp dN
   have get3:∀ (j:Nat) (o:aa),H.length≤j→j < H.length + 3→G'[j]?=some o→o.aV (j + 1)=true:=by
    intro j o h1 h2 ho
    have h3:(G'.take (H.length + 3))[j]?=some o:=by rw [List.getElem?_take,if_pos h2];exact ho
    rw [dN,List.getElem?_append_right h1] at h3
    have:j=H.length∨j=H.length + 1∨j=H.length + 2:=by omega
    rcases this with rfl | rfl | rfl
    ·simp at h3;subst h3;rfl
    ·simp at h3;subst h3;rfl
    ·simp at h3;subst h3;exact zK ps ss _ _
   have uC:∀ id,RO zI (H.length + 3) va (ints (aU ts 0)) (xw H.length id G')→(∀ o,G'[id]?=some o→o.aV (id + 1)=true)→va.aV G'.length=true→lE (kH H.length) H.length [.t 4,.t 5] [(4,.ptr (H.length + 2) 0),(5,va)] G' (MT H ps ss ts):=by
    intro id xI dU hva
    refine Mc (m:=G'.length) (by omega) (Eh get3 dU) (x:=.ptr (H.length + 2) 0) (y:=va) rfl (by simp [ay,p3]) (by rw [pY];exact decide_eq_true (by omega)) hva ⟨va,rfl,by rw [Gj,dN],by rw [z9];exact vS,xI⟩
   rcases hA with ⟨e1,rfl⟩ | ⟨id,cap,hk,rfl,hg,hc,dW⟩
   ·exact uC G'.length (.inl ⟨e1,rfl⟩) (fun o ho=>by rw [List.getElem?_eq_none (Nat.le_refl _)] at ho;cases ho) rfl
   ·have QB:=bp _ _ _ rfl
    rw [hg] at QB
    refine uC id (.inr ⟨id,cap,by have:=fun h=>hk (.inl h);omega,rfl,by rw [tg,QB];simp,hc,dW⟩) (fun o ho=>?_) ?_
    ·rw [QB] at ho;cases ho;exact bz _ _ _
    ·rw [gU];exact decide_eq_true (aO QB)
  rw [DN]
  unfold Au
  rw [g2]
  rcases hR with ⟨e1,rfl⟩ | ⟨id,cap,bp,rfl,hg,cj,dW⟩
  ·simp +contextual only [List.getElem?_cons_succ,List.getElem?_cons_zero,p3,sZ,Nat.reduceEqDiff,↓reduceIte,reduceCtorEq]
   refine fin G hl (fun _ _ _ _=>rfl) ?_
   rw [hG,kr,ou,if_pos (DO e1)]
  ·simp +contextual only [List.getElem?_cons_succ,List.getElem?_cons_zero,p3,sZ,Nat.reduceEqDiff,↓reduceIte,reduceCtorEq]
   have WG:H.length + 3≤id:=by have:=fun h=>bp (.inl h);omega
   refine wW (by decide) Bq (kq _) (fun x hx=>?_) hg cj ⟨?_,?_,?_⟩
   ·obtain ⟨q,_,rfl⟩:=List.mem_map.1 hx;rfl
   ·rw [List.getElem?_set_ne (by omega)];exact g2
   ·rw [b9];exact w8 _ _
   ·refine fin _ (by simp;omega) (fun id' l c e=>?_) ?_
    ·have h1:id'≠id:=fun e'=>hA.ne e (.inr ⟨_,_,by rw [e']⟩)
     have h2:id'≠H.length + 2:=fun e'=>hA.ne e (.inl (by omega))
     rw [List.getElem?_set_ne (Ne.symm h2),List.getElem?_set_ne (Ne.symm h1)]
    ·rw [List.take_set,List.take_set,hG]
     have e1:∀ X:List aa,X.length≤id→X.set id .dead=X:=fun X h=>List.set_eq_of_length_le h
     rw [e1 _ (by simp;omega),kr,ou,if_neg (fun e=>dW (by rw [e];rfl))]
     simp
end Go.aL
end
section
set_option maxRecDepth 100000
set_option maxHeartbeats 0
namespace Go.aL
open Go Go.Proofs
noncomputable def Sb:=aF Tryz.call105 Tryz.func105 Tryz.ntmps105 [(5,6,2)] [(0,[0,1,2]),(1,[0,1,2]),(2,[0,1,2,16]),(3,[6]),(4,[0,1,2,7]),(5,[0,7]),(6,[0]),(7,[6])] [(5,(.take 0 true (.take 1 true (.take 2 true (.take 3 true (.take 4 true (.take 5 true (.br 6 (.take 7 true .done) .nil))))))))]
end Go.aL
end
section
set_option maxRecDepth 100000
namespace Go.aL
open Go Go.Proofs Go.fN
theorem spI (A B:List Int) (k:Nat):ag (ints A) k (ints B)=ints (A.take k++B++A.drop (k + B.length)):=by
 unfold ag
 rw [lO,sY,lP,aw,lP]
 rw [List.append_assoc]
theorem sl3 {id i n cap:Nat} (h:i < n) (hc:n≤cap) (φ:AV→Prop):bm 1 (.bc id 0 n cap) (some (.int .i64 (i:Int))) (some (.int .i64 ((i:Int) + 1))) (some (.int .i64 (n:Int))) φ=φ (.bc id (if n=i then 0 else 0 + i * 1) ((i + 1) - i) (n - i)):=by
 have e1:((i:Int) + 1).toNat=i + 1:=by omega
 simp only [bm,oI,dQ,Int.toNat_natCast,Option.isSome_some,true_and,e1,eq_iff_iff]
 constructor
 ·rintro ⟨_,_,_,h⟩;exact h.2.2.2
 ·exact fun k=>⟨by omega,by omega,by omega,by omega,by omega,by omega,k⟩
theorem adx {id i n cap:Nat} (hc:i≤cap) (φ:AV→Prop):bm 1 (.bc id 0 n cap) none (some (.int .i64 (i:Int))) none φ=φ (.bc id 0 i cap):=by
 have e:(if cap=0 then 0 else 0 + 0 * 1)=0:=by split <;> simp
 simp only [bm,gQ,dQ,Int.toNat_natCast,e,Nat.sub_zero,eq_iff_iff]
 constructor
 ·rintro ⟨_,h⟩;exact h.2.2
 ·exact fun k=>⟨by omega,by omega,hc,k⟩
theorem ady {id i n cap:Nat} (h:i + 1≤n) (hc:n≤cap) (φ:AV→Prop):bm 1 (.bc id 0 n cap) (some (.int .i64 ((i:Int) + 1))) none none φ=φ (.bc id (if cap=i + 1 then 0 else 0 + (i + 1) * 1) (n - (i + 1)) (cap - (i + 1))):=by
 have e1:((i:Int) + 1).toNat=i + 1:=by omega
 simp only [bm,gQ,dQ,e1,eq_iff_iff]
 constructor
 ·rintro ⟨_,h⟩;exact h.2.2
 ·exact fun k=>⟨by omega,h,hc,k⟩
theorem adz {id l h n cap:Nat} (hl:l < h) (hc:h≤cap) (φ:AV→Prop):bm 1 (.bc id 0 n cap) (some (.int .i64 (l:Int))) (some (.int .i64 (h:Int))) none φ=φ (.bc id l (h - l) (cap - l)):=by
 have e:(if cap=l then 0 else 0 + l * 1)=l:=by rw [if_neg (by omega)];omega
 simp only [bm,gQ,dQ,Int.toNat_natCast,e,eq_iff_iff]
 constructor
 ·rintro ⟨_,_,h⟩;exact h.2.2
 ·exact fun k=>⟨by omega,by omega,by omega,hc,k⟩
theorem adA (P S pad:List Int) (a:Int) (hb:(P++a::S).length≤1000000000) (id cap:Nat) (cj:cap=(P++a::S++pad).length) {H:List aa} (hg:H[id]?=some (.cells (ints (P++a::S++pad)))) :
 aq Tryz.prog 105 [.bc id 0 (P.length + 1 + S.length) cap,.int .i64 P.length,.int .i64 ((P.length:Int) + 1)] H fun r H'=>r=.bc id 0 (P.length + S.length) cap∧H'=H.set id (.cells (ints (P++S++0::pad))):=by
 refine Sb.2.calls rfl ?_
 simp only [Sb,aF]
 have jc:cap=P.length + 1 + S.length + pad.length:=by rw [cj];simp;omega
 rw [cj] at jc
 have ne:((P.length:Int)=(P.length:Int) + 1)=False:=eq_false (by omega)
 have qx:=aO hg
 have s1:=fun φ=>sl3 (id:=id) (i:=P.length) (n:=P.length + 1 + S.length) (cap:=cap) (by omega) (by omega) φ
 have s2:=fun φ=>adx (id:=id) (i:=P.length) (n:=P.length + 1 + S.length) (cap:=cap) (by omega) φ
 have s3':=fun φ=>ady (id:=id) (i:=P.length) (n:=P.length + 1 + S.length) (cap:=cap) (by omega) (by omega) φ
 have un:∀ a b c d,(AV.bc a b c d).ab=.bc a b c d:=fun _ _ _ _=>rfl
 have ox1:∀ (env:Env) (i:IX),gR env (some i)=some (ap env i):=fun _ _=>rfl
 have ox2:∀ (env:Env),gR env none=none:=fun _=>rfl
 have s4:=fun φ=>adz (id:=id) (l:=P.length + S.length) (h:=P.length + 1 + S.length) (n:=P.length + S.length) (cap:=cap) (by omega) (by omega) φ
 simp +contextual only [Option.map_some,Option.map_none,ox1,s1,s2,s3',ne,decide_false,un,sZ,Nat.reduceEqDiff,Nat.reduceAdd,↓reduceIte,reduceCtorEq]
 have hnone:∀ a b c d,dl (AV.bc a b c d)=none:=fun _ _ _ _=>rfl
 have e0:P.length + 1 + S.length - (P.length + 1)=S.length:=by omega
 have eA:P++a::S++pad=(P++[a])++(S++pad):=by simp
 unfold b7
 simp only [hnone,xW,hg,aw,e0]
 have pg:(if cap=P.length + 1 then 0 else 0 + (P.length + 1) * 1) + S.length * 1≤(P++a::S++pad).length:=by simp only [List.length_append,List.length_cons];split <;> omega
 have htake:(List.take (S.length * 1) (List.drop (if cap=P.length + 1 then 0 else 0 + (P.length + 1) * 1) (ints (P++a::S++pad))))=ints S:=by
  rw [sY,lO,Nat.mul_one]
  congr 1
  by_cases hc:cap=P.length + 1
  ·have:S=[]:=List.length_eq_zero_iff.1 (by omega)
   subst this;simp
  ·rw [if_neg hc,eA,List.drop_left' (by simp),List.take_left]
 rw [if_pos pg]
 simp only [hg,htake,vf,lQ,bb]
 refine ⟨?_,trivial,by omega,by rw [aw,← cj];omega,trivial,?_⟩
 ·rw [List.length_drop,aw];simp only [List.length_append,List.length_cons] at pg ⊢;omega
 obtain ⟨x,X,hxX,hXl⟩:∃ x X,(a::S).drop S.length=x::X∧X.length=0:=by
  have hl:((a::S).drop S.length).length=1:=by simp
  cases hd:(a::S).drop S.length with
  | nil=>rw [hd] at hl;simp at hl
  | cons x X=>rw [hd] at hl;exact ⟨x,X,rfl,by simpa using hl⟩
 have hX0:X=[]:=List.length_eq_zero_iff.1 hXl
 subst hX0
 have e1:ag (ints (P++a::S++pad)) (0 + P.length * 1) (ints S)=ints (P++S++x::pad):=by
  rw [spI]
  congr 1
  have h1:(P++a::S++pad).take (0 + P.length * 1)=P:=by rw [List.append_assoc,Nat.zero_add,Nat.mul_one,List.take_left]
  have h2:(P++a::S++pad).drop (0 + P.length * 1 + S.length)=x::pad:=by
   rw [List.append_assoc,Nat.zero_add,Nat.mul_one,← List.drop_drop,List.drop_left,List.drop_append_of_le_length (by simp),hxX];rfl
  rw [h1,h2]
 rw [e1]
 have gs:∀ o,(H.set id o)[id]?=some o:=fun o=>List.getElem?_set_self qx
 have e2:P.length + 1 + S.length - (P.length + S.length)=1:=by omega
 have e3:((P.length + S.length:Nat):Int)=((P.length + S.length:Nat):Int):=rfl
 simp +contextual only [ox1,ox2,s4,un,e2,IZ,sZ,Nat.reduceEqDiff,↓reduceIte,reduceCtorEq]
 unfold iM
 have ap1:dh (.int .i64 0) 1=ints [0]:=rfl
 simp only [gs,ap1,vf,lQ,bb,aw,spI,List.set_set]
 refine ⟨by simp;omega,trivial,trivial,?_⟩
 have e4:(P++S++x::pad).take (P.length + S.length)++[0]++(P++S++x::pad).drop (P.length + S.length + [(0:Int)].length)=P++S++0::pad:=by
  have hl:(P++S).length=P.length + S.length:=by simp
  rw [← hl,List.take_left,← List.drop_drop,List.drop_left];simp
 rw [e4]
 simp +contextual only [un,sZ,↓reduceIte,reduceCtorEq]
 exact Uo (by simp) (by rw [gU];exact decide_eq_true qx) rfl rfl
end Go.aL
end
section
set_option maxRecDepth 100000
namespace Go.aL
open Go Go.Proofs Go.fN
theorem Sc {S:List aa→Prop} (hS:zO S) {Q:Int→Prop} {a:List Int} {id cap:Nat} (hg:∀ G,S G→G[id]?=some (bt zI (ints a) cap)) (hc:a.length≤cap) (la:a.length≤1000000000) (g:Nat) (pre cL:List AV) (cj:cL.map AV.ab=cL) (lZ:pre.map AV.ab=pre)
 (hf:∀ x∈a,∀ H,S H→aq Tryz.prog g (pre++[.int .i64 x]++cL) H (SB S (Q x))) {H:List aa} (hH:S H) :
 aq Tryz.prog 100 [.bc id 0 a.length cap,.fn (.func g) pre cL] H (SI S Q a):=by
 refine Dn.2.calls rfl ?_
 simp only [Dn,aF]
 simp +contextual only [sZ,Nat.reduceEqDiff,Nat.reduceAdd,↓reduceIte,reduceCtorEq]
 have fin:∀ (n:Int) (G:List aa),S G→((n=-1∧∀ x∈a,¬ Q x)∨∃ m:Nat,n=m∧m < a.length∧Q (a.getD m 0)∧∀ j,j < m→¬ Q (a.getD j 0))→bW H.length [.t 4] [(4,.int .i64 n)] G (SI S Q a):=by
  intro n G hG hn
  refine aX H.length (Nat.le_refl _) (by rw [ay,if_pos rfl];rfl) ?_
  rw [ay,if_pos rfl,List.take_of_length_le (by rw [hS H G hH hG];exact Nat.le_refl _)]
  refine ⟨hG,?_⟩
  rcases hn with ⟨rfl,h⟩ | ⟨m,rfl,h⟩
  ·exact .inl ⟨rfl,h⟩
  ·exact .inr ⟨m,rfl,h⟩
 refine aJ a.length (fun i (G:List aa)=>S G∧∀ j,j < i→¬ Q (a.getD j 0))
  (fun i G=>[(0,.bc id 0 a.length cap),(1,.fn (.func g) pre cL),(7,.int .i64 a.length),(8,.int .i64 i)]) (fun i G=>G) H ⟨⟨hH,fun j hj=>by omega⟩,aA _ _ _⟩ fun i G hi hI=>?_
 obtain ⟨hG,hq⟩:=hI
 by_cases aK:i < a.length
 ·have nt:((i:Int) < a.length)=True:=eq_true (by omega)
  simp +contextual only [nt,decide_true,lj,hg G hG,Ht aK,cj,lZ,sZ,Nat.reduceEqDiff,Nat.reduceAdd,↓reduceIte,reduceCtorEq]
  refine ⟨by omega,af (hf _ (aP (by omega)) G hG) ?_⟩
  rintro r G' ⟨x,rfl,hx,dN⟩
  cases x with
  | false=>
    simp +contextual only [sZ,Nat.reduceEqDiff,↓reduceIte,reduceCtorEq]
    refine ⟨i + 1,G',⟨by omega,dN,fun j hj=>?_⟩,by omega,aC (by rw [au i (by omega)]) rfl⟩
    by_cases h:j=i
    ·subst h;exact fun h=>absurd (hx.2 h) (by simp)
    ·exact hq j (by omega)
  | true=>
    simp +contextual only [sZ,Nat.reduceEqDiff,↓reduceIte,reduceCtorEq]
    exact fin _ _ dN (.inr ⟨i,rfl,by omega,hx.1 rfl,hq⟩)
 ·have nt:((i:Int) < a.length)=False:=eq_false (by omega)
  simp +contextual only [nt,decide_false,sZ,Nat.reduceEqDiff,↓reduceIte,reduceCtorEq]
  refine fin _ _ hG (.inl ⟨rfl,fun x hx=>?_⟩)
  obtain ⟨j,hj,rfl⟩:=List.getElem_of_mem hx
  have:=hq j (by omega)
  simpa [hj] using this
theorem ZV {S:List aa→Prop} (hS:zO S) {Q:Int→Prop} {a:List Int} {id cap:Nat} (hg:∀ G,S G→G[id]?=some (bt zI (ints a) cap)) (hc:a.length≤cap) (la:a.length≤1000000000) (g:Nat) (pre cL:List AV) (cj:cL.map AV.ab=cL) (lZ:pre.map AV.ab=pre)
 (hf:∀ x∈a,∀ H,S H→aq Tryz.prog g (pre++[.int .i64 x]++cL) H (SB S (Q x))) {H:List aa} (hH:S H) :
 aq Tryz.prog 102 [.bc id 0 a.length cap,.fn (.func g) pre cL] H (SB S (∃ x∈a,Q x)):=by
 refine Dp.2.calls rfl ?_
 simp only [Dp,aF]
 simp +contextual only [sZ,Nat.reduceEqDiff,Nat.reduceAdd,↓reduceIte,reduceCtorEq]
 refine af (Sc hS hg hc la g pre cL cj lZ hf hH) ?_
 rintro r G ⟨hG,⟨rfl,h⟩ | ⟨n,rfl,h1,h2,_⟩⟩
 ·simp +contextual only [sZ,↓reduceIte,reduceCtorEq]
  exact Bt hS (b:=false) (by simp) ⟨fun h=>by simp at h,fun ⟨x,hx,h'⟩=>absurd h' (h x hx)⟩ hH hG
 ·simp +contextual only [sZ,↓reduceIte,reduceCtorEq]
  exact Bt hS (b:=true) (by simp) ⟨fun _=>⟨_,aP h1,h2⟩,fun _=>rfl⟩ hH hG
def SG (c:Cx) (G H:List aa):Prop:=Du c H∧Up c G H
theorem SG.len (c:Cx) (G:List aa):zO (SG c G):=fun H H' h h'=>h'.2.len.trans h.2.len.symm
theorem adB {c:Cx} (hc:c.Ok) {i x:Int} (hi:c.dV i) (hx:c.dV x) {t9:Nat} {G:List aa} (h9:G[t9]?=some (.cells [.ptr c.d 0])) (n1:t9≠c.e) (n2:t9≠c.g) (H:List aa) (hH:SG c G H) :
 aq Tryz.prog 103 ([]++[.int .i64 x]++[.ptr t9 0,.ai (.int .i64 i)]) H (SB (SG c G) (R c.O (c.tm i) (c.tm x))):=by
 refine Xb.2.calls rfl ?_
 simp only [Xb,aF,List.nil_append,List.cons_append]
 have h9':H[t9]?=some (.cells [.ptr c.d 0]):=by rw [hH.2.get t9 n1 n2,h9]
 simp +contextual only [h9',sZ,Nat.reduceEqDiff,Nat.reduceAdd,Nat.reduceLT,↓reduceIte,reduceCtorEq]
 refine af (kv hc hi hx H hH.1) ?_
 rintro r G' ⟨b,rfl,hb,hU,hD⟩
 simp +contextual only [sZ,↓reduceIte,reduceCtorEq]
 exact Bt (SG.len c G) rfl hb hH ⟨hD,hH.2.trans hU⟩
theorem adC {c:Cx} (hc:c.Ok) {i:Int} (hi:c.dV i) {t9 t10 id cap:Nat} {l:List Int} {G:List aa} (hl:∀ x∈l,c.dV x) (Ak:l.length≤cap) (Np:l.length≤1000000000)
 (h9:G[t9]?=some (.cells [.ptr c.d 0])) (n1:t9≠c.e) (n2:t9≠c.g)
 (h10:G[t10]?=some (.cells [.bc id 0 l.length cap])) (m1:t10≠c.e) (m2:t10≠c.g)
 (hg:G[id]?=some (bt zI (ints l) cap)) (k1:id≠c.e) (k2:id≠c.g) (H:List aa) (hH:SG c G H) :
 aq Tryz.prog 101 ([]++[.int .i64 i]++[.ptr t10 0,.ptr t9 0]) H (SB (SG c G) (¬ ∃ x∈l,R c.O (c.tm i) (c.tm x))):=by
 refine Xa.2.calls rfl ?_
 simp only [Xa,aF,List.nil_append,List.cons_append]
 have adD:H[t10]?=some (.cells [.bc id 0 l.length cap]):=by rw [hH.2.get t10 m1 m2,h10]
 simp +contextual only [adD,sZ,Nat.reduceEqDiff,Nat.reduceAdd,Nat.reduceLT,↓reduceIte,reduceCtorEq]
 refine af (ZV (SG.len c G) (fun G' dN=>by rw [dN.2.get id k1 k2,hg]) Ak Np 103 [] [.ptr t9 0,.ai (.int .i64 i)] rfl rfl (fun x hx H' hH'=>adB hc hi (hl x hx) h9 n1 n2 H' hH') hH) ?_
 rintro r G' ⟨b,rfl,hb,hG⟩
 simp +contextual only [sZ,↓reduceIte,reduceCtorEq]
 refine Bt (SG.len c G) (b:=!b) (by simp) ?_ hH hG
 rw [← hb];cases b <;> simp
end Go.aL
end
section
set_option maxRecDepth 100000
set_option maxHeartbeats 0
namespace Go.aL
open Go Go.Proofs
noncomputable def ZW:=aF Tryz.call37 Tryz.func37 Tryz.ntmps37 [(0,0,1),(0,1,1),(9,2,2000),(10,0,1),(10,12,2000),(10,15,1),(11,4,2000)] [(0,[2,3,4]),(1,[2,4,8]),(2,[2,4,8,18]),(3,[6,7]),(4,[2,4,22]),(5,[6,7]),(6,[9,10]),(7,[9,10,11]),(8,[9,10,11,31]),(9,[9,10,11,12]),(10,[9,10,11,12]),(11,[9,10,11]),(12,[6,7])] [(10,(.take 1 true (.take 2 true (.take 3 true (.take 4 true (.take 5 true (.take 6 true (.take 7 true (.take 8 true (.take 9 true (.take 10 true (.take 11 true (.br 0 (.br 12 (.take 13 true (.br 14 (.br 15 .done .nil) .nil)) .nil) (.br 12 (.take 13 true (.br 0 (.br 14 (.br 15 .done .nil) .nil) .nil)) .nil))))))))))))))]
noncomputable def Sd:=aF Tryz.call104 Tryz.func104 Tryz.ntmps104 [(1,4,2),(5,4,2000),(7,0,3003)] [(0,[1,2]),(1,[1,2]),(2,[1,2,10,11,12]),(3,[1,2,10,11,12,13]),(4,[1,2,3,4,10,11,12]),(5,[1,2,10,11,12]),(6,[1,2,10,11,12]),(7,[2])] [(5,(.take 3 true (.take 0 false (.take 2 false (.br 1 (.br 4 (.take 5 true (.br 6 .done .nil)) .nil) (.br 4 (.take 1 true (.take 5 true (.br 6 .done .nil))) .nil))))))]
end Go.aL
end
section
set_option maxRecDepth 100000
namespace Go.aL
open Go Go.Proofs Go.fN
def zT:AV:=.agg [.int .i64 0,.int .i64 0,.ah]
theorem MU:jr 3 (bO zT):=⟨rfl,rfl,rfl,rfl⟩
theorem uc (t:T):t.av=.agg [.int .i64 t.k,.int .i64 t.n,.al 0 (bC t.l)]:=by cases t;rfl
theorem xx (t:T):jr 3 t.av:=by
 rw [uc]
 exact ⟨rfl,rfl,by simp [AV.cells,dq,bH,cP,fM,b9],rfl⟩
theorem HI {l:List T} {x:AV} (h:x∈bC l):∃ t∈l,x=t.av:=by
 induction l with
 | nil=>cases h
 | cons y r ih=>
   rcases List.mem_cons.1 h with rfl | h
   ·exact ⟨y,List.mem_cons_self,rfl⟩
   ·obtain ⟨t,ht,e⟩:=ih h;exact ⟨t,List.mem_cons_of_mem _ ht,e⟩
theorem pd (l:List T):∀ x∈bC l,jr 3 x:=by
 intro x hx;obtain ⟨t,_,rfl⟩:=HI hx;exact xx t
theorem HJ {l:List T} {i:Nat} (h:i < l.length):(bC l).getD i .any=(l.getD i default).av:=by
 induction l generalizing i with
 | nil=>simp at h
 | cons x r ih=>
   cases i with
   | zero=>rfl
   | succ i=>simpa [bC] using ih (i:=i) (by simpa using h)
theorem ja (l:List T):(bC l).length=l.length:=by induction l with | nil=>rfl | cons x r ih=>simp [bC,ih]
def CT (base:Nat) (v:AV) (l:List T) (G:List aa):Prop:=
 (l=[]∧v=.ah)∨∃ id cap,base≤id∧v=.bc id 0 l.length cap∧G[id]?=some (bt zT (bC l) cap)∧l.length≤cap
theorem CT.one {base:Nat} {v:AV} {l:List T} {G:List aa} (h:CT base v l G):v.one=true∧v.val=true∧v.ab=v∧v.cells=[v]:=by
 rcases h with ⟨_,rfl⟩ | ⟨id,cap,_,rfl,_⟩ <;> exact ⟨rfl,rfl,rfl,rfl⟩
theorem CT.aV {base:Nat} {v:AV} {l:List T} {G:List aa} (h:CT base v l G) {n:Nat} (hn:G.length≤n):v.aV n=true:=by
 rcases h with ⟨_,rfl⟩ | ⟨id,cap,_,rfl,c,_⟩
 ·rfl
 ·have:=(List.getElem?_eq_some_iff.1 c).1
  rw [gU];simp;omega
theorem CT.len {base:Nat} {v:AV} {l:List T} {G:List aa} (h:CT base v l G) {H:List aa} (φ:AV→Prop):fx v H φ=φ (.int .i64 l.length):=by
 rcases h with ⟨rfl,rfl⟩ | ⟨id,cap,_,rfl,_⟩ <;> rfl
theorem CT.aN {base:Nat} {v:AV} {l:List T} {G:List aa} (h:CT base v l G):aN 1 v=True:=by
 rcases h with ⟨rfl,rfl⟩ | ⟨id,cap,_,rfl,_⟩ <;> rfl
theorem MV (o:Nat) (φ:AV→Prop):cZ 0 false (.al o []) φ=(φ (.bool true)∧φ (.bool false)):=by simp [cZ,isNil]
theorem MW (o:Nat) (x:AV) (r:List AV) (φ:AV→Prop):cZ 0 false (.al o (x::r)) φ=φ (.bool false):=by simp [cZ,isNil]
theorem MX {esz bytes:Nat} {z:AV} {id o:Nat} {G:List aa} (bp:G[id]?=some (.cells [])) {K:AV→List aa→Prop} (hK:K (.bc id 0 0 0) G):b7 esz bytes z (.bc id 0 0 0) (.al o []) G K:=by
 unfold b7
 simp only [dl,bp]
 refine ⟨fun y h=>by simp at h,by simp,Nat.le_refl _,by simp,fun _=>⟨by simp [flat,aj],?_⟩,fun h=>absurd h (by simp)⟩
 have e:ag ([]:List AV) ((0 + 0) * esz) (List.map AV.ab (flat []))=[]:=by simp [ag,flat]
 simp only [flat,ag,List.flatMap_nil,List.map_nil,List.length_nil,List.append_nil,List.take_nil,List.drop_nil]
 rw [F3 bp]
 exact hK
theorem adF (l:List T) (H:List aa) (hb:l.length * 40≤140737488355328):aq Tryz.prog 58 [.al 0 (bC l)] H fun r H'=>CT H.length r l H'∧H'.take H.length=H∧H.length≤H'.length:=by
 refine YN.2.calls rfl ?_
 simp only [YN,aF]
 cases l with
 | nil=>
   simp +contextual only [bC,MV,uY,tH,sZ,Nat.reduceEqDiff,Nat.reduceAdd,↓reduceIte,reduceCtorEq]
   refine ⟨aX H.length (Nat.le_refl _) (by rw [ay,if_pos rfl];rfl) ⟨.inl ⟨rfl,by rw [ay,if_pos rfl]⟩,by simp,by simp⟩,?_⟩
   refine ⟨rfl,MX (by simp [flat]) ?_⟩
   simp +contextual only [sZ,↓reduceIte,reduceCtorEq]
   refine aX (H.length + 1) (by omega) (by rw [ay,if_pos rfl,gU];exact decide_eq_true (by omega)) ?_
   rw [ay,if_pos rfl,List.take_of_length_le (by simp)]
   exact ⟨.inr ⟨H.length,0,Nat.le_refl _,rfl,by simp [bt,bC,flat,dh],Nat.le_refl _⟩,by simp,by simp⟩
 | cons v r=>
   simp +contextual only [bC,MW,uY,tH,sZ,Nat.reduceEqDiff,Nat.reduceAdd,↓reduceIte,reduceCtorEq]
   refine ⟨rfl,Hr MU (by simp [flat]) (bC (v::r)) (by simp [bC]) (pd _) (by rw [ja];exact hb) (base:=H.length) (by simp) fun v' G' hR hG hl=>?_⟩
   obtain ⟨o1,o2,o3,o4⟩:=hR.one
   simp +contextual only [o3,sZ,↓reduceIte,reduceCtorEq]
   have vS:H.length≤G'.length:=by simp at hl;omega
   refine aX G'.length vS (by rw [ay,if_pos rfl];exact hR.aV (Nat.le_refl _)) ?_
   rw [ay,if_pos rfl,List.take_length]
   refine ⟨?_,by rw [hG];simp,vS⟩
   rcases hR with ⟨h,_⟩ | ⟨id,cap,a,b,c,d,_⟩
   ·cases h
   ·rw [ja] at b d;exact .inr ⟨id,cap,a,b,c,d⟩
theorem loadT {l:List T} {cap i:Nat} (h:i < l.length) (φ:AV→Prop):dm (some (bt zT (bC l) cap)) (some 3) (i * 3) φ=φ (l.getD i default).av:=by
 obtain ⟨g1,_⟩:=jr.flat (pd l)
 rw [ja] at g1
 have h1:=qe (pd l) i (by rw [ja];exact h)
 rw [HJ h] at h1
 have yv:(l.getD i default).av.cells.length=3:=(xx _).len
 have e:((flat (bC l)++dh zT (cap - (bC l).length)).drop (i * 3)).take 3=(l.getD i default).av.cells:=by
  rw [List.drop_append_of_le_length (by omega),h1,List.append_assoc,List.take_append_of_le_length (by omega),List.take_of_length_le (by omega)]
 simp only [bt,dm,e,eq_iff_iff,List.length_append]
 have e2:AV.agg ((l.getD i default).av.cells.map AV.drop)=(l.getD i default).av:=by rw [uc];rfl
 rw [e2]
 constructor
 ·exact fun h=>h.2
 ·exact fun h2=>⟨by omega,h2⟩
theorem storeT {l:List T} {cap i id:Nat} (h:i < l.length) {H:List aa} (hg:H[id]?=some (bt zT (bC l) cap)) {K:List aa→Prop} (hK:K H):gB (some (bt zT (bC l) cap)) 3 id (i * 3) (l.getD i default).av H K:=by
 obtain ⟨g1,_⟩:=jr.flat (pd l)
 rw [ja] at g1
 have h1:=qe (pd l) i (by rw [ja];exact h)
 rw [HJ h] at h1
 have ho:=xx (l.getD i default)
 have yv:=ho.len
 have hs:ag (flat (bC l)++dh zT (cap - (bC l).length)) (i * 3) ((l.getD i default).av.cells.map AV.ab)=flat (bC l)++dh zT (cap - (bC l).length):=by
  rw [ho.un]
  unfold ag
  have e1:(flat (bC l)++dh zT (cap - (bC l).length)).drop (i * 3)=(l.getD i default).av.cells++(flat ((bC l).drop (i + 1))++dh zT (cap - (bC l).length)):=by
   rw [List.drop_append_of_le_length (by omega),h1,List.append_assoc]
  have e2:(flat (bC l)++dh zT (cap - (bC l).length)).drop (i * 3 + (l.getD i default).av.cells.length)=flat ((bC l).drop (i + 1))++dh zT (cap - (bC l).length):=by
   rw [← List.drop_drop,e1,List.drop_left]
  rw [e2,← e1,List.take_append_drop]
 have hv:(l.getD i default).av.val=true:=by rw [uc];rfl
 simp only [bt,gB]
 refine ⟨hv,yv,by rw [List.length_append];omega,ho.one,by rw [ho.un];exact bI (Nat.zero_le _) _ ho.bl,?_⟩
 rw [hs,show (aa.cells (flat (bC l)++dh zT (cap - (bC l).length)))=bt zT (bC l) cap from rfl,F3 hg]
 exact hK
theorem CT.set {base:Nat} {v:AV} {l:List T} {G:List aa} (h:CT base v l G) {j:Nat} (hj:j < base) (o:aa):CT base v l (G.set j o):=by
 rcases h with h | ⟨id,cap,a,b,c,d⟩
 ·exact .inl h
 ·exact .inr ⟨id,cap,a,b,by rw [List.getElem?_set_ne (by omega)];exact c,d⟩
theorem CT.rp {base:Nat} {v:AV} {l:List T} {G:List aa} (h:CT base v l G) (X:List aa):CT base v l (G++X):=by
 rcases h with h | ⟨id,cap,a,b,c,d⟩
 ·exact .inl h
 ·exact .inr ⟨id,cap,a,b,by rw [List.getElem?_append_left (aO c)];exact c,d⟩
theorem CT.get {base:Nat} {v:AV} {l:List T} {G:List aa} (h:CT base v l G) {i:Nat} (hi:i < l.length):∃ id cap,base≤id∧v=.bc id 0 l.length cap∧G[id]?=some (bt zT (bC l) cap)∧l.length≤cap:=by
 rcases h with ⟨rfl,_⟩ | h
 ·simp at hi
 ·exact h
theorem adG:∀ (n:Nat) (t:T),wt t≤n→wt t≤1000000000→Pure Tryz.prog 104 [t.av] t.av:=by
 intro n
 induction n with
 | zero=>intro t h;have:=fO t;omega
 | succ n ih=>
   intro t hn hb H
   refine Sd.2.wF rfl ?_
   simp only [Sd,aF]
   have hw:=DM t
   have hlw:=iR t.l
   rw [uc]
   simp +contextual only [sZ,Nat.reduceEqDiff,Nat.reduceAdd,Nat.reduceLT,↓reduceIte]
   have uM:(H++[aa.cells [.int .i64 t.k,.int .i64 t.n,.al 0 (bC t.l)],.cells [.int .i64 0,.int .i64 0,.ah]]).length=H.length + 2:=by simp
   refine af (adF t.l _ (by omega)) ?_
   rintro v G ⟨hC,hG,hl⟩
   rw [uM] at hC hG hl
   obtain ⟨o1,o2,o3,o4⟩:=hC.one
   have g0:G[H.length]?=some (.cells [.int .i64 t.k,.int .i64 t.n,.al 0 (bC t.l)]):=by
    have:(G.take (H.length + 2))[H.length]?=G[H.length]?:=by rw [List.getElem?_take,if_pos (by omega)]
    rw [← this,hG];simp
   have g1:G[H.length + 1]?=some (.cells [.int .i64 0,.int .i64 0,.ah]):=by
    have:(G.take (H.length + 2))[H.length + 1]?=G[H.length + 1]?:=by rw [List.getElem?_take,if_pos (by omega)]
    rw [← this,hG];simp
   have dN:G.take H.length=H:=by
    have:G.take H.length=(G.take (H.length + 2)).take H.length:=by rw [List.take_take];congr 1;omega
    rw [this,hG];simp
   have ZX:=hC.aV (Nat.le_refl _)
   have Aj:H.length < G.length:=by omega
   have gI:∀ o,(G.set H.length o)[H.length]?=some o:=fun o=>List.getElem?_set_self Aj
   simp +contextual only [kj,o1,o2,o3,o4,g0,ZX,gI,hC.aN,hC.len,sZ,Nat.reduceEqDiff,Nat.reduceAdd,Nat.reduceLT,↓reduceIte]
   refine jF t.l.length (fun i (G:List aa)=>CT (H.length + 2) v t.l G∧G[H.length]?=some (.cells [.int .i64 t.k,.int .i64 t.n,v])∧G[H.length + 1]?=some (.cells [.int .i64 0,.int .i64 0,.ah])∧G.take H.length=H)
    (fun i G=>[(1,.ptr H.length 0),(2,.ptr (H.length + 1) 0),(10,v),(11,.int .i64 t.l.length),(12,.int .i64 i)]) (fun i G=>G) (G.set H.length (.cells [.int .i64 t.k,.int .i64 t.n,v]))
    ⟨⟨hC.set (by omega) _,gI _,by rw [List.getElem?_set_ne (by omega)];exact g1,by rw [List.take_set_of_le (by omega)];exact dN⟩,lI _ _ _⟩ fun i G hi hI=>?_
   clear hG g0 g1 dN ZX Aj gI hl hC
   obtain ⟨hC,g0,g1,hG⟩:=hI
   by_cases aK:i < t.l.length
   ·have nt:((i:Int) < t.l.length)=True:=eq_true (by omega)
    obtain ⟨id,cap,bp,rfl,hg,cj⟩:=hC.get aK
    have uM:=aO hg
    have QB:∀ X,(G++X)[id]?=some (bt zT (bC t.l) cap):=fun X=>by rw [List.getElem?_append_left uM];exact hg
    have g0':∀ X,(G++X)[H.length]?=some (.cells [.int .i64 t.k,.int .i64 t.n,.bc id 0 t.l.length cap]):=fun X=>by rw [List.getElem?_append_left (aO g0)];exact g0
    have hx:=uc (t.l.getD i default)
    have hL:∀ φ,dm (some (bt zT (bC t.l) cap)) (some 3) (i * 3) φ=φ (.agg [.int .i64 (t.l.getD i default).k,.int .i64 (t.l.getD i default).n,.al 0 (bC (t.l.getD i default).l)]):=fun φ=>by rw [← hx];exact loadT aK φ
    have hwx:wt (t.l.getD i default)≤ij t.l:=by
     have:=ot aK;have:=dt t.l (i + 1);omega
    have hcall:=ih (t.l.getD i default) (by omega) (by omega)
    rw [hx] at hcall
    have hS:=fun {H':List aa} (hg:H'[id]?=some (bt zT (bC t.l) cap)) {K:List aa→Prop} (hK:K H')=>storeT (id:=id) aK hg hK
    rw [hx] at hS
    simp +contextual only [nt,decide_true,lj,hg,hL,g0',sZ,Nat.reduceEqDiff,Nat.reduceAdd,Nat.reduceLT,↓reduceIte,reduceCtorEq]
    refine ⟨aK,ae hcall ?_,ae hcall ?_⟩
    all_goals
     simp +contextual only [lj,g0',QB,sZ,Nat.reduceEqDiff,Nat.reduceAdd,Nat.reduceLT,↓reduceIte,reduceCtorEq]
     refine ⟨aK,hS (QB _) ?_⟩
     simp +contextual only [sZ,Nat.reduceEqDiff,↓reduceIte]
     refine ⟨i + 1,_,⟨aK,hC.rp _,g0' _,by rw [List.getElem?_append_left (aO g1)];exact g1,by rw [List.take_append_of_le_length (by have:=aO g1;omega)];exact hG⟩,by omega,rq (by rw [au i (by omega)]) rfl⟩
   ·have me:i=t.l.length:=by omega
    have nt:((i:Int) < t.l.length)=False:=eq_false (by omega)
    simp +contextual only [kj,nt,decide_false,g0,sZ,Nat.reduceEqDiff,↓reduceIte]
    have fin:∀ (G':List aa),G'[H.length + 1]?=some (.cells [.int .i64 t.k,.int .i64 t.n,.al 0 (bC t.l)])→G'.take H.length=H→dm G'[H.length + 1]? (some 3) 0 fun v=>sL (kH H.length) H.length v G' fun r H'=>r=AV.agg [AV.int IntKind.i64 t.k,AV.int IntKind.i64 t.n,AV.al 0 (bC t.l)]∧H'=H:=by
     intro G' h1 h2
     rw [h1,Hd]
     exact ⟨H.length,H,Nat.le_refl _,zi h2 rfl,_,le_refl _,by simp [AV.drop,og,bH,cP,fM,b9,dq],rfl,rfl⟩
    have ls:∀ (l:List AV) (G':List aa),(∀ o,(G'.set (H.length + 1) o).take H.length=G'.take H.length):=fun l G' o=>List.take_set_of_le (by omega)
    have uA:=aO g1
    rcases hC with ⟨e,rfl⟩ | ⟨id,cap,bp,rfl,hg,cj⟩
    ·rw [e] at fin ⊢
     have e1:∀ (K:AV→List aa→Prop),dn 3 AV.ah.drop G K=K (.al 0 []) G:=fun K=>rfl
     rw [e1]
     simp +contextual only [kj,g1,sZ,Nat.reduceEqDiff,Nat.reduceAdd,↓reduceIte,reduceCtorEq]
     exact fin _ (List.getElem?_set_self uA) (by rw [List.take_set_of_le (by omega)];exact hG)
    ·have e1:∀ l c,(AV.bc id 0 l c).drop=.bc id 0 l c:=fun _ _=>rfl
     rw [e1]
     have ef:=fun K hK=>wW (esz:=3) (by decide) MU (pd t.l) (fun x hx=>by obtain ⟨y,_,rfl⟩:=HI hx;rw [uc];rfl) hg (by rw [ja];exact cj) (K:=K) hK
     rw [ja] at ef
     refine ef _ ?_
     have g1':(G.set id .dead)[H.length + 1]?=some (.cells [.int .i64 0,.int .i64 0,.ah]):=by rw [List.getElem?_set_ne (by omega)];exact g1
     simp +contextual only [kj,g1',sZ,Nat.reduceEqDiff,Nat.reduceAdd,↓reduceIte,reduceCtorEq]
     exact fin _ (List.getElem?_set_self (by simpa using uA)) (by rw [List.take_set_of_le (by omega),List.take_set_of_le (by omega)];exact hG)
end Go.aL
end
section
set_option maxRecDepth 100000
namespace Go.aL
open Go Go.Proofs Go.fN
def MY (r:T→T→Bool) (l:List T):Nat:=l.findIdx fun a=>l.all fun x=>!r a x
def xJ (r:T→T→Bool):Nat→List T→List T
 | 0,_=>[]
 | n + 1,l=>l.getD (MY r l) default::xJ r n (l.eraseIdx (MY r l))
theorem Se {r:T→T→Prop} (hi:∀ a,¬ r a a) (ht:∀ a b c,r a b→r b c→r a c):∀ l:List T,l≠[]→∃ a∈l,∀ x∈l,¬ r a x
 | [],h=>absurd rfl h
 | [a],_=>⟨a,List.mem_cons_self,fun x hx=>by rcases List.mem_cons.1 hx with rfl | hx;exact hi _;cases hx⟩
 | a::b::l,_=>by
   obtain ⟨m,hm,hl⟩:=Se hi ht (b::l) (by simp)
   by_cases h:r m a
   ·refine ⟨a,List.mem_cons_self,fun x hx=>?_⟩
    rcases List.mem_cons.1 hx with rfl | hx
    ·exact hi _
    ·exact fun h'=>hl x hx (ht _ _ _ h h')
   ·refine ⟨m,List.mem_cons_of_mem _ hm,fun x hx=>?_⟩
    rcases List.mem_cons.1 hx with rfl | hx
    ·exact h
    ·exact hl x hx
noncomputable def yz (s:Sg) (ps ss:List Int) (ts:List T):List T×Int:=
 if gE s ps ss ts=0 then if 1000 < ts.length then ([],2) else (xJ (uj ps ss) ts.length ts,0) else ([],gE s ps ss ts)
theorem QC (n:Nat):dh zI n=ints (List.replicate n 0):=by
 induction n with
 | zero=>rfl
 | succ n ih=>
   have e:dh zI (n + 1)=.int .i64 0::dh zI n:=rfl
   rw [e,ih];rfl
theorem Ei (l:List Int) (cap:Nat):bt zI (ints l) cap=.cells (ints (l++List.replicate (cap - l.length) 0)):=by
 rw [Bs,QC,lP]
theorem ZY {L:List Int} {n id cap:Nat} (hn:n < L.length) (hc:L.length≤cap) (hb:L.length≤1000000000) {H:List aa} (hg:H[id]?=some (bt zI (ints L) cap)) :
 aq Tryz.prog 105 [.bc id 0 L.length cap,.int .i64 (n:Int),.int .i64 ((n:Int) + 1)] H fun r H'=>r=.bc id 0 (L.eraseIdx n).length cap∧H'=H.set id (bt zI (ints (L.eraseIdx n)) cap):=by
 have e1:L=L.take n++L.getD n 0::L.drop (n + 1):=by
  have:L.getD n 0=L[n]:=by simp [hn]
  rw [this,← List.drop_eq_getElem_cons hn,List.take_append_drop]
 have e2:L.eraseIdx n=L.take n++L.drop (n + 1):=List.eraseIdx_eq_take_drop_succ ..
 have l1:(L.take n).length=n:=by simp;omega
 have l2:(L.drop (n + 1)).length=L.length - (n + 1):=by simp
 have hp:(L.take n++L.getD n 0::L.drop (n + 1)++List.replicate (cap - L.length) 0).length=cap:=by rw [← e1];simp;omega
 have QB:H[id]?=some (.cells (ints (L.take n++L.getD n 0::L.drop (n + 1)++List.replicate (cap - L.length) 0))):=by rw [← e1,← Ei];exact hg
 have h:=adA (L.take n) (L.drop (n + 1)) (List.replicate (cap - L.length) 0) (L.getD n 0) (by rw [← e1];exact hb) id cap hp.symm QB
 have el:L.take n++L.drop (n + 1)++0::List.replicate (cap - L.length) 0=L.eraseIdx n++List.replicate (cap - (L.eraseIdx n).length) 0:=by
  rw [e2]
  congr 1
  rw [List.length_append,l1,l2,show cap - (n + (L.length - (n + 1)))=(cap - L.length) + 1 by omega]
  rfl
 have ll:(L.eraseIdx n).length=(L.take n).length + (L.drop (n + 1)).length:=by rw [e2,List.length_append]
 rw [el,l1,l2,show n + 1 + (L.length - (n + 1))=L.length by omega] at h
 rw [Ei,ll,l1,l2]
 rw [ll,l1,l2] at h
 exact h
theorem MZ {r:T→T→Bool} {l:List T} {n:Nat} (hn:n < l.length) (h1:∀ x∈l,r (l.getD n default) x=false) (h2:∀ j,j < n→∃ x∈l,r (l.getD j default) x=true):MY r l=n:=by
 unfold MY
 rw [List.findIdx_eq hn]
 refine ⟨?_,fun j hj=>?_⟩
 ·have e:l[n]=l.getD n default:=by simp [hn]
  rw [e,List.all_eq_true]
  intro x hx;rw [h1 x hx];rfl
 ·obtain ⟨x,hx,h⟩:=h2 j hj
  have qq:j < l.length:=by omega
  have e:l[j]=l.getD j default:=by simp [qq]
  rw [e,List.all_eq_false]
  exact ⟨x,hx,by rw [h];simp⟩
theorem xz {c:Cx} {L:List Int} {n:Nat} (h:n < L.length):(L.map c.tm).getD n default=c.tm (L.getD n 0):=by simp [h]
theorem HK {Hs G:List aa} {n0:Nat} {l:List T} {e:Int} {u:AV} (hu:u.ab.le (.al 0 (bC l))) (hH:Hs.take n0=G):bW n0 [.t 6,.t 7] [(6,u),(7,.int .i64 e)] Hs (fun r H'=>r=.tuple [.al 0 (bC l),.int .i64 e]∧H'=G):=by
 subst hH
 refine ⟨n0,Nat.le_refl _,[.al 0 (bC l),.int .i64 e],?_,by simp [aj,b9,dq,fM],rfl,rfl⟩
 exact ⟨hu,le_refl _,trivial⟩
theorem mZ (vs:List T):(sU vs).ab.le (.al 0 (bC vs)):=by
 cases vs with
 | nil=>exact .inr (.inr (.inr (.inl ⟨rfl,0,rfl⟩)))
 | cons v r=>exact le_refl _
theorem Du.Vv {c:Cx} {H:List aa} {n:Nat} (h:Du c (H.take n)) (hn:True):Du c H:=by
 have hg:∀ {j:Nat} {o:aa},(H.take n)[j]?=some o→H[j]?=some o:=by
  intro j o h
  rw [List.getElem?_take] at h
  split at h
  ·exact h
  ·cases h
 exact ⟨hg h.d,by obtain ⟨m,h1,h2⟩:=h.e;exact ⟨m,hg h1,h2⟩,by obtain ⟨m,h1,h2⟩:=h.g;exact ⟨m,hg h1,h2⟩⟩
theorem c37 (s:Sg) (ps ss:List Int) (ts:List T) (hlen:ts.length < 9223372036854775808):Pure Tryz.prog 37 [s.av,eX ps ss,.al 0 (bC ts)] (.tuple [.al 0 (bC (yz s ps ss ts).1),.int .i64 (yz s ps ss ts).2]):=by
 refine fun H=>ZW.2.calls rfl ?_
 simp only [ZW,aF]
 obtain ⟨q1,q2,q3,q4,q5,q6⟩:=bo ps ss
 simp +contextual only [aB,q1,q4,bZ,sZ,Nat.reduceEqDiff,Nat.reduceAdd,↓reduceIte,reduceCtorEq]
 refine ae (Zl s ps ss ts) ?_
 by_cases h0:gE s ps ss ts=0
 ·by_cases NT:1000 < ts.length
  ·have e:yz s ps ss ts=([],2):=by unfold yz;rw [if_pos h0,if_pos NT]
   have dU:((1000:Int) < ts.length)=True:=eq_true (by omega)
   rw [e]
   simp +contextual only [h0,dU,decide_true,hlen,sZ,Nat.reduceEqDiff,↓reduceIte,reduceCtorEq]
   exact HK (mZ []) List.take_length
  ·have e:yz s ps ss ts=(xJ (uj ps ss) ts.length ts,0):=by unfold yz;rw [if_pos h0,if_neg NT]
   have dU:((1000:Int) < ts.length)=False:=eq_false (by omega)
   rw [e]
   have hr:=rM h0
   have hw:=mW hr.tree
   simp +contextual only [q4,bZ,h0,dU,decide_false,hlen,sZ,Nat.reduceEqDiff,Nat.reduceAdd,↓reduceIte]
   refine af (adw ps ss ts H (by omega)) ?_
   rintro r G ⟨va,rfl,hG,hGl,hR⟩
   obtain ⟨o1,o2,o3,o4⟩:=hR.one
   have ZX:∀ n,G.length≤n→va.aV n=true:=fun n hn=>hR.aV hn
   have pL:=ZX (G.length + 2) (by omega)
   have qv:∀ o o',va.aV (G++[o,o']:List aa).length=true:=fun o o'=>ZX _ (by simp)
   have hp1:(AV.ptr (H.length + 2) 0).aV (G.length + 1)=true:=by rw [pY];exact decide_eq_true (by omega)
   simp +contextual only [o1,o2,o3,o4,pL,hp1,sZ,Nat.reduceEqDiff,Nat.reduceAdd,Nat.reduceLT,↓reduceIte]
   refine ⟨rfl,by decide,?_⟩
   have hG0:G.take H.length=H:=by
    have:G.take H.length=(G.take (H.length + 3)).take H.length:=by rw [List.take_take];congr 1;omega
    rw [this,hG];simp
   rcases hR with ⟨e1,rfl⟩ | ⟨id,cap,bp,rfl,hg,cj,dW⟩
   ·have e2:ts=[]:=by
     have:=cI ts 0
     have h3:aU ts 0=[]:=List.map_eq_nil_iff.1 e1
     rw [h3] at this
     exact List.length_eq_zero_iff.1 this.symm
    subst e2
    refine aJ 0 (fun _ _=>True) (fun i (p:Unit)=>[(9,.ptr G.length 0),(10,.ptr (G.length + 1) 0),(11,.ah)]) (fun i p=>G++[.cells [.ptr (H.length + 2) 0],.cells [.ah]]) () ⟨trivial,aC rfl ?_⟩ fun i p hi hI=>?_
    ·rfl
    ·simp +contextual only [sZ,Nat.reduceEqDiff,Nat.reduceAdd,Nat.reduceLT,↓reduceIte,reduceCtorEq,Int.reduceLT]
     exact HK (mZ []) (by rw [List.take_append_of_le_length (by omega)];exact hG0)
   ·have Sy:ts≠[]:=fun e=>dW (by rw [e];rfl)
    have adH:id < G.length:=aO hg
    obtain ⟨c,ec⟩:∃ c,c=gK ps ss ts H.length:=⟨_,rfl⟩
    have hc:c.Ok:=by rw [ec];exact hr.cx Sy (by omega) H.length
    have cO:c.O=ky ps ss:=by rw [ec];rfl
    have cd:c.d=H.length + 2:=by rw [ec];rfl
    have ce:c.e=H.length:=by rw [ec];rfl
    have cg:c.g=H.length + 1:=by rw [ec];rfl
    have hD0:Du c (G++[.cells [.ptr (H.length + 2) 0],.cells [.bc id 0 (aU ts 0).length cap]]):=by
     have h1:=zP ps ss Sy H
     rw [← ec,← hG] at h1
     exact Du.rp (h1.Vv trivial) _
    obtain ⟨k1,k2⟩:=(Qk ts).kids
    have ZZ:(aU ts 0).map c.tm=ts:=by rw [ec];exact k1
    have adI:∀ x∈aU ts 0,c.dV x:=by rw [ec];exact k2
    rw [aw] at *
    have GF:=cI ts 0
    refine aJ ts.length (fun j (p:List Int×List T×List aa)=>j + p.1.length=ts.length∧(∀ x∈p.1,c.dV x)∧xJ (uj ps ss) ts.length ts=p.2.1++xJ (uj ps ss) p.1.length (p.1.map c.tm)∧p.2.1.length=j∧Du c p.2.2∧
     p.2.2[G.length]?=some (.cells [.ptr c.d 0])∧p.2.2[G.length + 1]?=some (.cells [.bc id 0 p.1.length cap])∧p.2.2[id]?=some (bt zI (ints p.1) cap)∧p.2.2.take H.length=H∧p.1.length≤cap∧∀ x∈p.1,c.tm x∈ts)
     (fun i p=>[(9,.ptr G.length 0),(10,.ptr (G.length + 1) 0),(11,sU p.2.1)]) (fun i p=>p.2.2) (aU ts 0,[],G++[.cells [.ptr (H.length + 2) 0],.cells [.bc id 0 (aU ts 0).length cap]])
     ⟨⟨by simp [GF],adI,by rw [ZZ,GF];rfl,rfl,hD0,by rw [cd];simp,by simp,by rw [List.getElem?_append_left adH];exact hg,by rw [List.take_append_of_le_length (by omega)];exact hG0,cj,fun x hx=>by rw [← ZZ];exact List.mem_map_of_mem hx⟩,aC rfl rfl⟩ fun j p hj hI=>?_
    obtain ⟨L,out,F⟩:=p
    obtain ⟨i1,i2,i3,i4,i5,i6,i7,i8,i9,i10,i11⟩:=hI
    simp only at i1 i2 i3 i4 i5 i6 i7 i8 i9 i10 i11
    have Np:L.length≤1000:=by omega
    by_cases hL:L=[]
    ·have hz:((0:Int) < (L.length:Int))=False:=eq_false (by rw [hL];simp)
     have hun:(sU out).ab.ab=(sU out).ab:=by cases out <;> rfl
     simp +contextual only [i7,hz,decide_false,hun,sZ,Nat.reduceEqDiff,Nat.reduceAdd,Nat.reduceLT,↓reduceIte,reduceCtorEq]
     have e2:xJ (uj ps ss) ts.length ts=out:=by rw [i3,hL];simp [xJ]
     rw [e2]
     exact HK (by rw [hun];exact mZ out) i9
    ·have nr:=List.length_pos_iff.2 hL
     have hz:((0:Int) < (L.length:Int))=True:=eq_true (by omega)
     simp +contextual only [i7,hz,decide_true,sZ,Nat.reduceEqDiff,Nat.reduceAdd,Nat.reduceLT,↓reduceIte,reduceCtorEq]
     refine af (Sc (Q:=fun i=>¬ ∃ x∈L,R c.O (c.tm i) (c.tm x)) (SG.len c F) (fun G' dN=>by rw [dN.2.get id (by omega) (by omega),i8]) i10 (by omega) 101 [] [.ptr (G.length + 1) 0,.ptr G.length 0] rfl rfl
      (fun x hx H' hH'=>adC hc (i2 x hx) i2 i10 (by omega) i6 (by omega) (by omega) i7 (by omega) (by omega) i8 (by omega) (by omega) H' hH') ⟨i5,Up.refl c F⟩) ?_
     rintro r F1 ⟨⟨nA,hU1⟩,hq⟩
     have Sx:∃ n:Nat,r=.int .i64 n∧n < L.length∧(¬ ∃ x∈L,R c.O (c.tm (L.getD n 0)) (c.tm x))∧∀ j,j < n→∃ x∈L,R c.O (c.tm (L.getD j 0)) (c.tm x):=by
      rcases hq with ⟨_,hq⟩ | ⟨n,h1,h2,h3,h4⟩
      ·exfalso
       obtain ⟨m,hm,h1⟩:=Se (r:=fun a b=>R c.O a b) (fun a=>RS rfl) (fun a b d h h'=>Hq h h') (L.map c.tm) (by simpa using hL)
       obtain ⟨x,hx,rfl⟩:=List.mem_map.1 hm
       refine hq x hx fun ⟨y,hy,h⟩=>h1 _ (List.mem_map_of_mem hy) h
      ·exact ⟨n,h1,h2,h3,fun j hj=>Classical.not_not.1 (h4 j hj)⟩
     obtain ⟨n,rfl,hn,h1,h2⟩:=Sx
     have j7:F1[G.length + 1]?=some (.cells [.bc id 0 L.length cap]):=by rw [hU1.get _ (by omega) (by omega),i7]
     have j6:F1[G.length]?=some (.cells [.ptr c.d 0]):=by rw [hU1.get _ (by omega) (by omega),i6]
     have j8:F1[id]?=some (bt zI (ints L) cap):=by rw [hU1.get _ (by omega) (by omega),i8]
     have j9:F1.take H.length=H:=by
      refine Eq.trans ?_ i9
      apply List.ext_getElem?
      intro k
      rw [List.getElem?_take,List.getElem?_take]
      by_cases hk:k < H.length
      ·rw [if_pos hk,if_pos hk];exact hU1.get _ (by omega) (by omega)
      ·rw [if_neg hk,if_neg hk]
     have JJ:MY (uj ps ss) (L.map c.tm)=n:=by
      refine MZ (by simpa using hn) (fun x hx=>?_) fun j hj=>?_
      ·obtain ⟨y,hy,rfl⟩:=List.mem_map.1 hx
       rw [xz hn]
       cases hb:uj ps ss (c.tm (L.getD n 0)) (c.tm y) with
       | false=>rfl
       | true=>exact absurd ⟨y,hy,by rw [cO];exact gf.1 hb⟩ h1
      ·obtain ⟨y,hy,h⟩:=h2 j hj
       rw [xz (by omega)]
       exact ⟨_,List.mem_map_of_mem hy,gf.2 (by rw [← cO];exact h)⟩
     have hxN:=i2 _ (aP hn)
     have jc:c.nd.length≤2000000:=by
      have:c.nd=da ts 0:=by rw [ec];rfl
      rw [this,gZ];omega
     simp +contextual only [j7,j6,j8,nA.d,mS,fN0,cJ,lj,Ht hn,sZ,Nat.reduceEqDiff,Nat.reduceAdd,Nat.reduceLT,↓reduceIte,reduceCtorEq]
     have htree:=hr.tree _ (i11 _ (aP hn))
     have hwx:wt (c.tm (L.getD n 0))≤2000:=by
      have:=((T.cr _).1 htree).1;have:=Mt (c.tm (L.getD n 0));omega
     have Z0:Pure Tryz.prog 104 [(c.nd.getD (L.getD n 0).toNat default).fst.av] (c.tm (L.getD n 0)).av:=adG _ (c.tm (L.getD n 0)) (Nat.le_refl _) (by omega)
     have Ms:=ZY hn i10 (by omega) j8
     have gr:(L.eraseIdx n).length=L.length - 1:=List.length_eraseIdx_of_lt hn
     refine ⟨hn,hxN,ae Z0 ?_,ae Z0 ?_⟩
     all_goals
      simp +contextual only [u0,oZ,j7,sZ,Nat.reduceEqDiff,Nat.reduceAdd,Nat.reduceLT,↓reduceIte,reduceCtorEq]
      refine ⟨by omega,?_⟩
      rw [dL _ (by omega)]
      refine af Ms ?_
      rintro r F2 ⟨rfl,rfl⟩
      have m7:(F1.set id (bt zI (ints (L.eraseIdx n)) cap))[G.length + 1]?=some (.cells [.bc id 0 L.length cap]):=by rw [List.getElem?_set_ne (by omega)];exact j7
      have nC:(AV.bc id 0 (L.eraseIdx n).length cap).aV (G.length + 1 + 1)=true:=by rw [gU];exact decide_eq_true (by omega)
      have r1:∀ l,(AV.bc id 0 l cap).one=true∧(AV.bc id 0 l cap).val=true∧(AV.bc id 0 l cap).ab=.bc id 0 l cap∧(AV.bc id 0 l cap).cells=[.bc id 0 l cap]:=fun _=>⟨rfl,rfl,rfl,rfl⟩
      obtain ⟨u1,u2,u3,u4⟩:=r1 (L.eraseIdx n).length
      simp +contextual only [m7,nC,u1,u2,u3,u4,sZ,Nat.reduceEqDiff,Nat.reduceAdd,↓reduceIte]
      refine ⟨j + 1,(L.eraseIdx n,out++[c.tm (L.getD n 0)],_),⟨by omega,by show j + 1 + (L.eraseIdx n).length=_;omega,fun x hx=>i2 x (List.mem_of_mem_eraseIdx hx),?_,by simp [i4],?_,?_,?_,?_,?_,by show (L.eraseIdx n).length≤cap;omega,fun x hx=>i11 x (List.mem_of_mem_eraseIdx hx)⟩,by omega,aC rfl rfl⟩
      ·have hs:L.length=(L.eraseIdx n).length + 1:=by omega
       rw [i3,hs,xJ,JJ,xz hn,List.append_assoc]
       have em:(L.map c.tm).eraseIdx n=(L.eraseIdx n).map c.tm:=by rw [List.eraseIdx_eq_take_drop_succ,List.eraseIdx_eq_take_drop_succ,List.map_append,List.map_take,List.map_drop]
       rw [em];rfl
      ·exact (nA.set (by omega) (by omega) (by omega)).set (by omega) (by omega) (by omega)
      ·rw [List.getElem?_set_ne (by omega),List.getElem?_set_ne (by omega)];exact j6
      ·rw [List.getElem?_set_self (by have:=aO j7;simp;omega)]
      ·rw [List.getElem?_set_ne (by omega),List.getElem?_set_self (aO j8)]
      ·rw [List.take_set_of_le (by omega),List.take_set_of_le (by omega)];exact j9
 ·have e:yz s ps ss ts=([],gE s ps ss ts):=by unfold yz;rw [if_neg h0]
  rw [e]
  simp +contextual only [h0,sZ,Nat.reduceEqDiff,↓reduceIte,reduceCtorEq]
  exact HK (mZ []) List.take_length
end Go.aL
end
section
set_option maxRecDepth 1000000
namespace Go.aL
open Go Go.Proofs Go.fN
def vT (n:Int):T:=.mk 1 n []
def oT (n:Int) (l:List T):T:=.mk 2 n l
def fZ:Sg:=⟨[⟨#[78]⟩],[⟨⟨#[122]⟩,[],0⟩,⟨⟨#[115]⟩,[0],0⟩,⟨⟨#[97,100,100]⟩,[0,0],0⟩]⟩
def Z1:nG:=⟨[0],[],oT 2 [vT 0,oT 0 []],vT 0⟩
def cC:nG:=⟨[0,0],[],oT 2 [vT 0,oT 1 [vT 1]],oT 1 [oT 2 [vT 0,vT 1]]⟩
def cU:Ty:=⟨fZ,[Z1,cC]⟩
theorem QD:pA Tryz.prog UQ (dE Tryz.prog UQ 100000) false 64 [] []=some (cU.av,[]):=by kernel_rfl
theorem BQ:pA Tryz.prog UQ (dE Tryz.prog UQ 100000) false 62 [cU.av] []=some (.int .i64 0,[]):=by kernel_rfl
theorem Gk:pA Tryz.prog UQ (dE Tryz.prog UQ 100000) false 92 [cU.av] []=some (.al 0 (ints [0,1,2]),[]):=by kernel_rfl
theorem c64:Pure Tryz.prog 64 [] cU.av:=Pure.mk rfl ((uU sV (AX sV 100000)).1 _ _ _ _ _ QD)
theorem BR:Pure Tryz.prog 62 [cU.av] (.int .i64 0):=Pure.mk rfl ((uU sV (AX sV 100000)).1 _ _ _ _ _ BQ)
theorem Vw:Pure Tryz.prog 92 [cU.av] (.al 0 (ints [0,1,2])):=Pure.mk rfl ((uU sV (AX sV 100000)).1 _ _ _ _ _ Gk)
end Go.aL
end
section
set_option maxRecDepth 100000
namespace Go.aL
open Go Go.Proofs Go.fN
theorem c66 {a b:List Int} {va vb:AV} (ha:IL va a) (hb:IL vb b) (la:a.length≤1000000000) (lb:b.length≤1000000000):Pure Tryz.prog 66 [va,vb] (.bool (decide (a=b))):=by
 refine fun H=>k66.2.calls rfl ?_
 simp only [k66,aF]
 obtain ⟨a1,a2,a3,a4⟩:=ha.one
 obtain ⟨b1,b2,b3,b4⟩:=hb.one
 simp +contextual only [a2,b2,ha.aN,hb.aN,ha.len (by omega),hb.len (by omega),sZ,Nat.reduceEqDiff,Nat.reduceAdd,↓reduceIte,reduceCtorEq]
 refine ⟨fun dW=>aZ rfl (by rw [decide_eq_false (fun e=>dW (by rw [e]))]),fun heq=>?_⟩
 refine aD a.length (fun i=>∀ j,j < i→a.getD j 0=b.getD j 0)
  (fun i=>[(0,va),(1,vb),(12,.int .i64 b.length),(13,.int .i64 i)]) (fun i=>H) ⟨fun j hj=>by omega,aA _ _ _⟩ fun i hi hI=>?_
 simp +contextual only [a2,b2,ha.lens,hb.lens,ha.idx,hb.idx,Int.toNat_natCast,sZ,Nat.reduceEqDiff,↓reduceIte,reduceCtorEq]
 refine ⟨fun aK=>⟨by omega,by omega,fun dW=>?_,fun he=>?_⟩,fun gr=>?_⟩
 ·refine aZ rfl (by rw [decide_eq_false (fun e=>dW (by rw [e]))])
 ·refine ⟨i + 1,⟨by omega,fun j hj=>?_⟩,by omega,aC (by rw [au i (by omega)]) rfl⟩
  by_cases h:j=i
  ·subst h;exact he
  ·exact hI j (by omega)
 ·refine aZ rfl (by rw [decide_eq_true (zL (by omega) fun j hj=>hI j (by omega))])
noncomputable def qo (e:Int) (t:Ty) (ps ss:List Int):Int×Bool×Int:=
 if e≠0 then (0,false,e) else if ju t.s ps ss≠0 then (0,false,ju t.s ps ss) else (max (rQ t ps ss) 0,decide (0≤rQ t ps ss),0)
def Gl (p:Int×Bool×Int):AV:=.tuple [.int .i64 p.1,.bool p.2.1,.int .i64 p.2.2]
theorem c31 {t:Ty} {e:Int} (Z2:Pure Tryz.prog 62 [t.av] (.int .i64 e)) (ht:e=0→BP t) (ps ss:List Int):Pure Tryz.prog 31 [t.av,eX ps ss] (Gl (qo e t ps ss)):=by
 refine fun H=>k31.2.calls rfl ?_
 simp only [k31,aF]
 obtain ⟨q1,q2,q3,q4,q5,q6⟩:=bo ps ss
 obtain ⟨e1,e2,e3,e4,e5,e6⟩:=Ty.facts t
 simp +contextual only [q1,e1,e4,nk,sZ,Nat.reduceEqDiff,Nat.reduceAdd,↓reduceIte,reduceCtorEq]
 refine ae Z2 ?_
 by_cases h0:e=0
 ·subst h0
  simp +contextual only [aB,q4,bZ,MM,sZ,Nat.reduceEqDiff,Nat.reduceAdd,↓reduceIte]
  refine ae (c24 t.s ps ss) ?_
  by_cases h1:ju t.s ps ss=0
  ·have hv:=(xh.1 h1).2
   simp +contextual only [h1,q4,e4,bZ,nk,sZ,Nat.reduceEqDiff,Nat.reduceAdd,↓reduceIte]
   refine ae (c89 t ps ss hv.va fun q hq=>(ht rfl).eq q hq ps hv.1) ?_
   simp +contextual only [sZ,Nat.reduceEqDiff,↓reduceIte,reduceCtorEq]
   have e0:qo 0 t ps ss=(max (rQ t ps ss) 0,decide (0≤rQ t ps ss),0):=by unfold qo;rw [if_neg (by simp),if_neg (by simp [h1])]
   rw [e0]
   exact zM (by decide) List.take_length ⟨rfl,rfl,rfl⟩ rfl rfl rfl ⟨rfl,rfl⟩
  ·have e0:qo 0 t ps ss=(0,false,ju t.s ps ss):=by unfold qo;rw [if_neg (by simp),if_pos h1]
   rw [e0]
   simp +contextual only [h1,sZ,Nat.reduceEqDiff,↓reduceIte,reduceCtorEq]
   exact zM (by decide) List.take_length ⟨rfl,rfl,rfl⟩ rfl rfl rfl ⟨rfl,rfl⟩
 ·have e0:qo e t ps ss=(0,false,e):=by unfold qo;rw [if_pos h0]
  rw [e0]
  simp +contextual only [h0,sZ,Nat.reduceEqDiff,↓reduceIte,reduceCtorEq]
  exact zM (by decide) List.take_length ⟨rfl,rfl,rfl⟩ rfl rfl rfl ⟨rfl,rfl⟩
noncomputable def QE (e:Int) (t:Ty) (ps ss:List Int):Int:=if (qo e t ps ss).2.2=0∧(qo e t ps ss).2.1=true then 60 else (qo e t ps ss).2.2
theorem Gm (p:Int×Bool×Int) (φ:AV→Prop):bF (Gl p) 0 φ=φ (.int .i64 p.1)∧bF (Gl p) 1 φ=φ (.bool p.2.1)∧bF (Gl p) 2 φ=φ (.int .i64 p.2.2):=by simp [Gl,bF,oe,oU]
theorem HL (p:Int×Bool×Int):(Gl p).ab=Gl p:=rfl
theorem c33 {t:Ty} {e:Int} (Z2:Pure Tryz.prog 62 [t.av] (.int .i64 e)) (ht:e=0→BP t) (ps ss:List Int):Pure Tryz.prog 33 [t.av,eX ps ss] (.int .i64 (QE e t ps ss)):=by
 refine fun H=>k33.2.calls rfl ?_
 simp only [k33,aF]
 obtain ⟨q1,q2,q3,q4,q5,q6⟩:=bo ps ss
 obtain ⟨e1,e2,e3,e4,e5,e6⟩:=Ty.facts t
 simp +contextual only [q1,q4,e1,e4,bZ,nk,sZ,Nat.reduceEqDiff,Nat.reduceAdd,↓reduceIte,reduceCtorEq]
 refine ae (c31 Z2 ht ps ss) ?_
 unfold QE
 generalize qo e t ps ss=p
 have x1:=fun φ=>(Gm p φ).1
 have x2:=fun φ=>(Gm p φ).2.1
 have x3:=fun φ=>(Gm p φ).2.2
 obtain ⟨n,b,m⟩:=p
 simp only at x1 x2 x3
 by_cases h0:m=0
 ·subst h0
  cases b <;>
  simp +contextual only [x1,x2,x3,HL,sZ,Nat.reduceEqDiff,↓reduceIte,reduceCtorEq] <;>
  exact aZ rfl rfl
 ·have hm:(m=0)=False:=eq_false h0
  simp +contextual only [x1,x2,x3,HL,hm,decide_false,sZ,Nat.reduceEqDiff,↓reduceIte,reduceCtorEq]
  exact aZ rfl (by simp [h0])
theorem M4 {H e:List aa} {u v w x y z:AV} (hb:x.aV H.length=true∧y.aV H.length=true∧z.aV H.length=true) (hx:u.ab=x) (hy:v.ab=y) (hz:w.ab=z):rk H.length [u,v,w] (H++e) fun r H'=>r=.tuple [x,y,z]∧H'=H:=by
 subst hx;subst hy;subst hz
 exact ⟨H.length,Nat.le_refl _,_,b8 _,by show aj _ [u.ab,v.ab,w.ab]=true;rw [bH,bH,bH,cP,hb.1,hb.2.1,hb.2.2];rfl,rfl,by simp⟩
theorem JD (f:Fo):∃ P S,foA f=eX P S:=by
 cases f with
 | none=>exact ⟨_,_,rfl⟩
 | some p=>exact ⟨_,_,rfl⟩
noncomputable def M5 (e:Int) (t:Ty) (ops:List Int):Fo×Int:=if e≠0 then (none,e) else if 4 < ops.length then (none,2) else (yx t ops,0)
theorem c35 {t:Ty} {e:Int} {ops:List Int} (Z2:Pure Tryz.prog 62 [t.av] (.int .i64 e)) (h92:e=0→Pure Tryz.prog 92 [t.av] (.al 0 (ints ops))) (ht:e=0→BP t) (hr:e=0→∀ i∈ops,0≤i∧i < t.s.ops.length) (hl:ops.length≤1000000) :
 Pure Tryz.prog 35 [t.av] (.tuple [foA (M5 e t ops).1,.bool (M5 e t ops).1.isSome,.int .i64 (M5 e t ops).2]):=by
 refine fun H=>k35.2.calls rfl ?_
 simp only [k35,aF]
 obtain ⟨e1,e2,e3,e4,e5,e6⟩:=Ty.facts t
 have zf2:List.map AV.ab [AV.ah,.ah]=[.ah,.ah]:=rfl
 have zb2:∀ n,aj n [AV.ah,.ah]=true:=fun _=>rfl
 simp +contextual only [e1,e4,nk,zf2,zb2,sZ,Nat.reduceEqDiff,Nat.reduceAdd,↓reduceIte]
 refine ae Z2 ?_
 have gz:(H++[aa.cells [AV.ah,.ah]])[H.length]?=some (.cells [.ah,.ah]):=by simp
 by_cases h0:e=0
 ·subst h0
  simp +contextual only [e4,nk,sZ,Nat.reduceEqDiff,Nat.reduceAdd,↓reduceIte]
  refine ae (h92 rfl) ?_
  by_cases h4:4 < ops.length
  ·have h4':((4:Int) < ops.length)=True:=eq_true (by omega)
   have e0:M5 0 t ops=(none,2):=by unfold M5;rw [if_neg (by simp),if_pos h4]
   rw [e0]
   have sp2:∀ (a b x y:AV),ag [a,b] 0 [x,y]=[x,y]:=fun _ _ _ _=>rfl
   simp +contextual only [zf2,zb2,aw,h4',decide_true,gz,lV,sp2,sZ,Nat.reduceEqDiff,Nat.reduceAdd,↓reduceIte,reduceCtorEq]
   exact fun _=>M4 ⟨rfl,rfl,rfl⟩ rfl rfl rfl
  ·have h4':((4:Int) < ops.length)=False:=eq_false (by omega)
   have e0:M5 0 t ops=(yx t ops,0):=by unfold M5;rw [if_neg (by simp),if_neg h4]
   rw [e0]
   simp +contextual only [e4,nk,aw,h4',decide_false,sZ,Nat.reduceEqDiff,Nat.reduceAdd,↓reduceIte]
   intro hl9
   refine ae (c93 (ht rfl) (.inr rfl) (hr rfl) hl) ?_
   generalize yx t ops=f
   obtain ⟨P,S,ef⟩:=JD f
   obtain ⟨q1,q2,q3,q4,q5,q6⟩:=bo P S
   rw [ef]
   have zo:(eX P S).cells=[.al 0 (ints P),.al 0 (ints S)]:=rfl
   have sp2:∀ (a b x y:AV),ag [a,b] 0 [x,y]=[x,y]:=fun _ _ _ _=>rfl
   simp +contextual only [gz,q1,q4,lV,zo,sp2,bZ,bb,sZ,Nat.reduceEqDiff,Nat.reduceAdd,Nat.reduceLT,↓reduceIte,reduceCtorEq]
   exact M4 ⟨q6 _,rfl,rfl⟩ rfl rfl rfl
 ·have hm:(e=0)=False:=eq_false h0
  have e0:M5 e t ops=(none,e):=by unfold M5;rw [if_pos h0]
  rw [e0]
  have sp2:∀ (a b x y:AV),ag [a,b] 0 [x,y]=[x,y]:=fun _ _ _ _=>rfl
  simp +contextual only [zf2,zb2,hm,gz,lV,sp2,sZ,Nat.reduceEqDiff,Nat.reduceAdd,↓reduceIte,reduceCtorEq]
  exact M4 ⟨rfl,rfl,rfl⟩ rfl rfl rfl
end Go.aL
end
section
namespace Go.aL
open Go Go.Proofs Go.fN
end Go.aL
end
section
namespace Go.fN
open Go.aL
def Sf {G:T→T→Prop} [h:∀ x y,Decidable (G x y)]:∀ l m,Decidable (Lx G l m)
 | [],_=>isFalse (fun h=>h)
 | _::_,[]=>isTrue trivial
 | x::l,y::m=>@instDecidableOr _ _ (@instDecidableAnd _ _ inferInstance (Sf l m)) (h x y)
def Z3 {G:T→T→Prop} [h:∀ x y,Decidable (G x y)] (l m:List T):Decidable (Mu G l m):=by unfold Mu;exact inferInstance
def Z4 {sp:Int→Int} {G:T→T→Prop} [h:∀ x y,Decidable (G x y)] (a b:T):Decidable (Fm sp G a b):=by
 unfold Fm
 have:=@Sf G h
 have:=@Z3 G h
 exact inferInstance
def M6 (sp:Int→Int):∀ (f:Nat) (a b:T),Decidable (NE sp f a b)
 | 0,_,_=>isFalse (fun h=>h)
 | f + 1,a,b=>@Z4 sp (NE sp f) (M6 sp f) a b
instance Z5 (sp:Int→Int) (a b:T):Decidable (Gt sp a b):=M6 sp (wt a + wt b) a b
instance Z6 (O:Od) (a b:T):Decidable (R O a b):=Z5 O.sp (norm O a) (norm O b)
instance Z7 (O:Od) (a b:T):Decidable (E O a b):=inferInstanceAs (Decidable (norm O a=norm O b))
end Go.fN
end
section
namespace Go.aL
open Go Go.Proofs Go.fN
mutual
def Ej (n:Nat):T→Bool
 | .mk k m l=>(!decide (k=2) || (decide (0≤m) && decide (m < n))) && BS n l
def BS (n:Nat):List T→Bool
 | []=>true
 | x::r=>Ej n x && BS n r
end
mutual
theorem HM {n:Nat}:∀ {t:T},Ej n t=true→zJ (fun m=>0≤m∧m < n) t
 | .mk k m l,h=>by
   simp only [Ej,Bool.and_eq_true,Bool.or_eq_true,Bool.not_eq_true',decide_eq_false_iff_not,decide_eq_true_eq] at h
   exact .mk k m l (fun hk=>h.1.resolve_left fun hn=>hn hk) (Ek h.2)
theorem Ek {n:Nat}:∀ {l:List T},BS n l=true→∀ x∈l,zJ (fun m=>0≤m∧m < n) x
 | [],_=>fun x hx=>by cases hx
 | y::r,h=>by
   simp only [BS,Bool.and_eq_true] at h
   have h1:=HM h.1
   have h2:=Ek h.2
   intro x hx
   rcases List.mem_cons.1 hx with rfl | hx
   ·exact h1
   ·exact h2 x hx
end
def El (ps ss:List Int) (a b:T):Bool:=match Z6 (ky ps ss) a b with | .isTrue _=>true | .isFalse _=>false
theorem BT {ps ss:List Int} {a b:T}:El ps ss a b=true↔R (ky ps ss) a b:=by
 unfold El
 cases Z6 (ky ps ss) a b with
 | isTrue h=>simp [h]
 | isFalse h=>simp [h]
end Go.aL
end
section
set_option maxRecDepth 1000000
namespace Go.aL
open Go Go.Proofs Go.fN
theorem BU (ps ss:List Int) (a b:T):uj ps ss a b=El ps ss a b:=by rw [Bool.eq_iff_iff,gf,BT]
def HN (ps ss:List Int) (a b:T):Bool:=match Z7 (ky ps ss) a b with | .isTrue _=>true | .isFalse _=>false
theorem HO (ps ss:List Int) (a b:T):Zm ps ss a b=HN ps ss a b:=by
 rw [Bool.eq_iff_iff,Hz]
 unfold HN
 cases Z7 (ky ps ss) a b with
 | isTrue h=>simp [h]
 | isFalse h=>simp [h]
def Vx (s:Sg) (ps ss:List Int):Bool:=decide (ps.length=s.ops.length) && (decide (ss.length=s.ops.length) && ((List.range ps.length).all (fun j=>decide (0≤ps.getD j 0∧ps.getD j 0≤255∧1≤ss.getD j 0∧ss.getD j 0≤3)) && (List.range ps.length).all fun j=>(List.range ps.length).all fun k=>!decide (ps.getD j 0=ps.getD k 0) || decide (ss.getD j 0=ss.getD k 0)))
theorem M7 {s:Sg} {ps ss:List Int}:Vx s ps ss=true↔eK s ps ss:=by
 simp only [Vx,Bool.and_eq_true,decide_eq_true_eq,List.all_eq_true,List.mem_range,Bool.or_eq_true,Bool.not_eq_true',decide_eq_false_iff_not]
 constructor
 ·rintro ⟨h1,h2,h3,h4⟩
  exact ⟨h1,h2,h3,fun j k hj hk he=>(h4 j hj k hk).resolve_left fun hn=>hn he⟩
 ·rintro ⟨h1,h2,h3,h4⟩
  refine ⟨h1,h2,h3,fun j hj k hk=>?_⟩
  by_cases h:ps.getD j 0=ps.getD k 0
  ·exact .inr (h4 j k hj hk h)
  ·exact .inl h
def xA (s:Sg) (ps ss:List Int):Int:=if oz s=true then (if Vx s ps ss=true then 0 else 60) else 40
theorem rR (s:Sg) (ps ss:List Int):ju s ps ss=xA s ps ss:=by
 unfold ju xA
 by_cases h:eK s ps ss
 ·rw [if_pos h,if_pos (M7.2 h)]
 ·rw [if_neg h,if_neg (fun k=>h (M7.1 k))]
def xB (s:Sg) (ps ss:List Int) (l:List T):Int:=if xA s ps ss=0 then (if (l.all fun t=>t.tree && iB s t)=true then 0 else 4) else xA s ps ss
theorem jb (s:Sg) (ps ss:List Int) (l:List T):gE s ps ss l=xB s ps ss l:=by unfold gE xB;rw [rR]
def M8 (ps ss:List Int) (e:nG):Bool:=e.rest.all fun y=>El ps ss e.a y
theorem M9 (ps ss:List Int) (e:nG):yw ps ss e=M8 ps ss e:=by
 rw [Bool.eq_iff_iff]
 simp only [yw,Qq,M8,List.all_eq_true,BT]
 exact @decide_eq_true_iff _ (Classical.propDecidable _)
def xC (t:Ty) (ps ss:List Int):Int:=qm (fun e=>!M8 ps ss e) t.es 0
theorem th (t:Ty) (ps ss:List Int):rQ t ps ss=xC t ps ss:=by
 unfold rQ xC
 congr 1
 funext e
 rw [M9]
def Gn (t:Ty) (ops pl st:List Int):Bool:=decide (xA t.s (qn t.s.ops.length ops pl) (tf t.s.ops.length ops st)=0) && decide (xC t (qn t.s.ops.length ops pl) (tf t.s.ops.length ops st) < 0)
theorem JE (t:Ty) (ops pl st:List Int):xt t ops pl st=Gn t ops pl st:=by
 unfold xt Gn
 rw [rR,th,Bool.eq_iff_iff]
 simp
def Gp (t:Ty) (ops pl:List Int) (s:Fo) (st:List Int):Fo×Bool:=if Gn t ops pl st=true then (some (qn t.s.ops.length ops pl,tf t.s.ops.length ops st),false) else (s,true)
def Gq (t:Ty) (ops:List Int) (s:Fo) (pl:List Int):Fo×Bool:=if oD pl=true then eY (Gp t ops pl) (iL (dw 1 3) ops.length) s else (s,true)
def Na (t:Ty) (ops:List Int):Fo:=(eY (Gq t ops) (iL (dw 0 ops.length) ops.length) none).1
theorem Nb (t:Ty) (ops:List Int):yx t ops=Na t ops:=by
 have h1:dF t ops=Gp t ops:=by funext pl s st;unfold dF Gp;rw [JE]
 have h2:fp t ops=Gq t ops:=by funext s pl;unfold fp Gq;rw [h1]
 unfold yx Na;rw [h2]
def gb:List Int:=[0,0,1]
def nB:List Int:=[1,1,1]
def stM:List Int:=[1,1,3]
def Em:List Int:=[0,0,0]
theorem Vy:xB fZ gb nB [cC.a,cC.b]=0:=by kernel_rfl
theorem Z8:xB fZ gb nB [cC.b,cC.a]=0:=by kernel_rfl
theorem gr1:El gb nB cC.a cC.b=true:=by kernel_rfl
theorem gr2:El gb nB cC.b cC.a=false:=by kernel_rfl
theorem adK:xB fZ gb stM [oT 2 [vT 0,vT 1],oT 2 [vT 1,vT 0]]=0:=by kernel_rfl
theorem adL:xB fZ gb nB [oT 2 [vT 0,vT 1],oT 2 [vT 1,vT 0]]=0:=by kernel_rfl
theorem eq1:HN gb stM (oT 2 [vT 0,vT 1]) (oT 2 [vT 1,vT 0])=true:=by kernel_rfl
theorem eq2:HN gb nB (oT 2 [vT 0,vT 1]) (oT 2 [vT 1,vT 0])=false:=by kernel_rfl
theorem adM:xA fZ gb nB=0:=by kernel_rfl
theorem adN:xA fZ Em nB=0:=by kernel_rfl
theorem Z9:xC cU gb nB=-1:=by kernel_rfl
theorem aaa:xC cU Em nB=1:=by kernel_rfl
theorem adO:Na cU [0,1,2]=some (gb,nB):=by kernel_rfl
def Aa:List T:=[oT 1 [oT 0 []],vT 0,oT 0 [],oT 2 [oT 0 [],oT 0 []]]
theorem adP:xB fZ gb nB Aa=0:=by kernel_rfl
theorem adQ:xJ (El gb nB) 4 Aa=[vT 0,oT 0 [],oT 1 [oT 0 []],oT 2 [oT 0 [],oT 0 []]]:=by kernel_rfl
theorem rS:BP cU:=by
 refine ⟨by decide,fun e he ps hp=>?_⟩
 have hp3:ps.length=3:=hp
 have key:∀ e∈cU.es,e.cs.length≤1000∧(∀ t∈e.a::e.rest,t.tree=true)∧∀ t∈e.a::e.rest,Ej 3 t=true:=by
  intro e he
  have h:(cU.es.all fun e=>decide (e.cs.length≤1000) && ((e.a::e.rest).all (fun t=>t.tree) && (e.a::e.rest).all fun t=>Ej 3 t))=true:=by kernel_rfl
  have:=List.all_eq_true.1 h e he
  simp only [Bool.and_eq_true,decide_eq_true_eq,List.all_eq_true] at this
  exact this
 obtain ⟨k1,k2,k3⟩:=key e he
 exact ⟨k1,k2,fun t ht=>by rw [hp3];exact HM (k3 t ht)⟩
end Go.aL
end
