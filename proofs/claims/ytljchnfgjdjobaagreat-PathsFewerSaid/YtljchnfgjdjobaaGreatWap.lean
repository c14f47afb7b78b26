/- Part 16 of 18 of the proof. -/
import Derived.Test.YtljchnfgjdjobaaGreatWao
import Derived.Test.YtljchnfgjdjobaaGreatWag
import Derived.KernelRfl
import Derived.Test.YtljchnfgjdjobaaGreatWam
import Derived.Test.YtljchnfgjdjobaaGreatWai
import Derived.Test.YtljchnfgjdjobaaGreatWah
import Derived.Test.YtljchnfgjdjobaaGreatWak
set_option linter.unusedVariables false
set_option linter.unusedSimpArgs false
set_option linter.defProp false
set_option linter.unusedSectionVars false
section
set_option maxRecDepth 100000
namespace Go.aH
open Go Go.Proofs Go.fm
theorem ysI {t:Ty} (ht:xw t) {ops:List Int} {vo:AV} (ho:IL vo ops) (hr:∀ i∈ops,0≤i∧i < t.s.ops.length) (j3:ops.length≤1000000) {pl:List Int} (wN:pl.length=ops.length) (H W:List aa) (es:List AV) (zj:es=kH 41 [(2,.ai t.av),(3,.ai vo),(4,.ptr H.length 0),(5,.ptr (H.length + 1) 0),(6,.ai (bm pl)),(21,.fn (.func 205) [] [.ai (.int .i64 ops.length),.ai (.int .i64 1),.ai (.int .i64 3)])]) :
 YS ops.length (dm 1 ((3:Int) + 1 - 1).toNat) (H.length + 2 + W.length) (fun s:Fo=>fo H W s++[.loop (iO s) bw es]) (fun s=>s=none) (dB t ops pl):=by
 refine ⟨fun l s X hl _ hs=>?_,fun l s hs bO=>?_,fun s s'=>?_⟩
 ·subst hs
  have:=K5 ht ho hr j3 wN H W es zj l hl X _ rfl
  have el:iO none=.ready:=rfl
  refine fy.mono (by simpa [el,jH] using this) fun r H' h=>?_
  refine ⟨h.1,?_⟩
  rw [h.2];simp
 ·subst hs
  unfold dB at *
  split at bO
  ·cases bO
  ·rename_i h;rw [if_neg h]
 ·simp [eV]
theorem K6 {vals:List Int}:∀ {n:Nat} {l:List Int},l∈iD vals n→l.length=n∧∀ x∈l,x∈vals
 | 0,l,h=>by
   simp only [iD,List.mem_cons,List.not_mem_nil,or_false] at h
   subst h;exact ⟨rfl,fun x hx=>by cases hx⟩
 | n + 1,l,h=>by
   simp only [iD,List.mem_flatMap,List.mem_map] at h
   obtain ⟨x,hx,y,hy,rfl⟩:=h
   obtain ⟨h1,h2⟩:=K6 hy
   exact ⟨by simp [h1],fun z hz=>by
    rcases List.mem_cons.1 hz with rfl | hz
    ·exact hx
    ·exact h2 z hz⟩
theorem K7 {t:Ty} (ht:xw t) {ops:List Int} {vo:AV} (ho:IL vo ops) (hr:∀ i∈ops,0≤i∧i < t.s.ops.length) (j3:ops.length≤1000000) (H:List aa) (es:List AV) (zj:es=kH 41 [(2,.ai t.av),(3,.ai vo),(4,.ptr H.length 0),(5,.ptr (H.length + 1) 0),(14,.fn (.func 205) [] [.ai (.int .i64 ops.length),.ai (.int .i64 0),.ai (.int .i64 ((ops.length:Int) - 1))])])
 (pl:List Int) (wN:pl.length=ops.length) (kN:∀ x∈pl,x≤1000000) (Y:List aa) :
 jH Tryz.prog (H.length + 2) [bm pl] (fo H [] none++.loop .ready a9 es::Y) fun r H'=>r=.bool (fh t ops none pl).2∧H'=fo H [] (fh t ops none pl).1++.loop (iO (fh t ops none pl).1) a9 es::Y:=by
 have ees:es=[.any,.any,.ai t.av,.ai vo,.ptr H.length 0,.ptr (H.length + 1) 0,.any,.any,.any,.any,.any,.any,.any,.any,.fn (.func 205) [] [.ai (.int .i64 ops.length),.ai (.int .i64 0),.ai (.int .i64 ((ops.length:Int) - 1))],.any,.any,.any,.any,.any,.any,.any,.any,.any,.any,.any,.any,.any,.any,.any,.any,.any,.any,.any,.any,.any,.any,.any,.any,.any,.any]:=by rw [zj];rfl
 have hk:∀ s,(fo H [] s).length=H.length + 2:=fun s=>by rw [eV];rfl
 have e0:∀ s st Y,(fo H [] s++aa.loop st a9 es::Y)[H.length + 2]?=some (.loop st a9 es):=fun s st Y=>uy _ _ _ _ (hk s)
 have gB:∀ s st st' Y,(fo H [] s++aa.loop st a9 es::Y).set (H.length + 2) (.loop st' a9 es)=fo H [] s++aa.loop st' a9 es::Y:=fun s st st' Y=>uz _ _ _ _ _ (hk s)
 refine ot (lc:=a9) (es:=es) (e0 none .ready Y) QY QZ ⟨by rw [ees,AO];rfl,by rw [wC];rfl,by rw [wC,AO];rfl,?_,?_⟩ (wo ?_)
 ·rw [ees];intro x hx;simp only [List.mem_cons,List.not_mem_nil,or_false] at hx
  repeat' (first | (rcases hx with hx | hx;· subst hx;rfl) | (subst hx;rfl))
 ·intro x hx;simp only [List.mem_cons,List.not_mem_nil,or_false] at hx;subst hx;exact (aC pl).2.1
 ·have ez:(a9.ps.zip [bm pl]).reverse++bX 0 es=(15,bm pl)::bX 0 es:=by rw [wC];rfl
  rw [ez]
  generalize xx:bX 0 es=ea
  have g2:get ea 2=.ai t.av:=by rw [← xx,ees];rfl
  have g3:get ea 3=.ai vo:=by rw [← xx,ees];rfl
  have g4:get ea 4=.ptr H.length 0:=by rw [← xx,ees];rfl
  have g5:get ea 5=.ptr (H.length + 1) 0:=by rw [← xx,ees];rfl
  simp only [Jr,Js]
  have hb:∀ K,jO (H.length + 2) (fo H [] none++.loop .ready a9 es::Y) K=K (fo H [] none++.loop .busy a9 es::Y):=fun K=>by rw [sC (e0 none .ready Y),gB]
  obtain ⟨a1,a2,a3,a4⟩:=ho.one
  obtain ⟨b1,b2,b3,b4,b5⟩:=aC pl
  have lvo:∀ (H:List aa) (φ:AV→Prop),aR none (.ai vo) H φ=φ vo:=fun H φ=>by simp [aR,a1,a2]
  have ip:IL (bm pl) pl:=.inl rfl
  have hlen:(fo H [] none++.loop .ready a9 es::Y).length=H.length + 2 + (Y.length + 1):=by rw [List.length_append,hk];rfl
  have endN:∀ n0 Z,n0=H.length + 2 + (Y.length + 1)→fh t ops none pl=(none,true)→qk n0 (H.length + 2) (fun r H'=>r=.bool (fh t ops none pl).2∧H'=fo H [] (fh t ops none pl).1++.loop (iO (fh t ops none pl).1) a9 es::Y) .normal (fo H [] none++.loop .busy a9 es::(Y++Z)):=by
   intro n0 Z Ma bO
   rw [E1 (e0 none .busy _),gB,bO]
   refine ⟨by rw [List.length_append,hk];simp;omega,rfl,?_⟩
   rw [Ma,← hlen,show fo H [] none++aa.loop .ready a9 es::(Y++Z)=(fo H [] none++aa.loop .ready a9 es::Y)++Z by simp,List.take_left]
   rfl
  have endR:∀ n0 Z s,n0=H.length + 2 + (Y.length + 1)→fh t ops none pl=(s,false)→s.isSome=true→qk n0 (H.length + 2) (fun r H'=>r=.bool (fh t ops none pl).2∧H'=fo H [] (fh t ops none pl).1++.loop (iO (fh t ops none pl).1) a9 es::Y) .ret (fo H [] s++.loop .busy a9 es::(Y++Z)):=by
   intro n0 Z s Ma bO hs
   have hlen2:(fo H [] s++.loop (.jump .ret) a9 es::Y).length=H.length + 2 + (Y.length + 1):=by rw [List.length_append,hk];rfl
   rw [K3 (e0 _ .busy _),gB,bO]
   refine ⟨by rw [List.length_append,hk];simp;omega,rfl,?_⟩
   rw [Ma,← hlen2,show fo H [] s++aa.loop (.jump .ret) a9 es::(Y++Z)=(fo H [] s++aa.loop (.jump .ret) a9 es::Y)++Z by simp,List.take_left]
   have:iO s=.jump .ret:=if_pos hs
   rw [this]
  simp +contextual only [g2,g3,g4,g5,hb,bT,b1,b2,b4,b5,sZ,Nat.reduceEqDiff,Nat.reduceAdd,↓reduceIte]
  refine ae (aaL pl ip (by omega) kN) ?_
  cases hd:n9 pl with
  | false=>
    have bO:fh t ops none pl=(none,true):=by rw [fh,if_neg (by rw [hd];simp)]
    simp +contextual only [Bool.not_false,sZ,Nat.reduceEqDiff,↓reduceIte]
    have:=endN ((fo H [] none).length + (Y.length + 1)) [] (by rw [hk]) bO
    rwa [List.append_nil] at this
  | true=>
    have bO:fh t ops none pl=eW (dB t ops pl) (iD (dm 1 3) ops.length) none:=by rw [fh,if_pos hd]
    simp +contextual only [Bool.not_true,lvo,ho.aL,ho.len (by omega),sZ,Nat.reduceEqDiff,Nat.reduceAdd,↓reduceIte]
    refine ae (Xk ops.length 1 3) ?_
    simp +contextual only [mq,sZ,Nat.reduceEqDiff,↓reduceIte]
    obtain ⟨W,hW⟩:∃ W,W=aa.loop .busy a9 es::Y:=⟨_,rfl⟩
    have hH2:fo H [] none++aa.loop .busy a9 es::Y=fo H W none:=by rw [hW];simp [fo]
    have hA:∀ s,fo H W s=fo H [] s++aa.loop .busy a9 es::Y:=fun s=>by rw [hW];simp [fo]
    obtain ⟨esI,Xl⟩:∃ esI,esI=kH 41 [(2,AV.ai t.av),(3,.ai vo),(4,.ptr H.length 0),(5,.ptr (H.length + 1) 0),(6,.ai (bm pl)),(21,.fn (.func 205) [] [.ai (.int .i64 ops.length),.ai (.int .i64 1),.ai (.int .i64 3)])]:=⟨_,rfl⟩
    have ys:=ysI ht ho hr j3 wN H W esI Xl
    have pP:(3:Int) + 1 - 1=3:=rfl
    have hvt:((3:Int)).toNat=3:=rfl
    rw [pP,hvt] at ys
    have K8:=Xj (n:=ops.length) (lo:=1) (hi:=3) (by omega) (by omega) j3 (Good:=fun s:Fo=>s=none) (hy:=by rw [pP,hvt];exact ys) (fun s=>by simp [eV]) none rfl
    rw [pP,hvt] at K8
    rw [hH2]
    have eln:(fo H W none).length=H.length + 2 + W.length:=eV H W none
    refine sB (P:=Tryz.prog) (R:=fun r H'=>r=.tuple []∧H'=fo H W (eW (dB t ops pl) (iD (dm 1 3) ops.length) none).1++[.loop (iO (eW (dB t ops pl) (iD (dm 1 3) ops.length) none).1) bw esI]) 205 [] _ bw _ _ _ Tryz.call205 ?_ ?_
    ·rw [AP,← Xl,eln]
     exact K8
    ·have h2:=AQ t ops pl (iD (dm 1 3) ops.length) none rfl
     rintro r H' ⟨rfl,rfl⟩
     generalize Ur:(eW (dB t ops pl) (iD (dm 1 3) ops.length) none).1=s' at h2
     have Xm:fh t ops none pl=(s',s'.isNone):=by rw [bO];exact Prod.ext Ur h2
     rw [eln]
     have eget:∀ st,(fo H W s'++[aa.loop st bw esI])[H.length + 2 + W.length]?=some (.loop st bw esI):=fun st=>uy _ _ _ _ (eV H W s')
     have eset:∀ st st',(fo H W s'++[aa.loop st bw esI]).set (H.length + 2 + W.length) (.loop st' bw esI)=fo H W s'++[.loop st' bw esI]:=fun st st'=>uz _ _ _ _ _ (eV H W s')
     cases s' with
     | none=>
       have el:iO none=.ready:=rfl
       rw [el,wm (eget _),eset]
       simp +contextual only [po]
       have:=endN ((fo H [] none).length + (Y.length + 1)) [.loop .eI bw esI] (by rw [hk]) Xm
       rw [hA]
       simpa using this
     | some o=>
       have el:iO (some o)=.jump .ret:=rfl
       rw [el,Df (eget _),eset]
       simp +contextual only [po]
       have:=endR ((fo H [] none).length + (Y.length + 1)) [.loop .eI bw esI] (some o) (by rw [hk]) Xm rfl
       rw [hA]
       simpa using this
end Go.aH
end
section
set_option maxRecDepth 100000
namespace Go.aH
open Go Go.Proofs Go.fm
theorem ysO {t:Ty} (ht:xw t) {ops:List Int} {vo:AV} (ho:IL vo ops) (hr:∀ i∈ops,0≤i∧i < t.s.ops.length) (j3:ops.length≤1000000) (H:List aa) (es:List AV) (zj:es=kH 41 [(2,.ai t.av),(3,.ai vo),(4,.ptr H.length 0),(5,.ptr (H.length + 1) 0),(14,.fn (.func 205) [] [.ai (.int .i64 ops.length),.ai (.int .i64 0),.ai (.int .i64 ((ops.length:Int) - 1))])]) :
 YS ops.length (dm 0 ops.length) (H.length + 2) (fun s:Fo=>fo H [] s++[.loop (iO s) a9 es]) (fun s=>s=none) (fh t ops):=by
 refine ⟨fun l s X hl hm hs=>?_,fun l s hs bO=>?_,fun s s'=>?_⟩
 ·subst hs
  have:=K7 ht ho hr j3 H es zj l hl (fun x hx=>by have:=yP.1 (hm x hx);omega) X
  have el:iO none=.ready:=rfl
  refine fy.mono (by simpa [el,jH] using this) fun r H' h=>?_
  refine ⟨h.1,?_⟩
  rw [h.2];simp
 ·subst hs
  have h2:(fh t ops none l).2=(fh t ops none l).1.isNone:=by
   unfold fh
   split
   ·exact AQ t ops l _ none rfl
   ·rfl
  rw [bO] at h2
  exact Option.isNone_iff_eq_none.1 h2.symm
 ·simp [eV]
def foA (s:Fo):AV:=match s with | none=>gn [] [] | some (P,S)=>gn P S
theorem Gk (n0 s s':Nat) (sz sz':Option Nat) (env:Env) (H:List aa) (R:AV→List aa→Prop):bR n0 [.c s sz,.c s' sz'] env H R=aR sz (get env s) H fun x=>aR sz' (get env s') H fun y=>tB n0 [x,y] H R:=_root_.id rfl
theorem c93 {t:Ty} (ht:xw t) {ops:List Int} {vo:AV} (ho:IL vo ops) (hr:∀ i∈ops,0≤i∧i < t.s.ops.length) (j3:ops.length≤1000000):Pure Tryz.prog 93 [t.av,vo] (.tuple [foA (xv t ops),.bool (xv t ops).isSome]):=by
 refine fun H=>Zc.calls rfl ?_
 simp only [UL,UK]
 obtain ⟨e1,e2,e3,e4,e5,e6⟩:=Ty.facts t
 obtain ⟨a1,a2,a3,a4⟩:=ho.one
 have lvo:∀ (H:List aa) (φ:AV→Prop),aR none (.ai vo) H φ=φ vo:=fun H φ=>by simp [aR,a1,a2]
 have zf2:List.map AV.ab [AV.ah,.ah]=[.ah,.ah]:=rfl
 have zb2:∀ n,aj n [AV.ah,.ah]=true:=fun _=>rfl
 have hw:IntKind.i64.wrap ((ops.length:Int) - 1)=(ops.length:Int) - 1:=eu _ (by omega)
 simp +contextual only [e1,a3,lvo,zf2,zb2,ho.aL,ho.len (by omega),hw,sZ,Nat.reduceEqDiff,Nat.reduceAdd,↓reduceIte,reduceCtorEq]
 refine ae (Xk ops.length 0 ((ops.length:Int) - 1)) ?_
 simp +contextual only [mq,sZ,Nat.reduceEqDiff,↓reduceIte,reduceCtorEq]
 have hA0:H++[aa.cells [AV.ah,.ah],.cells [.bool false]]=fo H [] none:=rfl
 rw [hA0]
 obtain ⟨esO,zj⟩:∃ esO,esO=kH 41 [(2,AV.ai t.av),(3,.ai vo),(4,.ptr H.length 0),(5,.ptr (H.length + 1) 0),(14,.fn (.func 205) [] [.ai (.int .i64 ops.length),.ai (.int .i64 0),.ai (.int .i64 ((ops.length:Int) - 1))])]:=⟨_,rfl⟩
 have ys:=ysO ht ho hr j3 H esO zj
 have hv:((ops.length:Int) - 1 + 1 - 0).toNat=ops.length:=by omega
 have K8:=Xj (n:=ops.length) (lo:=0) (hi:=(ops.length:Int) - 1) (by omega) (by omega) j3 (Good:=fun s:Fo=>s=none) (hy:=by rw [hv];exact ys) (fun s=>by simp [eV]) none rfl
 rw [hv] at K8
 have eln:∀ s,(fo H [] s).length=H.length + 2:=fun s=>eV H [] s
 refine sB (P:=Tryz.prog) (R:=fun r H'=>r=.tuple []∧H'=fo H [] (xv t ops)++[.loop (iO (xv t ops)) a9 esO]) 205 [] _ a9 _ _ _ Tryz.call205 ?_ ?_
 ·rw [AO,← zj,eln]
  exact K8
 ·rintro r H' ⟨rfl,rfl⟩
  generalize xv t ops=s'
  have eget:∀ st,(fo H [] s'++[aa.loop st a9 esO])[H.length + 2]?=some (.loop st a9 esO):=fun st=>uy _ _ _ _ (eln s')
  have eset:∀ st st',(fo H [] s'++[aa.loop st a9 esO]).set (H.length + 2) (.loop st' a9 esO)=fo H [] s'++[.loop st' a9 esO]:=fun st st'=>uz _ _ _ _ _ (eln s')
  have k4:=Qg H [] [.loop .eI a9 esO] s'
  have k5:=Qh H [] [.loop .eI a9 esO] s'
  have htk:(fo H [] s'++[aa.loop .eI a9 esO]).take H.length=H:=by rw [List.take_append_of_le_length (by rw [eln];omega),fo,List.take_left]
  have sp2:∀ (a b x y:AV),ag [a,b] 0 [x,y]=[x,y]:=fun _ _ _ _=>rfl
  rw [eln]
  cases s' with
  | none=>
    have el:iO none=.ready:=rfl
    rw [el,wm (eget _),eset]
    have o4n:o4 none=.cells [.ah,.ah]:=rfl
    have o5n:o5 none=.cells [.bool false]:=rfl
    rw [o4n] at k4
    rw [o5n] at k5
    have k4s:=fun o=>List.getElem?_set_self (a:=o) (aK k4)
    have k5s:∀ o,((fo H [] none++[aa.loop .eI a9 esO]).set H.length o)[H.length + 1]?=some (.cells [.bool false]):=fun o=>by rw [List.getElem?_set_ne (by omega)];exact k5
    have k5t:∀ o o',(((fo H [] none++[aa.loop .eI a9 esO]).set H.length o).set (H.length + 1) o')[H.length + 1]?=some o':=fun o o'=>List.getElem?_set_self (by rw [List.length_set];exact aK k5)
    have k4t:∀ o o',(((fo H [] none++[aa.loop .eI a9 esO]).set H.length o).set (H.length + 1) o')[H.length]?=some o:=fun o o'=>by rw [List.getElem?_set_ne (by omega)];exact k4s o
    have aaP:∀ o o',(((fo H [] none++[aa.loop .eI a9 esO]).set H.length o).set (H.length + 1) o').take H.length=H:=fun o o'=>by rw [List.take_set_of_le (by omega),List.take_set_of_le (by omega),htk]
    simp +contextual only [po,k4,k5s,k4t,k5t,zf2,zb2,sp2,Gk,sZ,Nat.reduceEqDiff,Nat.reduceAdd,Nat.reduceLT,↓reduceIte,reduceCtorEq]
    exact PN (aaP _ _) ((bF [] []).2.2.2.2.2 _) rfl rfl rfl ⟨rfl,rfl⟩
  | some o=>
    obtain ⟨P,S⟩:=o
    have el:iO (some (P,S))=.jump .ret:=rfl
    rw [el,Df (eget _),eset]
    have o4n:o4 (some (P,S))=.cells [.ap 0 (ints P),.ap 0 (ints S)]:=rfl
    have o5n:o5 (some (P,S))=.cells [.bool true]:=rfl
    rw [o4n] at k4
    rw [o5n] at k5
    simp +contextual only [po,k4,k5,Gk,sZ,Nat.reduceEqDiff,Nat.reduceAdd,Nat.reduceLT,↓reduceIte,reduceCtorEq]
    exact PN htk ((bF P S).2.2.2.2.2 _) rfl rfl rfl ⟨rfl,rfl⟩
end Go.aH
end
section
set_option maxRecDepth 100000
set_option maxHeartbeats 0
namespace Go.aH
open Go Go.Proofs
noncomputable def Xn:=aJ Tryz.call75 Tryz.func75 Tryz.ntmps75 [(0,0,1),(5,2,1000),(6,0,1),(6,7,2),(6,8,1),(7,6,2),(7,9,2),(9,0,6004)] [(0,[1,2]),(1,[1,6]),(2,[1,6,7]),(3,[6,7,15,16,17]),(4,[6,7,15,16,17,18]),(5,[6,7,9,15,16,17]),(6,[6,7,9,15,16,17]),(7,[6,7,15,16,17]),(8,[6,7,15,16,17]),(9,[4,5])] [(7,(.take 1 true (.take 2 true (.take 3 true (.take 4 true (.take 5 true (.take 0 false (.br 6 (.take 7 true (.take 8 true (.br 9 .done .nil))) .nil))))))))]
end Go.aH
end
section
set_option maxRecDepth 100000
namespace Go.aH
open Go Go.Proofs Go.fm
def tJ (z:AV) (kp:Nat→Prop) (v:AV) (xs:List AV) (G:List aa):Prop:=
 (xs=[]∧v=.ah)∨∃ id cap,¬ kp id∧v=.a8 id 0 xs.length cap∧G[id]?=some (bc z xs cap)∧xs.length≤cap∧xs≠[]
section
variable {z:AV} {kp:Nat→Prop} {v:AV} {xs:List AV} {G:List aa}
theorem tJ.one (h:tJ z kp v xs G):v.one=true∧v.val=true∧v.ab=v∧v.cells=[v]:=by
 rcases h with ⟨_,rfl⟩ | ⟨id,cap,_,rfl,_⟩ <;> exact ⟨rfl,rfl,rfl,rfl⟩
theorem tJ.aZ (h:tJ z kp v xs G) {n:Nat} (hn:G.length≤n):v.aZ n=true:=by
 rcases h with ⟨_,rfl⟩ | ⟨id,cap,_,rfl,c,_⟩
 ·rfl
 ·have:=(List.getElem?_eq_some_iff.1 c).1
  rw [jP];simp;omega
theorem tJ.len (h:tJ z kp v xs G) {H:List aa} (φ:AV→Prop):fq v H φ=φ (.int .i64 xs.length):=by
 rcases h with ⟨rfl,rfl⟩ | ⟨id,cap,_,rfl,_⟩ <;> rfl
theorem tJ.aL (h:tJ z kp v xs G):aL 1 v=True:=by
 rcases h with ⟨_,rfl⟩ | ⟨id,cap,_,rfl,_⟩ <;> rfl
theorem tJ.set (h:tJ z kp v xs G) {j:Nat} (hj:∀ l c,v≠.a8 j 0 l c) (o:aa):tJ z kp v xs (G.set j o):=by
 rcases h with h | ⟨id,cap,a,b,c,d⟩
 ·exact .inl h
 ·exact .inr ⟨id,cap,a,b,by rw [List.getElem?_set_ne (fun e=>hj _ _ (by rw [e];exact b))];exact c,d⟩
end
theorem yR {esz bytes:Nat} {z:AV} (hz:iz esz (bL z)) {kp:Nat→Prop} {v:AV} {xs:List AV} {G:List aa} (h:tJ z kp v xs G) (ej:∀ x∈xs,iz esz x) (o:Nat) (ys:List AV) (hy:ys≠[]) (pQ:∀ x∈ys,iz esz x)
 (hb:(xs.length + ys.length) * bytes≤140737488355328) (hG:∀ j,kp j→j < G.length) {K:AV→List aa→Prop}
 (hK:∀ v' G',tJ z kp v' (xs++ys) G'→(∀ j,kp j→G'[j]?=G[j]?)→G.length≤G'.length→K v' G'):cD esz bytes z v (.ap o ys) G K:=by
 have mV:¬ kp G.length:=fun h=>Nat.lt_irrefl _ (hG _ h)
 have jr:sR esz ys:=fun y hy=>⟨(pQ y hy).len,(pQ y hy).one⟩
 obtain ⟨f1,f2,f3,f4⟩:=iz.flat pQ
 obtain ⟨g1,g2,g3,g4⟩:=iz.flat ej
 have wN:=nR hz
 have kN:∀ n m,aj n (ch z m)=true:=fun n m=>(iz.flat (jR hz m)).2.2.1 n
 unfold cD
 simp only [dw]
 refine ⟨jr,?_⟩
 rcases h with ⟨rfl,rfl⟩ | ⟨id,cap,bk,rfl,hg,hle,_⟩
 ·refine ⟨by simpa using hb,fun e=>absurd e hy,fun _ cap hc _=>⟨?_,hK _ _ (.inr ⟨G.length,cap,mV,by simp,?_,by simpa using hc,by simpa using hy⟩) ?_ (by simp)⟩⟩
  ·rw [f2,bu];exact ⟨f3 _,kN _ _⟩
  ·rw [f2];simp [bc]
  ·intro j hj;have:=hG j hj;rw [List.getElem?_append_left (by omega)]
 ·have xT:=(List.getElem?_eq_some_iff.1 hg).1
  simp only [hg,bc,List.length_append,g1,wN,Nat.zero_add,List.drop_zero]
  refine ⟨hb,hle,by rw [← Nat.add_mul];exact Nat.le_of_eq (by congr 1;omega),fun hroom=>⟨by rw [f2];exact f3 _,?_⟩,fun j3 gC hc _=>⟨?_,?_⟩⟩
  ·rw [f2]
   refine hK _ _ (.inr ⟨id,cap,bk,by simp,?_,by simpa using hroom,by simp [hy]⟩) ?_ (by simp)
   ·rw [List.getElem?_set_self xT,bc]
    congr 2
    unfold ag
    rw [f1,List.take_append_of_le_length (by rw [g1];exact Nat.le_refl _),List.take_of_length_le (by rw [g1];exact Nat.le_refl _),List.drop_append,List.drop_of_length_le (by rw [g1];omega),g1,
     show xs.length * esz + ys.length * esz - xs.length * esz=ys.length * esz by omega,ym hz _ _ (by omega),jQ,List.nil_append,List.length_append]
    rw [show cap - xs.length - ys.length=cap - (xs.length + ys.length) by omega,List.append_assoc]
   ·intro j hj;rw [List.getElem?_set_ne (fun e=>bk (by rw [e];exact hj))]
  ·rw [List.take_append_of_le_length (by rw [g1];exact Nat.le_refl _),List.take_of_length_le (by rw [g1];exact Nat.le_refl _),g2,f2,bu,bu];exact ⟨⟨g3 _,f3 _⟩,kN _ _⟩
  ·rw [List.take_append_of_le_length (by rw [g1];exact Nat.le_refl _),List.take_of_length_le (by rw [g1];exact Nat.le_refl _),g2,f2,← jQ]
   refine hK _ _ (.inr ⟨G.length,gC,mV,by simp,?_,by simpa using hc,by simp [hy]⟩) ?_ (by simp)
   ·simp [bc]
   ·intro j hj;have:=hG j hj;rw [List.getElem?_append_left (by omega)]
def Tt (kp:Nat→Prop) (H:List aa) (xs:List AV) (r:AV) (H':List aa):Prop:=tJ zN kp r xs H'∧(∀ j,kp j→H'[j]?=H[j]?)∧H.length≤H'.length
theorem Xo:∀ (N:Nat) (t:T),wt t≤N→∀ (kp:Nat→Prop) (v:AV) (xs:List AV) (H:List aa),tJ zN kp v xs H→(∀ x∈xs,iz 4 x)→(∀ j,kp j→j < H.length)→(xs.length + wt t) * 64≤140737488355328→
 aq Tryz.prog 132 [t.av,v] H (Tt kp H (xs++eL (vZ t xs.length))):=by
 intro N
 induction N with
 | zero=>intro t ht;have:=gg t;omega
 | succ N ih=>
 intro t ht kp v xs H hR ej hbase hb
 have hw:=CG t
 have Yj:=iE t.l
 refine FY.2.calls rfl ?_
 simp only [FY,aJ]
 obtain ⟨o1,o2,o3,o4⟩:=hR.one
 simp +contextual only [o3,hR.len,hR.aL,bdN,Wk,sZ,Nat.reduceEqDiff,Nat.reduceAdd,↓reduceIte,reduceCtorEq]
 refine yR Ap hR ej 0 [mC t] (by simp) (by simp [qO]) (by simp;omega) hbase fun v1 G1 SR SS tT=>?_
 obtain ⟨o1',o2',o3',o4'⟩:=SR.one
 simp +contextual only [sZ]
 intro _
 have iV:∀ i,(xs++mC t::eL (da (t.l.take i) (xs.length + 1))).length=xs.length + 1 + gW (t.l.take i):=by intro i;simp [qQ,gQ];omega
 have jr:∀ i,∀ x∈xs++mC t::eL (da (t.l.take i) (xs.length + 1)),iz 4 x:=by
  intro i x hx
  rcases List.mem_append.1 hx with hx | hx
  ·exact ej x hx
  ·rcases List.mem_cons.1 hx with rfl | hx
   ·exact qO t
   ·exact jU _ x hx
 refine aE t.l.length (fun i (p:AV×List aa)=>tJ zN kp p.1 (xs++mC t::eL (da (t.l.take i) (xs.length + 1))) p.2∧(∀ j,kp j→p.2[j]?=H[j]?)∧H.length≤p.2.length)
  (fun i p=>[(1,p.1),(5,.int .i64 xs.length),(6,jS (aT (t.l.take i) (xs.length + 1))),(17,.ap 0 (bW t.l)),(18,.int .i64 t.l.length),(19,.int .i64 i)])
  (fun i p=>p.2) (v1,G1) ⟨⟨SR,SS,tT⟩,aA _ _ _⟩ fun i p hi hI=>?_
 obtain ⟨v,G⟩:=p
 obtain ⟨hR,hG,hl⟩:=hI
 simp only at hR hG hl
 obtain ⟨o1,o2,o3,o4⟩:=hR.one
 have hle:=dl t.l i
 have Bw:=cE (t.l.take i) (xs.length + 1)
 have SU:(t.l.take i).length≤t.l.length:=by simp;omega
 simp +contextual only [o3,hR.len,hR.aL,iV,sj,(fg _).2.1,jt,sZ,Nat.reduceEqDiff,Nat.reduceAdd,↓reduceIte,reduceCtorEq]
 refine ⟨fun aX=>⟨bS aX,by omega,?_⟩,fun jh=>?_⟩
 ·have aX:=bS aX
  have ZH:=nU aX
  have hnext:=dl t.l (i + 1)
  have e2:t.l.take (i + 1)=t.l.take i++[t.l.getD i default]:=by rw [List.take_succ_eq_append_getElem aX];simp [aX]
  refine af (ih (t.l.getD i default) (by have:=cK (gO aX);omega) kp v _ G hR (jr i) (fun j hj=>by have:=hbase j hj;omega) (by rw [iV];omega)) ?_
  rintro r G' ⟨xp,ey,xb⟩
  obtain ⟨o1',o2',o3',o4'⟩:=xp.one
  simp +contextual only [o3',sZ,Nat.reduceEqDiff,↓reduceIte]
  refine ⟨i + 1,(r,G'),⟨aX,?_,fun j hj=>(ey j hj).trans (hG j hj),Nat.le_trans hl xb⟩,by omega,aI ?_ rfl⟩
  ·rw [iV] at xp
   rw [e2,lh,qP,← List.cons_append,← List.append_assoc]
   exact xp
  ·rw [e2,iM,ax i (by omega)]
 ·have mY:i=t.l.length:=by have:=dd jh;omega
  subst mY
  rw [List.take_length] at hR
  have EM:=iV t.l.length
  have EN:=jr t.l.length
  rw [List.take_length] at EM EN
  have gB:(xs++mC t::eL (da t.l (xs.length + 1))).set xs.length (EL (t,aT t.l (xs.length + 1)))=xs++eL (vZ t xs.length):=by
   rw [List.set_append_right _ _ (Nat.le_refl _),Nat.sub_self,List.set_cons_zero,oG];rfl
  have jA:(xs++mC t::eL (da t.l (xs.length + 1))).getD xs.length .any=mC t:=by simp
  generalize xs++mC t::eL (da t.l (xs.length + 1))=ys at hR EM EN gB jA
  rcases hR with ⟨rfl,_⟩ | ⟨id,cap,bk,rfl,hg,b9,_⟩
  ·simp at EM
   omega
  have xT:=(List.getElem?_eq_some_iff.1 hg).1
  obtain ⟨k1,k2,k3,k4,k5⟩:=aC (aT t.l (xs.length + 1))
  simp +contextual only [hg,kO,List.take_length,sZ,Nat.reduceEqDiff,↓reduceIte,reduceCtorEq]
  refine ⟨by omega,?_⟩
  refine Ah EN (by omega) (by decide) (y:=EL (t,aT t.l (xs.length + 1))) k1 k4 (by rw [k2];exact k3 _) (by rw [jA,k2];rfl) ?_
  simp +contextual only [sZ,Nat.reduceEqDiff,↓reduceIte,reduceCtorEq]
  rw [gB]
  refine aO (G.length) (by omega) (by rw [au,if_pos rfl,jP];simpa using xT) ?_
  rw [au,if_pos rfl,List.take_of_length_le (by simp)]
  refine ⟨.inr ⟨id,cap,bk,?_,?_,?_,?_⟩,?_,by simpa using hl⟩
  ·rw [← gB];simp
  ·rw [List.getElem?_set_self xT]
  ·rw [← gB];simpa using b9
  ·rw [oG];simp [eL]
  ·intro j hj;rw [List.getElem?_set_ne (fun e=>bk (by rw [e];exact hj))];exact hG j hj
end Go.aH
end
section
set_option maxRecDepth 100000
namespace Go.aH
open Go Go.Proofs Go.fm
def wE (n0 id:Nat) (G:List aa):List aa:=G.mapIdx fun j o=>if j < n0 + 3∨j=id then o else .dead
theorem sG {n0 id j:Nat} {G:List aa}:(wE n0 id G)[j]?=(G[j]?).map fun o=>if j < n0 + 3∨j=id then o else .dead:=by simp [wE]
theorem yS {n0 id:Nat} {G:List aa}:(wE n0 id G).length=G.length:=by simp [wE]
theorem E6 {n0 id:Nat} {G:List aa}:(wE n0 id G).take (n0 + 3)=G.take (n0 + 3):=by
 apply List.ext_getElem?
 intro j
 rw [List.getElem?_take,List.getElem?_take]
 split
 ·rename_i hj
  rw [sG]
  cases G[j]? with
  | none=>rfl
  | some o=>simp [hj]
 ·rfl
theorem Dg {n0 id:Nat} {G:List aa} (h3:∀ (j:Nat) (o:aa),n0≤j→j < n0 + 3→G[j]?=some o→o.aZ (j + 1)=true) (bk:∀ o,G[id]?=some o→o.aZ (id + 1)=true):mQ n0 G G.length (wE n0 id G):=by
 refine ⟨by rw [yS,Nat.min_self],fun j o ho=>?_⟩
 rw [sG] at ho
 cases hg:G[j]? with
 | none=>rw [hg] at ho;cases ho
 | some o'=>
   rw [hg] at ho
   simp only [Option.map_some,Option.some.injEq] at ho
   split at ho
   ·rename_i hc
    subst ho
    refine .inr ⟨rfl,fun h=>?_⟩
    rcases hc with hc | hc
    ·exact h3 j _ h hc hg
    ·subst hc;exact bk _ hg
   ·exact .inl ho.symm
def K9 (H:List aa) (ps ss:List Int) (ts:List T) (r:AV) (G:List aa):Prop:=
 ∃ va,r=.tuple [.ptr (H.length + 2) 0,va]∧G.take (H.length + 3)=H++[.map [],.map [],jV ps ss (da ts 0) H.length (H.length + 1)]∧H.length + 3≤G.length∧RO zI (H.length + 3) va (ints (aT ts 0)) G
theorem tJ.Xp {z:AV} {kp kp':Nat→Prop} {v:AV} {xs:List AV} {G G':List aa} (h:tJ z kp v xs G) (hk:∀ id l c,v=.a8 id 0 l c→¬ kp' id∧G'[id]?=G[id]?):tJ z kp' v xs G':=by
 rcases h with h | ⟨id,cap,a,b,c,d⟩
 ·exact .inl h
 ·obtain ⟨h1,h2⟩:=hk _ _ _ b
  exact .inr ⟨id,cap,h1,b,by rw [h2];exact c,d⟩
theorem tJ.ne {z:AV} {kp:Nat→Prop} {v:AV} {xs:List AV} {G:List aa} (h:tJ z kp v xs G) {id l c:Nat} (e:v=.a8 id 0 l c):¬ kp id:=by
 rcases h with ⟨_,rfl⟩ | ⟨id',cap,a,rfl,_⟩
 ·cases e
 ·cases e;exact a
theorem aaQ (ps ss:List Int) (ts:List T) (H:List aa) (hb:gW ts * 64≤140737488355328):aq Tryz.prog 75 [gn ps ss,.ap 0 (bW ts)] H (K9 H ps ss ts):=by
 refine Xn.2.Eh rfl ?_
 simp only [Xn,aJ,gn]
 have Yj:=iE ts
 simp +contextual only [bdD,Ow,sZ,Nat.reduceEqDiff,Nat.reduceAdd,↓reduceIte,reduceCtorEq]
 refine ⟨by simp;omega,fun _=>?_⟩
 have e0:∀ (l:List aa) (x:aa),(H++x::l)[H.length]?=some x:=by simp
 refine mn ts.length (fun i (p:AV×AV×List aa)=>tJ zN (fun j=>j < H.length + 3∨∃ l c,p.2.1=.a8 j 0 l c) p.1 (eL (da (ts.take i) 0)) p.2.2∧tJ zI (fun j=>j < H.length + 3∨∃ l c,p.1=.a8 j 0 l c) p.2.1 (ints (aT (ts.take i) 0)) p.2.2∧H.length + 3≤p.2.2.length∧
  p.2.2.take (H.length + 3)=H++[.map [],.map [],.cells [.ap 0 (ints ps),.ap 0 (ints ss),p.1,.map H.length,.map (H.length + 1)]])
  (fun i p=>[(6,.ptr (H.length + 2) 0),(7,p.2.1),(15,.ap 0 (bW ts)),(16,.int .i64 ts.length),(17,.int .i64 i)])
  (fun i p=>p.2.2) (.ah,.ah,_) ⟨⟨.inl ⟨rfl,rfl⟩,.inl ⟨rfl,rfl⟩,by simp,?_⟩,oD _ _ _⟩ fun i p hi hI=>?_
 ·rw [List.take_of_length_le (by simp)]
 obtain ⟨v,va,G⟩:=p
 obtain ⟨hR,hA,hl,hG⟩:=hI
 simp only at hR hA hl hG
 obtain ⟨o1,o2,o3,o4⟩:=hR.one
 obtain ⟨p1,p2,p3,p4⟩:=hA.one
 have gget:∀ j,j < H.length + 3→G[j]?=(H++[.map [],.map [],.cells [.ap 0 (ints ps),.ap 0 (ints ss),v,.map H.length,.map (H.length + 1)]])[j]?:=by
  intro j hj;rw [← hG,List.getElem?_take,if_pos hj]
 have g2:G[H.length + 2]?=some (.cells [.ap 0 (ints ps),.ap 0 (ints ss),v,.map H.length,.map (H.length + 1)]):=by rw [gget _ (by omega)];simp
 have hle:=dl ts i
 have Bw:=cE (ts.take i) 0
 have SU:(ts.take i).length≤ts.length:=by simp;omega
 by_cases aX:i < ts.length
 ·have m8:((i:Int) < ts.length)=True:=eq_true (by omega)
  simp +contextual only [o3,p3,g2,hR.len,hR.aL,ju,m8,decide_true,sZ,Nat.reduceEqDiff,Nat.reduceAdd,Nat.reduceLT,↓reduceIte]
  have ZH:=nU aX
  have hnext:=dl ts (i + 1)
  have e2:ts.take (i + 1)=ts.take i++[ts.getD i default]:=by rw [List.take_succ_eq_append_getElem aX];simp [aX]
  have arrlt:∀ {z:AV} {kp:Nat→Prop} {u:AV} {xs:List AV} {G:List aa} {j l c:Nat},tJ z kp u xs G→u=.a8 j 0 l c→j < G.length:=by
   intro z kp u xs G j l c h e
   rcases h with ⟨_,rfl⟩ | ⟨id',cap,_,rfl,h2,_⟩
   ·cases e
   ·cases e;exact aK h2
  refine ⟨aX,yR Aq hA (nW _) 0 [.int .i64 (gW (ts.take i):Nat)] (by simp) (nW [_]) (by rw [aw];simp;omega) (fun j hj=>?_) fun va' G1 QI Kx tT=>?_⟩
  ·rcases hj with hj | ⟨l,c,e⟩
   ·omega
   ·exact arrlt hR e
  obtain ⟨p1',p2',p3',p4'⟩:=QI.one
  have g21:G1[H.length + 2]?=some (.cells [.ap 0 (ints ps),.ap 0 (ints ss),v,.map H.length,.map (H.length + 1)]):=by rw [Kx _ (.inl (by omega)),g2]
  have SR:tJ zN (fun j=>j < H.length + 3∨∃ l c,va'=.a8 j 0 l c) v (eL (da (ts.take i) 0)) G1:=hR.Xp fun id l c e=>by
   refine ⟨fun h=>?_,Kx id (.inr ⟨l,c,e⟩)⟩
   rcases h with h | ⟨l',c',e'⟩
   ·exact hR.ne e (.inl h)
   ·exact QI.ne e' (.inr ⟨l,c,e⟩)
  simp +contextual only [o3,p3',g21,sZ,Nat.reduceEqDiff,Nat.reduceAdd,Nat.reduceLT,↓reduceIte,reduceCtorEq]
  have hc:=Xo (wt (ts.getD i default)) (ts.getD i default) (Nat.le_refl _) (fun j=>j < H.length + 3∨∃ l c,va'=.a8 j 0 l c) v _ G1 SR (jU _) (fun j hj=>by
   rcases hj with hj | ⟨l,c,e⟩
   ·omega
   ·exact arrlt QI e) (by rw [ju];omega)
  refine af hc ?_
  rintro r G' ⟨xp,Iv,xb⟩
  obtain ⟨o1',o2',o3',o4'⟩:=xp.one
  have g2':G'[H.length + 2]?=some (.cells [.ap 0 (ints ps),.ap 0 (ints ss),v,.map H.length,.map (H.length + 1)]):=by rw [Iv _ (.inl (by omega)),g21]
  have eh:=xp.aZ (Nat.le_refl _)
  have D7:tJ zI (fun j=>j < H.length + 3∨∃ l c,r=.a8 j 0 l c) va' (ints (aT (ts.take i) 0)++[.int .i64 (gW (ts.take i):Nat)]) G':=QI.Xp fun id l c e=>by
   refine ⟨fun h=>?_,Iv id (.inr ⟨l,c,e⟩)⟩
   rcases h with h | ⟨l',c',e'⟩
   ·exact QI.ne e (.inl h)
   ·exact xp.ne e' (.inr ⟨l,c,e⟩)
  have gt':G'.take (H.length + 3)=G.take (H.length + 3):=by
   apply List.ext_getElem?
   intro j
   rw [List.getElem?_take,List.getElem?_take]
   split
   ·rename_i hj;rw [Iv j (.inl hj),Kx j (.inl hj)]
   ·rfl
  simp +contextual only [rY,o1',o2',o3',o4',g2',eh,sZ,Nat.reduceEqDiff,Nat.reduceAdd,Nat.reduceLeDiff,↓reduceIte]
  refine ⟨by omega,i + 1,(r,va',_),⟨aX,?_,?_,by simp;omega,?_⟩,by omega,Ag ?_ rfl⟩
  ·have h1:=xp.set (j:=H.length + 2) (fun l c e=>xp.ne e (.inl (by omega))) (.cells (ag [.ap 0 (ints ps),.ap 0 (ints ss),v,.map H.length,.map (H.length + 1)] 2 [r]))
   rw [ju] at h1
   rw [e2,lh,qP,Nat.zero_add]
   exact h1
  ·have h1:=D7.set (j:=H.length + 2) (fun l c e=>D7.ne e (.inl (by omega))) (.cells (ag [.ap 0 (ints ps),.ap 0 (ints ss),v,.map H.length,.map (H.length + 1)] 2 [r]))
   have ek:ints (aT (ts.take i++[ts.getD i default]) 0)=ints (aT (ts.take i) 0)++[.int .i64 (gW (ts.take i):Nat)]:=by rw [iM,Nat.zero_add];simp [ints]
   rw [e2,ek]
   exact h1
  ·rw [List.take_set,gt',hG]
   simp [ag]
  ·rw [ax i (by omega)]
 ·have mY:i=ts.length:=by omega
  subst mY
  have m8:((ts.length:Int) < ts.length)=False:=eq_false (by omega)
  simp +contextual only [m8,decide_false,sZ,Nat.reduceEqDiff,↓reduceIte]
  rw [List.take_length] at hR hA
  have bz:∀ (l:List Int) (cap n:Nat),(bc zI (ints l) cap).aZ n=true:=fun l cap n=>by
   rw [As]
   simp only [aa.aZ,bu]
   exact ⟨aY _ _,(iz.flat (jR Aq _)).2.2.1 n⟩
  have fin:∀ (G':List aa),H.length + 3≤G'.length→(∀ id l c,va=.a8 id 0 l c→G'[id]?=G[id]?)→G'.take (H.length + 3)=H++[.map [],.map [],jV ps ss (da ts 0) H.length (H.length + 1)]→kZ (mQ H.length) H.length [.t 4,.t 5] [(4,.ptr (H.length + 2) 0),(5,va)] G' (K9 H ps ss ts):=by
   intro G' xb bk ey
   have get3:∀ (j:Nat) (o:aa),H.length≤j→j < H.length + 3→G'[j]?=some o→o.aZ (j + 1)=true:=by
    intro j o h1 h2 ho
    have h3:(G'.take (H.length + 3))[j]?=some o:=by rw [List.getElem?_take,if_pos h2];exact ho
    rw [ey,List.getElem?_append_right h1] at h3
    have:j=H.length∨j=H.length + 1∨j=H.length + 2:=by omega
    rcases this with rfl | rfl | rfl
    ·simp at h3;subst h3;rfl
    ·simp at h3;subst h3;rfl
    ·simp at h3;subst h3;exact yC ps ss _ _
   have tV:∀ id,RO zI (H.length + 3) va (ints (aT ts 0)) (wE H.length id G')→(∀ o,G'[id]?=some o→o.aZ (id + 1)=true)→va.aZ G'.length=true→kZ (mQ H.length) H.length [.t 4,.t 5] [(4,.ptr (H.length + 2) 0),(5,va)] G' (K9 H ps ss ts):=by
    intro id wQ eh hva
    refine Kt (m:=G'.length) (by omega) (Dg get3 eh) (x:=.ptr (H.length + 2) 0) (y:=va) rfl (by simp [au,p3]) (by rw [rV];exact decide_eq_true (by omega)) hva ⟨va,rfl,by rw [E6,ey],by rw [yS];exact xb,wQ⟩
   rcases hA with ⟨e1,rfl⟩ | ⟨id,cap,hk,rfl,hg,hc,eM⟩
   ·exact tV G'.length (.inl ⟨e1,rfl⟩) (fun o ho=>by rw [List.getElem?_eq_none (Nat.le_refl _)] at ho;cases ho) rfl
   ·have ON:=bk _ _ _ rfl
    rw [hg] at ON
    refine tV id (.inr ⟨id,cap,by have:=fun h=>hk (.inl h);omega,rfl,by rw [sG,ON];simp,hc,eM⟩) (fun o ho=>?_) ?_
    ·rw [ON] at ho;cases ho;exact bz _ _ _
    ·rw [jP];exact decide_eq_true (aK ON)
  rw [CH]
  unfold zn
  rw [g2]
  rcases hR with ⟨e1,rfl⟩ | ⟨id,cap,bk,rfl,hg,b9,eM⟩
  ·simp +contextual only [List.getElem?_cons_succ,List.getElem?_cons_zero,p3,sZ,Nat.reduceEqDiff,↓reduceIte,reduceCtorEq]
   refine fin G hl (fun _ _ _ _=>rfl) ?_
   rw [hG,jV,nV,if_pos (CJ e1)]
  ·simp +contextual only [List.getElem?_cons_succ,List.getElem?_cons_zero,p3,sZ,Nat.reduceEqDiff,↓reduceIte,reduceCtorEq]
   have UE:H.length + 3≤id:=by have:=fun h=>bk (.inl h);omega
   refine qH (by decide) Ap (jU _) (fun x hx=>?_) hg b9 ⟨?_,?_,?_⟩
   ·obtain ⟨q,_,rfl⟩:=List.mem_map.1 hx;rfl
   ·rw [List.getElem?_set_ne (by omega)];exact g2
   ·rw [b8];exact v7 _ _
   ·refine fin _ (by simp;omega) (fun id' l c e=>?_) ?_
    ·have h1:id'≠id:=fun e'=>hA.ne e (.inr ⟨_,_,by rw [e']⟩)
     have h2:id'≠H.length + 2:=fun e'=>hA.ne e (.inl (by omega))
     rw [List.getElem?_set_ne (Ne.symm h2),List.getElem?_set_ne (Ne.symm h1)]
    ·rw [List.take_set,List.take_set,hG]
     have e1:∀ X:List aa,X.length≤id→X.set id .dead=X:=fun X h=>List.set_eq_of_length_le h
     rw [e1 _ (by simp;omega),jV,nV,if_neg (fun e=>eM (by rw [e];rfl))]
     simp
end Go.aH
end
section
set_option maxRecDepth 100000
set_option maxHeartbeats 0
namespace Go.aH
open Go Go.Proofs
noncomputable def Qi:=aJ Tryz.call105 Tryz.func105 Tryz.ntmps105 [(5,6,2)] [(0,[0,1,2]),(1,[0,1,2]),(2,[0,1,2,16]),(3,[6]),(4,[0,1,2,7]),(5,[0,7]),(6,[0]),(7,[6])] [(5,(.take 0 true (.take 1 true (.take 2 true (.take 3 true (.take 4 true (.take 5 true (.br 6 (.take 7 true .done) .nil))))))))]
end Go.aH
end
section
set_option maxRecDepth 100000
namespace Go.aH
open Go Go.Proofs Go.fm
theorem spI (A B:List Int) (k:Nat):ag (ints A) k (ints B)=ints (A.take k++B++A.drop (k + B.length)):=by
 unfold ag
 rw [ln,sq,lq,aw,lq]
 rw [List.append_assoc]
theorem sl3 {id i n cap:Nat} (h:i < n) (hc:n≤cap) (φ:AV→Prop):aV 1 (.a8 id 0 n cap) (some (.int .i64 (i:Int))) (some (.int .i64 ((i:Int) + 1))) (some (.int .i64 (n:Int))) φ=φ (.a8 id (if n=i then 0 else 0 + i * 1) ((i + 1) - i) (n - i)):=by
 have e1:((i:Int) + 1).toNat=i + 1:=by omega
 simp only [aV,lQ,dx,Int.toNat_natCast,Option.isSome_some,true_and,e1,eq_iff_iff]
 constructor
 ·rintro ⟨_,_,_,h⟩;exact h.2.2.2
 ·exact fun k=>⟨by omega,by omega,by omega,by omega,by omega,by omega,k⟩
theorem aaR {id i n cap:Nat} (hc:i≤cap) (φ:AV→Prop):aV 1 (.a8 id 0 n cap) none (some (.int .i64 (i:Int))) none φ=φ (.a8 id 0 i cap):=by
 have e:(if cap=0 then 0 else 0 + 0 * 1)=0:=by split <;> simp
 simp only [aV,eO,dx,Int.toNat_natCast,e,Nat.sub_zero,eq_iff_iff]
 constructor
 ·rintro ⟨_,h⟩;exact h.2.2
 ·exact fun k=>⟨by omega,by omega,hc,k⟩
theorem aaS {id i n cap:Nat} (h:i + 1≤n) (hc:n≤cap) (φ:AV→Prop):aV 1 (.a8 id 0 n cap) (some (.int .i64 ((i:Int) + 1))) none none φ=φ (.a8 id (if cap=i + 1 then 0 else 0 + (i + 1) * 1) (n - (i + 1)) (cap - (i + 1))):=by
 have e1:((i:Int) + 1).toNat=i + 1:=by omega
 simp only [aV,eO,dx,e1,eq_iff_iff]
 constructor
 ·rintro ⟨_,h⟩;exact h.2.2
 ·exact fun k=>⟨by omega,h,hc,k⟩
theorem aaT {id l h n cap:Nat} (hl:l < h) (hc:h≤cap) (φ:AV→Prop):aV 1 (.a8 id 0 n cap) (some (.int .i64 (l:Int))) (some (.int .i64 (h:Int))) none φ=φ (.a8 id l (h - l) (cap - l)):=by
 have e:(if cap=l then 0 else 0 + l * 1)=l:=by rw [if_neg (by omega)];omega
 simp only [aV,eO,dx,Int.toNat_natCast,e,eq_iff_iff]
 constructor
 ·rintro ⟨_,_,h⟩;exact h.2.2
 ·exact fun k=>⟨by omega,by omega,by omega,hc,k⟩
theorem aaU (P S pad:List Int) (a:Int) (hb:(P++a::S).length≤1000000000) (id cap:Nat) (b9:cap=(P++a::S++pad).length) {H:List aa} (hg:H[id]?=some (.cells (ints (P++a::S++pad)))) :
 aq Tryz.prog 105 [.a8 id 0 (P.length + 1 + S.length) cap,.int .i64 P.length,.int .i64 ((P.length:Int) + 1)] H fun r H'=>r=.a8 id 0 (P.length + S.length) cap∧H'=H.set id (.cells (ints (P++S++0::pad))):=by
 refine Qi.2.calls rfl ?_
 simp only [Qi,aJ]
 have iR:cap=P.length + 1 + S.length + pad.length:=by rw [b9];simp;omega
 rw [b9] at iR
 have ne:((P.length:Int)=(P.length:Int) + 1)=False:=eq_false (by omega)
 have nr:=aK hg
 have s1:=fun φ=>sl3 (id:=id) (i:=P.length) (n:=P.length + 1 + S.length) (cap:=cap) (by omega) (by omega) φ
 have s2:=fun φ=>aaR (id:=id) (i:=P.length) (n:=P.length + 1 + S.length) (cap:=cap) (by omega) φ
 have s3':=fun φ=>aaS (id:=id) (i:=P.length) (n:=P.length + 1 + S.length) (cap:=cap) (by omega) (by omega) φ
 have un:∀ a b c d,(AV.a8 a b c d).ab=.a8 a b c d:=fun _ _ _ _=>rfl
 have ox1:∀ (env:Env) (i:IX),fY env (some i)=some (al env i):=fun _ _=>rfl
 have ox2:∀ (env:Env),fY env none=none:=fun _=>rfl
 have s4:=fun φ=>aaT (id:=id) (l:=P.length + S.length) (h:=P.length + 1 + S.length) (n:=P.length + S.length) (cap:=cap) (by omega) (by omega) φ
 simp +contextual only [Option.map_some,Option.map_none,ox1,s1,s2,s3',ne,decide_false,un,sZ,Nat.reduceEqDiff,Nat.reduceAdd,↓reduceIte,reduceCtorEq]
 have hnone:∀ a b c d,dw (AV.a8 a b c d)=none:=fun _ _ _ _=>rfl
 have e0:P.length + 1 + S.length - (P.length + 1)=S.length:=by omega
 have eA:P++a::S++pad=(P++[a])++(S++pad):=by simp
 unfold cD
 simp only [hnone,uQ,hg,aw,e0]
 have mW:(if cap=P.length + 1 then 0 else 0 + (P.length + 1) * 1) + S.length * 1≤(P++a::S++pad).length:=by simp only [List.length_append,List.length_cons];split <;> omega
 have htake:(List.take (S.length * 1) (List.drop (if cap=P.length + 1 then 0 else 0 + (P.length + 1) * 1) (ints (P++a::S++pad))))=ints S:=by
  rw [sq,ln,Nat.mul_one]
  congr 1
  by_cases hc:cap=P.length + 1
  ·have:S=[]:=List.length_eq_zero_iff.1 (by omega)
   subst this;simp
  ·rw [if_neg hc,eA,List.drop_left' (by simp),List.take_left]
 rw [if_pos mW]
 simp only [hg,htake,uo,lr,aY]
 refine ⟨?_,trivial,by omega,by rw [aw,← b9];omega,trivial,?_⟩
 ·rw [List.length_drop,aw];simp only [List.length_append,List.length_cons] at mW ⊢;omega
 obtain ⟨x,X,hxX,hXl⟩:∃ x X,(a::S).drop S.length=x::X∧X.length=0:=by
  have hl:((a::S).drop S.length).length=1:=by simp
  cases hd:(a::S).drop S.length with
  | nil=>rw [hd] at hl;simp at hl
  | cons x X=>rw [hd] at hl;exact ⟨x,X,rfl,by simpa using hl⟩
 have hX0:X=[]:=List.length_eq_zero_iff.1 hXl
 subst hX0
 have e1:ag (ints (P++a::S++pad)) (0 + P.length * 1) (ints S)=ints (P++S++x::pad):=by
  rw [spI]
  congr 1
  have h1:(P++a::S++pad).take (0 + P.length * 1)=P:=by rw [List.append_assoc,Nat.zero_add,Nat.mul_one,List.take_left]
  have h2:(P++a::S++pad).drop (0 + P.length * 1 + S.length)=x::pad:=by
   rw [List.append_assoc,Nat.zero_add,Nat.mul_one,← List.drop_drop,List.drop_left,List.drop_append_of_le_length (by simp),hxX];rfl
  rw [h1,h2]
 rw [e1]
 have gs:∀ o,(H.set id o)[id]?=some o:=fun o=>List.getElem?_set_self nr
 have e2:P.length + 1 + S.length - (P.length + S.length)=1:=by omega
 have e3:((P.length + S.length:Nat):Int)=((P.length + S.length:Nat):Int):=rfl
 simp +contextual only [ox1,ox2,s4,un,e2,yh,sZ,Nat.reduceEqDiff,↓reduceIte,reduceCtorEq]
 unfold gK
 have ap1:ch (.int .i64 0) 1=ints [0]:=rfl
 simp only [gs,ap1,uo,lr,aY,aw,spI,List.set_set]
 refine ⟨by simp;omega,trivial,trivial,?_⟩
 have e4:(P++S++x::pad).take (P.length + S.length)++[0]++(P++S++x::pad).drop (P.length + S.length + [(0:Int)].length)=P++S++0::pad:=by
  have hl:(P++S).length=P.length + S.length:=by simp
  rw [← hl,List.take_left,← List.drop_drop,List.drop_left];simp
 rw [e4]
 simp +contextual only [un,sZ,↓reduceIte,reduceCtorEq]
 exact SA (by simp) (by rw [jP];exact decide_eq_true nr) rfl rfl
end Go.aH
end
section
set_option maxRecDepth 100000
namespace Go.aH
open Go Go.Proofs Go.fm
theorem Qj {S:List aa→Prop} (hS:yF S) {Q:Int→Prop} {a:List Int} {id cap:Nat} (hg:∀ G,S G→G[id]?=some (bc zI (ints a) cap)) (hc:a.length≤cap) (la:a.length≤1000000000) (g:Nat) (pre cH:List AV) (b9:cH.map AV.ab=cH) (lK:pre.map AV.ab=pre)
 (hf:∀ x∈a,∀ H,S H→aq Tryz.prog g (pre++[.int .i64 x]++cH) H (SB S (Q x))) {H:List aa} (hH:S H) :
 aq Tryz.prog 100 [.a8 id 0 a.length cap,.fn (.func g) pre cH] H (SI S Q a):=by
 refine BT.2.calls rfl ?_
 simp only [BT,aJ]
 simp +contextual only [sZ,Nat.reduceEqDiff,Nat.reduceAdd,↓reduceIte,reduceCtorEq]
 have fin:∀ (n:Int) (G:List aa),S G→((n=-1∧∀ x∈a,¬ Q x)∨∃ m:Nat,n=m∧m < a.length∧Q (a.getD m 0)∧∀ j,j < m→¬ Q (a.getD j 0))→bR H.length [.t 4] [(4,.int .i64 n)] G (SI S Q a):=by
  intro n G hG hn
  refine aO H.length (Nat.le_refl _) (by rw [au,if_pos rfl];rfl) ?_
  rw [au,if_pos rfl,List.take_of_length_le (by rw [hS H G hH hG];exact Nat.le_refl _)]
  refine ⟨hG,?_⟩
  rcases hn with ⟨rfl,h⟩ | ⟨m,rfl,h⟩
  ·exact .inl ⟨rfl,h⟩
  ·exact .inr ⟨m,rfl,h⟩
 refine aE a.length (fun i (G:List aa)=>S G∧∀ j,j < i→¬ Q (a.getD j 0))
  (fun i G=>[(0,.a8 id 0 a.length cap),(1,.fn (.func g) pre cH),(7,.int .i64 a.length),(8,.int .i64 i)]) (fun i G=>G) H ⟨⟨hH,fun j hj=>by omega⟩,aA _ _ _⟩ fun i G hi hI=>?_
 obtain ⟨hG,hq⟩:=hI
 by_cases aX:i < a.length
 ·have m8:((i:Int) < a.length)=True:=eq_true (by omega)
  simp +contextual only [m8,decide_true,kO,hg G hG,F7 aX,b9,lK,sZ,Nat.reduceEqDiff,Nat.reduceAdd,↓reduceIte,reduceCtorEq]
  refine ⟨by omega,af (hf _ (aN (by omega)) G hG) ?_⟩
  rintro r G' ⟨x,rfl,hx,ey⟩
  cases x with
  | false=>
    simp +contextual only [sZ,Nat.reduceEqDiff,↓reduceIte,reduceCtorEq]
    refine ⟨i + 1,G',⟨by omega,ey,fun j hj=>?_⟩,by omega,aI (by rw [ax i (by omega)]) rfl⟩
    by_cases h:j=i
    ·subst h;exact fun h=>absurd (hx.2 h) (by simp)
    ·exact hq j (by omega)
  | true=>
    simp +contextual only [sZ,Nat.reduceEqDiff,↓reduceIte,reduceCtorEq]
    exact fin _ _ ey (.inr ⟨i,rfl,by omega,hx.1 rfl,hq⟩)
 ·have m8:((i:Int) < a.length)=False:=eq_false (by omega)
  simp +contextual only [m8,decide_false,sZ,Nat.reduceEqDiff,↓reduceIte,reduceCtorEq]
  refine fin _ _ hG (.inl ⟨rfl,fun x hx=>?_⟩)
  obtain ⟨j,hj,rfl⟩:=List.getElem_of_mem hx
  have:=hq j (by omega)
  simpa [hj] using this
theorem Xq {S:List aa→Prop} (hS:yF S) {Q:Int→Prop} {a:List Int} {id cap:Nat} (hg:∀ G,S G→G[id]?=some (bc zI (ints a) cap)) (hc:a.length≤cap) (la:a.length≤1000000000) (g:Nat) (pre cH:List AV) (b9:cH.map AV.ab=cH) (lK:pre.map AV.ab=pre)
 (hf:∀ x∈a,∀ H,S H→aq Tryz.prog g (pre++[.int .i64 x]++cH) H (SB S (Q x))) {H:List aa} (hH:S H) :
 aq Tryz.prog 102 [.a8 id 0 a.length cap,.fn (.func g) pre cH] H (SB S (∃ x∈a,Q x)):=by
 refine BU.2.calls rfl ?_
 simp only [BU,aJ]
 simp +contextual only [sZ,Nat.reduceEqDiff,Nat.reduceAdd,↓reduceIte,reduceCtorEq]
 refine af (Qj hS hg hc la g pre cH b9 lK hf hH) ?_
 rintro r G ⟨hG,⟨rfl,h⟩ | ⟨n,rfl,h1,h2,_⟩⟩
 ·simp +contextual only [sZ,↓reduceIte,reduceCtorEq]
  exact At hS (b:=false) (by simp) ⟨fun h=>by simp at h,fun ⟨x,hx,h'⟩=>absurd h' (h x hx)⟩ hH hG
 ·simp +contextual only [sZ,↓reduceIte,reduceCtorEq]
  exact At hS (b:=true) (by simp) ⟨fun _=>⟨_,aN h1,h2⟩,fun _=>rfl⟩ hH hG
def SG (c:Cx) (G H:List aa):Prop:=Du c H∧Up c G H
theorem SG.len (c:Cx) (G:List aa):yF (SG c G):=fun H H' h h'=>h'.2.len.trans h.2.len.symm
theorem aaV {c:Cx} (hc:c.Ok) {i x:Int} (hi:c.dP i) (hx:c.dP x) {t9:Nat} {G:List aa} (h9:G[t9]?=some (.cells [.ptr c.d 0])) (n1:t9≠c.e) (n2:t9≠c.g) (H:List aa) (hH:SG c G H) :
 aq Tryz.prog 103 ([]++[.int .i64 x]++[.ptr t9 0,.ai (.int .i64 i)]) H (SB (SG c G) (R c.O (c.tm i) (c.tm x))):=by
 refine UN.2.calls rfl ?_
 simp only [UN,aJ,List.nil_append,List.cons_append]
 have h9':H[t9]?=some (.cells [.ptr c.d 0]):=by rw [hH.2.get t9 n1 n2,h9]
 simp +contextual only [h9',sZ,Nat.reduceEqDiff,Nat.reduceAdd,Nat.reduceLT,↓reduceIte,reduceCtorEq]
 refine af (jX hc hi hx H hH.1) ?_
 rintro r G' ⟨b,rfl,hb,hU,hD⟩
 simp +contextual only [sZ,↓reduceIte,reduceCtorEq]
 exact At (SG.len c G) rfl hb hH ⟨hD,hH.2.trans hU⟩
theorem aaW {c:Cx} (hc:c.Ok) {i:Int} (hi:c.dP i) {t9 t10 id cap:Nat} {l:List Int} {G:List aa} (hl:∀ x∈l,c.dP x) (za:l.length≤cap) (LB:l.length≤1000000000)
 (h9:G[t9]?=some (.cells [.ptr c.d 0])) (n1:t9≠c.e) (n2:t9≠c.g)
 (YT:G[t10]?=some (.cells [.a8 id 0 l.length cap])) (m1:t10≠c.e) (m2:t10≠c.g)
 (hg:G[id]?=some (bc zI (ints l) cap)) (k1:id≠c.e) (k2:id≠c.g) (H:List aa) (hH:SG c G H) :
 aq Tryz.prog 101 ([]++[.int .i64 i]++[.ptr t10 0,.ptr t9 0]) H (SB (SG c G) (¬ ∃ x∈l,R c.O (c.tm i) (c.tm x))):=by
 refine UM.2.calls rfl ?_
 simp only [UM,aJ,List.nil_append,List.cons_append]
 have aaX:H[t10]?=some (.cells [.a8 id 0 l.length cap]):=by rw [hH.2.get t10 m1 m2,YT]
 simp +contextual only [aaX,sZ,Nat.reduceEqDiff,Nat.reduceAdd,Nat.reduceLT,↓reduceIte,reduceCtorEq]
 refine af (Xq (SG.len c G) (fun G' ey=>by rw [ey.2.get id k1 k2,hg]) za LB 103 [] [.ptr t9 0,.ai (.int .i64 i)] rfl rfl (fun x hx H' hH'=>aaV hc hi (hl x hx) h9 n1 n2 H' hH') hH) ?_
 rintro r G' ⟨b,rfl,hb,hG⟩
 simp +contextual only [sZ,↓reduceIte,reduceCtorEq]
 refine At (SG.len c G) (b:=!b) (by simp) ?_ hH hG
 rw [← hb];cases b <;> simp
end Go.aH
end
section
set_option maxRecDepth 100000
set_option maxHeartbeats 0
namespace Go.aH
open Go Go.Proofs
noncomputable def Xr:=aJ Tryz.call37 Tryz.func37 Tryz.ntmps37 [(0,0,1),(0,1,1),(9,2,2000),(10,0,1),(10,12,2000),(10,15,1),(11,4,2000)] [(0,[2,3,4]),(1,[2,4,8]),(2,[2,4,8,18]),(3,[6,7]),(4,[2,4,22]),(5,[6,7]),(6,[9,10]),(7,[9,10,11]),(8,[9,10,11,31]),(9,[9,10,11,12]),(10,[9,10,11,12]),(11,[9,10,11]),(12,[6,7])] [(10,(.take 1 true (.take 2 true (.take 3 true (.take 4 true (.take 5 true (.take 6 true (.take 7 true (.take 8 true (.take 9 true (.take 10 true (.take 11 true (.br 0 (.br 12 (.take 13 true (.br 14 (.br 15 .done .nil) .nil)) .nil) (.br 12 (.take 13 true (.br 0 (.br 14 (.br 15 .done .nil) .nil) .nil)) .nil))))))))))))))]
noncomputable def Qk:=aJ Tryz.call104 Tryz.func104 Tryz.ntmps104 [(1,4,2),(5,4,2000),(7,0,3003)] [(0,[1,2]),(1,[1,2]),(2,[1,2,10,11,12]),(3,[1,2,10,11,12,13]),(4,[1,2,3,4,10,11,12]),(5,[1,2,10,11,12]),(6,[1,2,10,11,12]),(7,[2])] [(5,(.take 3 true (.take 0 false (.take 2 false (.br 1 (.br 4 (.take 5 true (.br 6 .done .nil)) .nil) (.br 4 (.take 1 true (.take 5 true (.br 6 .done .nil))) .nil))))))]
end Go.aH
end
section
set_option maxRecDepth 100000
namespace Go.aH
open Go Go.Proofs Go.fm
def zT:AV:=.agg [.int .i64 0,.int .i64 0,.ah]
theorem Lb:iz 3 (bL zT):=⟨rfl,rfl,rfl,rfl⟩
theorem tC (t:T):t.av=.agg [.int .i64 t.k,.int .i64 t.n,.ap 0 (bW t.l)]:=by cases t;rfl
theorem wF (t:T):iz 3 t.av:=by
 rw [tC]
 exact ⟨rfl,rfl,by simp [AV.cells,dI,bG,cZ,gb,b8],rfl⟩
theorem Gl {l:List T} {x:AV} (h:x∈bW l):∃ t∈l,x=t.av:=by
 induction l with
 | nil=>cases h
 | cons y r ih=>
   rcases List.mem_cons.1 h with rfl | h
   ·exact ⟨y,List.mem_cons_self,rfl⟩
   ·obtain ⟨t,ht,e⟩:=ih h;exact ⟨t,List.mem_cons_of_mem _ ht,e⟩
theorem oM (l:List T):∀ x∈bW l,iz 3 x:=by
 intro x hx;obtain ⟨t,_,rfl⟩:=Gl hx;exact wF t
theorem Gm {l:List T} {i:Nat} (h:i < l.length):(bW l).getD i .any=(l.getD i default).av:=by
 induction l generalizing i with
 | nil=>simp at h
 | cons x r ih=>
   cases i with
   | zero=>rfl
   | succ i=>simpa [bW] using ih (i:=i) (by simpa using h)
theorem iP (l:List T):(bW l).length=l.length:=by induction l with | nil=>rfl | cons x r ih=>simp [bW,ih]
def CT (base:Nat) (v:AV) (l:List T) (G:List aa):Prop:=
 (l=[]∧v=.ah)∨∃ id cap,base≤id∧v=.a8 id 0 l.length cap∧G[id]?=some (bc zT (bW l) cap)∧l.length≤cap
theorem CT.one {base:Nat} {v:AV} {l:List T} {G:List aa} (h:CT base v l G):v.one=true∧v.val=true∧v.ab=v∧v.cells=[v]:=by
 rcases h with ⟨_,rfl⟩ | ⟨id,cap,_,rfl,_⟩ <;> exact ⟨rfl,rfl,rfl,rfl⟩
theorem CT.aZ {base:Nat} {v:AV} {l:List T} {G:List aa} (h:CT base v l G) {n:Nat} (hn:G.length≤n):v.aZ n=true:=by
 rcases h with ⟨_,rfl⟩ | ⟨id,cap,_,rfl,c,_⟩
 ·rfl
 ·have:=(List.getElem?_eq_some_iff.1 c).1
  rw [jP];simp;omega
theorem CT.len {base:Nat} {v:AV} {l:List T} {G:List aa} (h:CT base v l G) {H:List aa} (φ:AV→Prop):fq v H φ=φ (.int .i64 l.length):=by
 rcases h with ⟨rfl,rfl⟩ | ⟨id,cap,_,rfl,_⟩ <;> rfl
theorem CT.aL {base:Nat} {v:AV} {l:List T} {G:List aa} (h:CT base v l G):aL 1 v=True:=by
 rcases h with ⟨rfl,rfl⟩ | ⟨id,cap,_,rfl,_⟩ <;> rfl
theorem Lc (o:Nat) (φ:AV→Prop):dj 0 false (.ap o []) φ=(φ (.bool true)∧φ (.bool false)):=by simp [dj,isNil]
theorem Dh (o:Nat) (x:AV) (r:List AV) (φ:AV→Prop):dj 0 false (.ap o (x::r)) φ=φ (.bool false):=by simp [dj,isNil]
theorem Ld {esz bytes:Nat} {z:AV} {id o:Nat} {G:List aa} (bk:G[id]?=some (.cells [])) {K:AV→List aa→Prop} (hK:K (.a8 id 0 0 0) G):cD esz bytes z (.a8 id 0 0 0) (.ap o []) G K:=by
 unfold cD
 simp only [dw,bk]
 refine ⟨fun y h=>by simp at h,by simp,Nat.le_refl _,by simp,fun _=>⟨by simp [flat,aj],?_⟩,fun h=>absurd h (by simp)⟩
 have e:ag ([]:List AV) ((0 + 0) * esz) (List.map AV.ab (flat []))=[]:=by simp [ag,flat]
 simp only [flat,ag,List.flatMap_nil,List.map_nil,List.length_nil,List.append_nil,List.take_nil,List.drop_nil]
 rw [EP bk]
 exact hK
theorem aaZ (l:List T) (H:List aa) (hb:l.length * 40≤140737488355328):aq Tryz.prog 58 [.ap 0 (bW l)] H fun r H'=>CT H.length r l H'∧H'.take H.length=H∧H.length≤H'.length:=by
 refine V1.2.calls rfl ?_
 simp only [V1,aJ]
 cases l with
 | nil=>
   simp +contextual only [bW,Lc,qF,pW,sZ,Nat.reduceEqDiff,Nat.reduceAdd,↓reduceIte,reduceCtorEq]
   refine ⟨aO H.length (Nat.le_refl _) (by rw [au,if_pos rfl];rfl) ⟨.inl ⟨rfl,by rw [au,if_pos rfl]⟩,by simp,by simp⟩,?_⟩
   refine ⟨rfl,Ld (by simp [flat]) ?_⟩
   simp +contextual only [sZ,↓reduceIte,reduceCtorEq]
   refine aO (H.length + 1) (by omega) (by rw [au,if_pos rfl,jP];exact decide_eq_true (by omega)) ?_
   rw [au,if_pos rfl,List.take_of_length_le (by simp)]
   exact ⟨.inr ⟨H.length,0,Nat.le_refl _,rfl,by simp [bc,bW,flat,ch],Nat.le_refl _⟩,by simp,by simp⟩
 | cons v r=>
   simp +contextual only [bW,Dh,qF,pW,sZ,Nat.reduceEqDiff,Nat.reduceAdd,↓reduceIte,reduceCtorEq]
   refine ⟨rfl,Ar Lb (by simp [flat]) (bW (v::r)) (by simp [bW]) (oM _) (by rw [iP];exact hb) (base:=H.length) (by simp) fun v' G' hR hG hl=>?_⟩
   obtain ⟨o1,o2,o3,o4⟩:=hR.one
   simp +contextual only [o3,sZ,↓reduceIte,reduceCtorEq]
   have xb:H.length≤G'.length:=by simp at hl;omega
   refine aO G'.length xb (by rw [au,if_pos rfl];exact hR.aZ (Nat.le_refl _)) ?_
   rw [au,if_pos rfl,List.take_length]
   refine ⟨?_,by rw [hG];simp,xb⟩
   rcases hR with ⟨h,_⟩ | ⟨id,cap,a,b,c,d,_⟩
   ·cases h
   ·rw [iP] at b d;exact .inr ⟨id,cap,a,b,c,d⟩
theorem loadT {l:List T} {cap i:Nat} (h:i < l.length) (φ:AV→Prop):c8 (some (bc zT (bW l) cap)) (some 3) (i * 3) φ=φ (l.getD i default).av:=by
 obtain ⟨g1,_⟩:=iz.flat (oM l)
 rw [iP] at g1
 have h1:=pD (oM l) i (by rw [iP];exact h)
 rw [Gm h] at h1
 have Gh:(l.getD i default).av.cells.length=3:=(wF _).len
 have e:((flat (bW l)++ch zT (cap - (bW l).length)).drop (i * 3)).take 3=(l.getD i default).av.cells:=by
  rw [List.drop_append_of_le_length (by omega),h1,List.append_assoc,List.take_append_of_le_length (by omega),List.take_of_length_le (by omega)]
 simp only [bc,c8,e,eq_iff_iff,List.length_append]
 have e2:AV.agg ((l.getD i default).av.cells.map AV.drop)=(l.getD i default).av:=by rw [tC];rfl
 rw [e2]
 constructor
 ·exact fun h=>h.2
 ·exact fun h2=>⟨by omega,h2⟩
theorem storeT {l:List T} {cap i id:Nat} (h:i < l.length) {H:List aa} (hg:H[id]?=some (bc zT (bW l) cap)) {K:List aa→Prop} (hK:K H):iw (some (bc zT (bW l) cap)) 3 id (i * 3) (l.getD i default).av H K:=by
 obtain ⟨g1,_⟩:=iz.flat (oM l)
 rw [iP] at g1
 have h1:=pD (oM l) i (by rw [iP];exact h)
 rw [Gm h] at h1
 have ho:=wF (l.getD i default)
 have Gh:=ho.len
 have hs:ag (flat (bW l)++ch zT (cap - (bW l).length)) (i * 3) ((l.getD i default).av.cells.map AV.ab)=flat (bW l)++ch zT (cap - (bW l).length):=by
  rw [ho.un]
  unfold ag
  have e1:(flat (bW l)++ch zT (cap - (bW l).length)).drop (i * 3)=(l.getD i default).av.cells++(flat ((bW l).drop (i + 1))++ch zT (cap - (bW l).length)):=by
   rw [List.drop_append_of_le_length (by omega),h1,List.append_assoc]
  have e2:(flat (bW l)++ch zT (cap - (bW l).length)).drop (i * 3 + (l.getD i default).av.cells.length)=flat ((bW l).drop (i + 1))++ch zT (cap - (bW l).length):=by
   rw [← List.drop_drop,e1,List.drop_left]
  rw [e2,← e1,List.take_append_drop]
 have hv:(l.getD i default).av.val=true:=by rw [tC];rfl
 simp only [bc,iw]
 refine ⟨hv,Gh,by rw [List.length_append];omega,ho.one,by rw [ho.un];exact bD (Nat.zero_le _) _ ho.bl,?_⟩
 rw [hs,show (aa.cells (flat (bW l)++ch zT (cap - (bW l).length)))=bc zT (bW l) cap from rfl,EP hg]
 exact hK
theorem CT.set {base:Nat} {v:AV} {l:List T} {G:List aa} (h:CT base v l G) {j:Nat} (hj:j < base) (o:aa):CT base v l (G.set j o):=by
 rcases h with h | ⟨id,cap,a,b,c,d⟩
 ·exact .inl h
 ·exact .inr ⟨id,cap,a,b,by rw [List.getElem?_set_ne (by omega)];exact c,d⟩
theorem CT.sn {base:Nat} {v:AV} {l:List T} {G:List aa} (h:CT base v l G) (X:List aa):CT base v l (G++X):=by
 rcases h with h | ⟨id,cap,a,b,c,d⟩
 ·exact .inl h
 ·exact .inr ⟨id,cap,a,b,by rw [List.getElem?_append_left (aK c)];exact c,d⟩
theorem CT.get {base:Nat} {v:AV} {l:List T} {G:List aa} (h:CT base v l G) {i:Nat} (hi:i < l.length):∃ id cap,base≤id∧v=.a8 id 0 l.length cap∧G[id]?=some (bc zT (bW l) cap)∧l.length≤cap:=by
 rcases h with ⟨rfl,_⟩ | h
 ·simp at hi
 ·exact h
theorem aa0:∀ (n:Nat) (t:T),wt t≤n→wt t≤1000000000→Pure Tryz.prog 104 [t.av] t.av:=by
 intro n
 induction n with
 | zero=>intro t h;have:=gg t;omega
 | succ n ih=>
   intro t hn hb H
   refine Qk.2.Eh rfl ?_
   simp only [Qk,aJ]
   have hw:=CG t
   have Yj:=iE t.l
   rw [tC]
   simp +contextual only [sZ,Nat.reduceEqDiff,Nat.reduceAdd,Nat.reduceLT,↓reduceIte]
   have xT:(H++[aa.cells [.int .i64 t.k,.int .i64 t.n,.ap 0 (bW t.l)],.cells [.int .i64 0,.int .i64 0,.ah]]).length=H.length + 2:=by simp
   refine af (aaZ t.l _ (by omega)) ?_
   rintro v G ⟨hC,hG,hl⟩
   rw [xT] at hC hG hl
   obtain ⟨o1,o2,o3,o4⟩:=hC.one
   have g0:G[H.length]?=some (.cells [.int .i64 t.k,.int .i64 t.n,.ap 0 (bW t.l)]):=by
    have:(G.take (H.length + 2))[H.length]?=G[H.length]?:=by rw [List.getElem?_take,if_pos (by omega)]
    rw [← this,hG];simp
   have g1:G[H.length + 1]?=some (.cells [.int .i64 0,.int .i64 0,.ah]):=by
    have:(G.take (H.length + 2))[H.length + 1]?=G[H.length + 1]?:=by rw [List.getElem?_take,if_pos (by omega)]
    rw [← this,hG];simp
   have ey:G.take H.length=H:=by
    have:G.take H.length=(G.take (H.length + 2)).take H.length:=by rw [List.take_take];congr 1;omega
    rw [this,hG];simp
   have Xs:=hC.aZ (Nat.le_refl _)
   have Dq:H.length < G.length:=by omega
   have gB:∀ o,(G.set H.length o)[H.length]?=some o:=fun o=>List.getElem?_set_self Dq
   simp +contextual only [rY,o1,o2,o3,o4,g0,Xs,gB,hC.aL,hC.len,sZ,Nat.reduceEqDiff,Nat.reduceAdd,Nat.reduceLT,↓reduceIte]
   refine mn t.l.length (fun i (G:List aa)=>CT (H.length + 2) v t.l G∧G[H.length]?=some (.cells [.int .i64 t.k,.int .i64 t.n,v])∧G[H.length + 1]?=some (.cells [.int .i64 0,.int .i64 0,.ah])∧G.take H.length=H)
    (fun i G=>[(1,.ptr H.length 0),(2,.ptr (H.length + 1) 0),(10,v),(11,.int .i64 t.l.length),(12,.int .i64 i)]) (fun i G=>G) (G.set H.length (.cells [.int .i64 t.k,.int .i64 t.n,v]))
    ⟨⟨hC.set (by omega) _,gB _,by rw [List.getElem?_set_ne (by omega)];exact g1,by rw [List.take_set_of_le (by omega)];exact ey⟩,oD _ _ _⟩ fun i G hi hI=>?_
   clear hG g0 g1 ey Xs Dq gB hl hC
   obtain ⟨hC,g0,g1,hG⟩:=hI
   by_cases aX:i < t.l.length
   ·have m8:((i:Int) < t.l.length)=True:=eq_true (by omega)
    obtain ⟨id,cap,bk,rfl,hg,b9⟩:=hC.get aX
    have xT:=aK hg
    have ON:∀ X,(G++X)[id]?=some (bc zT (bW t.l) cap):=fun X=>by rw [List.getElem?_append_left xT];exact hg
    have g0':∀ X,(G++X)[H.length]?=some (.cells [.int .i64 t.k,.int .i64 t.n,.a8 id 0 t.l.length cap]):=fun X=>by rw [List.getElem?_append_left (aK g0)];exact g0
    have hx:=tC (t.l.getD i default)
    have hL:∀ φ,c8 (some (bc zT (bW t.l) cap)) (some 3) (i * 3) φ=φ (.agg [.int .i64 (t.l.getD i default).k,.int .i64 (t.l.getD i default).n,.ap 0 (bW (t.l.getD i default).l)]):=fun φ=>by rw [← hx];exact loadT aX φ
    have hwx:wt (t.l.getD i default)≤gW t.l:=by
     have:=nU aX;have:=dl t.l (i + 1);omega
    have hcall:=ih (t.l.getD i default) (by omega) (by omega)
    rw [hx] at hcall
    have hS:=fun {H':List aa} (hg:H'[id]?=some (bc zT (bW t.l) cap)) {K:List aa→Prop} (hK:K H')=>storeT (id:=id) aX hg hK
    rw [hx] at hS
    simp +contextual only [m8,decide_true,kO,hg,hL,g0',sZ,Nat.reduceEqDiff,Nat.reduceAdd,Nat.reduceLT,↓reduceIte,reduceCtorEq]
    refine ⟨aX,ae hcall ?_,ae hcall ?_⟩
    all_goals
     simp +contextual only [kO,g0',ON,sZ,Nat.reduceEqDiff,Nat.reduceAdd,Nat.reduceLT,↓reduceIte,reduceCtorEq]
     refine ⟨aX,hS (ON _) ?_⟩
     simp +contextual only [sZ,Nat.reduceEqDiff,↓reduceIte]
     refine ⟨i + 1,_,⟨aX,hC.sn _,g0' _,by rw [List.getElem?_append_left (aK g1)];exact g1,by rw [List.take_append_of_le_length (by have:=aK g1;omega)];exact hG⟩,by omega,Ag (by rw [ax i (by omega)]) rfl⟩
   ·have mY:i=t.l.length:=by omega
    have m8:((i:Int) < t.l.length)=False:=eq_false (by omega)
    simp +contextual only [rY,m8,decide_false,g0,sZ,Nat.reduceEqDiff,↓reduceIte]
    have fin:∀ (G':List aa),G'[H.length + 1]?=some (.cells [.int .i64 t.k,.int .i64 t.n,.ap 0 (bW t.l)])→G'.take H.length=H→c8 G'[H.length + 1]? (some 3) 0 fun v=>vQ (mQ H.length) H.length v G' fun r H'=>r=AV.agg [AV.int IntKind.i64 t.k,AV.int IntKind.i64 t.n,AV.ap 0 (bW t.l)]∧H'=H:=by
     intro G' h1 h2
     rw [h1,FU]
     exact ⟨H.length,H,Nat.le_refl _,HR h2 rfl,_,le_refl _,by simp [AV.drop,vI,bG,cZ,gb,b8,dI],rfl,rfl⟩
    have ls:∀ (l:List AV) (G':List aa),(∀ o,(G'.set (H.length + 1) o).take H.length=G'.take H.length):=fun l G' o=>List.take_set_of_le (by omega)
    have tT:=aK g1
    rcases hC with ⟨e,rfl⟩ | ⟨id,cap,bk,rfl,hg,b9⟩
    ·rw [e] at fin ⊢
     have e1:∀ (K:AV→List aa→Prop),dC 3 AV.ah.drop G K=K (.ap 0 []) G:=fun K=>rfl
     rw [e1]
     simp +contextual only [rY,g1,sZ,Nat.reduceEqDiff,Nat.reduceAdd,↓reduceIte,reduceCtorEq]
     exact fin _ (List.getElem?_set_self tT) (by rw [List.take_set_of_le (by omega)];exact hG)
    ·have e1:∀ l c,(AV.a8 id 0 l c).drop=.a8 id 0 l c:=fun _ _=>rfl
     rw [e1]
     have ef:=fun K hK=>qH (esz:=3) (by decide) Lb (oM t.l) (fun x hx=>by obtain ⟨y,_,rfl⟩:=Gl hx;rw [tC];rfl) hg (by rw [iP];exact b9) (K:=K) hK
     rw [iP] at ef
     refine ef _ ?_
     have g1':(G.set id .dead)[H.length + 1]?=some (.cells [.int .i64 0,.int .i64 0,.ah]):=by rw [List.getElem?_set_ne (by omega)];exact g1
     simp +contextual only [rY,g1',sZ,Nat.reduceEqDiff,Nat.reduceAdd,↓reduceIte,reduceCtorEq]
     exact fin _ (List.getElem?_set_self (by simpa using tT)) (by rw [List.take_set_of_le (by omega),List.take_set_of_le (by omega)];exact hG)
end Go.aH
end
section
set_option maxRecDepth 100000
namespace Go.aH
open Go Go.Proofs Go.fm
def Lf (r:T→T→Bool) (l:List T):Nat:=l.findIdx fun a=>l.all fun x=>!r a x
def xn (r:T→T→Bool):Nat→List T→List T
 | 0,_=>[]
 | n + 1,l=>l.getD (Lf r l) default::xn r n (l.eraseIdx (Lf r l))
theorem Ql {r:T→T→Prop} (hi:∀ a,¬ r a a) (ht:∀ a b c,r a b→r b c→r a c):∀ l:List T,l≠[]→∃ a∈l,∀ x∈l,¬ r a x
 | [],h=>absurd rfl h
 | [a],_=>⟨a,List.mem_cons_self,fun x hx=>by rcases List.mem_cons.1 hx with rfl | hx;exact hi _;cases hx⟩
 | a::b::l,_=>by
   obtain ⟨m,hm,hl⟩:=Ql hi ht (b::l) (by simp)
   by_cases h:r m a
   ·refine ⟨a,List.mem_cons_self,fun x hx=>?_⟩
    rcases List.mem_cons.1 hx with rfl | hx
    ·exact hi _
    ·exact fun h'=>hl x hx (ht _ _ _ h h')
   ·refine ⟨m,List.mem_cons_of_mem _ hm,fun x hx=>?_⟩
    rcases List.mem_cons.1 hx with rfl | hx
    ·exact h
    ·exact hl x hx
noncomputable def xy (s:Sg) (ps ss:List Int) (ts:List T):List T×Int:=
 if iA s ps ss ts=0 then if 1000 < ts.length then ([],2) else (xn (Ib ps ss) ts.length ts,0) else ([],iA s ps ss ts)
theorem OO (n:Nat):ch zI n=ints (List.replicate n 0):=by
 induction n with
 | zero=>rfl
 | succ n ih=>
   have e:ch zI (n + 1)=.int .i64 0::ch zI n:=rfl
   rw [e,ih];rfl
theorem Di (l:List Int) (cap:Nat):bc zI (ints l) cap=.cells (ints (l++List.replicate (cap - l.length) 0)):=by
 rw [As,OO,lq]
theorem Xt {L:List Int} {n id cap:Nat} (hn:n < L.length) (hc:L.length≤cap) (hb:L.length≤1000000000) {H:List aa} (hg:H[id]?=some (bc zI (ints L) cap)) :
 aq Tryz.prog 105 [.a8 id 0 L.length cap,.int .i64 (n:Int),.int .i64 ((n:Int) + 1)] H fun r H'=>r=.a8 id 0 (L.eraseIdx n).length cap∧H'=H.set id (bc zI (ints (L.eraseIdx n)) cap):=by
 have e1:L=L.take n++L.getD n 0::L.drop (n + 1):=by
  have:L.getD n 0=L[n]:=by simp [hn]
  rw [this,← List.drop_eq_getElem_cons hn,List.take_append_drop]
 have e2:L.eraseIdx n=L.take n++L.drop (n + 1):=List.eraseIdx_eq_take_drop_succ ..
 have l1:(L.take n).length=n:=by simp;omega
 have l2:(L.drop (n + 1)).length=L.length - (n + 1):=by simp
 have hp:(L.take n++L.getD n 0::L.drop (n + 1)++List.replicate (cap - L.length) 0).length=cap:=by rw [← e1];simp;omega
 have ON:H[id]?=some (.cells (ints (L.take n++L.getD n 0::L.drop (n + 1)++List.replicate (cap - L.length) 0))):=by rw [← e1,← Di];exact hg
 have h:=aaU (L.take n) (L.drop (n + 1)) (List.replicate (cap - L.length) 0) (L.getD n 0) (by rw [← e1];exact hb) id cap hp.symm ON
 have el:L.take n++L.drop (n + 1)++0::List.replicate (cap - L.length) 0=L.eraseIdx n++List.replicate (cap - (L.eraseIdx n).length) 0:=by
  rw [e2]
  congr 1
  rw [List.length_append,l1,l2,show cap - (n + (L.length - (n + 1)))=(cap - L.length) + 1 by omega]
  rfl
 have ll:(L.eraseIdx n).length=(L.take n).length + (L.drop (n + 1)).length:=by rw [e2,List.length_append]
 rw [el,l1,l2,show n + 1 + (L.length - (n + 1))=L.length by omega] at h
 rw [Di,ll,l1,l2]
 rw [ll,l1,l2] at h
 exact h
theorem Lg {r:T→T→Bool} {l:List T} {n:Nat} (hn:n < l.length) (h1:∀ x∈l,r (l.getD n default) x=false) (h2:∀ j,j < n→∃ x∈l,r (l.getD j default) x=true):Lf r l=n:=by
 unfold Lf
 rw [List.findIdx_eq hn]
 refine ⟨?_,fun j hj=>?_⟩
 ·have e:l[n]=l.getD n default:=by simp [hn]
  rw [e,List.all_eq_true]
  intro x hx;rw [h1 x hx];rfl
 ·obtain ⟨x,hx,h⟩:=h2 j hj
  have pO:j < l.length:=by omega
  have e:l[j]=l.getD j default:=by simp [pO]
  rw [e,List.all_eq_false]
  exact ⟨x,hx,by rw [h];simp⟩
theorem wG {c:Cx} {L:List Int} {n:Nat} (h:n < L.length):(L.map c.tm).getD n default=c.tm (L.getD n 0):=by simp [h]
theorem Gn {Hs G:List aa} {n0:Nat} {l:List T} {e:Int} {u:AV} (hu:u.ab.le (.ap 0 (bW l))) (hH:Hs.take n0=G):bR n0 [.t 6,.t 7] [(6,u),(7,.int .i64 e)] Hs (fun r H'=>r=.tuple [.ap 0 (bW l),.int .i64 e]∧H'=G):=by
 subst hH
 refine ⟨n0,Nat.le_refl _,[.ap 0 (bW l),.int .i64 e],?_,by simp [aj,b8,dI,gb],rfl,rfl⟩
 exact ⟨hu,le_refl _,trivial⟩
theorem mK (vs:List T):(sl vs).ab.le (.ap 0 (bW vs)):=by
 cases vs with
 | nil=>exact .inr (.inr (.inr (.inl ⟨rfl,0,rfl⟩)))
 | cons v r=>exact le_refl _
theorem Du.Tv {c:Cx} {H:List aa} {n:Nat} (h:Du c (H.take n)) (hn:True):Du c H:=by
 have hg:∀ {j:Nat} {o:aa},(H.take n)[j]?=some o→H[j]?=some o:=by
  intro j o h
  rw [List.getElem?_take] at h
  split at h
  ·exact h
  ·cases h
 exact ⟨hg h.d,by obtain ⟨m,h1,h2⟩:=h.e;exact ⟨m,hg h1,h2⟩,by obtain ⟨m,h1,h2⟩:=h.g;exact ⟨m,hg h1,h2⟩⟩
theorem c37 (s:Sg) (ps ss:List Int) (ts:List T) (hlen:ts.length < 9223372036854775808):Pure Tryz.prog 37 [s.av,gn ps ss,.ap 0 (bW ts)] (.tuple [.ap 0 (bW (xy s ps ss ts).1),.int .i64 (xy s ps ss ts).2]):=by
 refine fun H=>Xr.2.calls rfl ?_
 simp only [Xr,aJ]
 obtain ⟨q1,q2,q3,q4,q5,q6⟩:=bF ps ss
 simp +contextual only [aU,q1,q4,bU,sZ,Nat.reduceEqDiff,Nat.reduceAdd,↓reduceIte,reduceCtorEq]
 refine ae (WO s ps ss ts) ?_
 by_cases h0:iA s ps ss ts=0
 ·by_cases L9:1000 < ts.length
  ·have e:xy s ps ss ts=([],2):=by unfold xy;rw [if_pos h0,if_pos L9]
   have eh:((1000:Int) < ts.length)=True:=eq_true (by omega)
   rw [e]
   simp +contextual only [h0,eh,decide_true,hlen,sZ,Nat.reduceEqDiff,↓reduceIte,reduceCtorEq]
   exact Gn (mK []) List.take_length
  ·have e:xy s ps ss ts=(xn (Ib ps ss) ts.length ts,0):=by unfold xy;rw [if_pos h0,if_neg L9]
   have eh:((1000:Int) < ts.length)=False:=eq_false (by omega)
   rw [e]
   have hr:=qW h0
   have hw:=mH hr.tree
   simp +contextual only [q4,bU,h0,eh,decide_false,hlen,sZ,Nat.reduceEqDiff,Nat.reduceAdd,↓reduceIte]
   refine af (aaQ ps ss ts H (by omega)) ?_
   rintro r G ⟨va,rfl,hG,hGl,hR⟩
   obtain ⟨o1,o2,o3,o4⟩:=hR.one
   have Xs:∀ n,G.length≤n→va.aZ n=true:=fun n hn=>hR.aZ hn
   have pj:=Xs (G.length + 2) (by omega)
   have pR:∀ o o',va.aZ (G++[o,o']:List aa).length=true:=fun o o'=>Xs _ (by simp)
   have hp1:(AV.ptr (H.length + 2) 0).aZ (G.length + 1)=true:=by rw [rV];exact decide_eq_true (by omega)
   simp +contextual only [o1,o2,o3,o4,pj,hp1,sZ,Nat.reduceEqDiff,Nat.reduceAdd,Nat.reduceLT,↓reduceIte]
   refine ⟨rfl,by decide,?_⟩
   have hG0:G.take H.length=H:=by
    have:G.take H.length=(G.take (H.length + 3)).take H.length:=by rw [List.take_take];congr 1;omega
    rw [this,hG];simp
   rcases hR with ⟨e1,rfl⟩ | ⟨id,cap,bk,rfl,hg,b9,eM⟩
   ·have e2:ts=[]:=by
     have:=cE ts 0
     have h3:aT ts 0=[]:=List.map_eq_nil_iff.1 e1
     rw [h3] at this
     exact List.length_eq_zero_iff.1 this.symm
    subst e2
    refine aE 0 (fun _ _=>True) (fun i (p:Unit)=>[(9,.ptr G.length 0),(10,.ptr (G.length + 1) 0),(11,.ah)]) (fun i p=>G++[.cells [.ptr (H.length + 2) 0],.cells [.ah]]) () ⟨trivial,aI rfl ?_⟩ fun i p hi hI=>?_
    ·rfl
    ·simp +contextual only [sZ,Nat.reduceEqDiff,Nat.reduceAdd,Nat.reduceLT,↓reduceIte,reduceCtorEq,Int.reduceLT]
     exact Gn (mK []) (by rw [List.take_append_of_le_length (by omega)];exact hG0)
   ·have QB:ts≠[]:=fun e=>eM (by rw [e];rfl)
    have aa1:id < G.length:=aK hg
    obtain ⟨c,ec⟩:∃ c,c=gE ps ss ts H.length:=⟨_,rfl⟩
    have hc:c.Ok:=by rw [ec];exact hr.cx QB (by omega) H.length
    have cO:c.O=lm ps ss:=by rw [ec];rfl
    have cd:c.d=H.length + 2:=by rw [ec];rfl
    have ce:c.e=H.length:=by rw [ec];rfl
    have cg:c.g=H.length + 1:=by rw [ec];rfl
    have hD0:Du c (G++[.cells [.ptr (H.length + 2) 0],.cells [.a8 id 0 (aT ts 0).length cap]]):=by
     have h1:=yG ps ss QB H
     rw [← ec,← hG] at h1
     exact Du.sn (h1.Tv trivial) _
    obtain ⟨k1,k2⟩:=(OA ts).kids
    have Xu:(aT ts 0).map c.tm=ts:=by rw [ec];exact k1
    have aa2:∀ x∈aT ts 0,c.dP x:=by rw [ec];exact k2
    rw [aw] at *
    have Bw:=cE ts 0
    refine aE ts.length (fun j (p:List Int×List T×List aa)=>j + p.1.length=ts.length∧(∀ x∈p.1,c.dP x)∧xn (Ib ps ss) ts.length ts=p.2.1++xn (Ib ps ss) p.1.length (p.1.map c.tm)∧p.2.1.length=j∧Du c p.2.2∧
     p.2.2[G.length]?=some (.cells [.ptr c.d 0])∧p.2.2[G.length + 1]?=some (.cells [.a8 id 0 p.1.length cap])∧p.2.2[id]?=some (bc zI (ints p.1) cap)∧p.2.2.take H.length=H∧p.1.length≤cap∧∀ x∈p.1,c.tm x∈ts)
     (fun i p=>[(9,.ptr G.length 0),(10,.ptr (G.length + 1) 0),(11,sl p.2.1)]) (fun i p=>p.2.2) (aT ts 0,[],G++[.cells [.ptr (H.length + 2) 0],.cells [.a8 id 0 (aT ts 0).length cap]])
     ⟨⟨by simp [Bw],aa2,by rw [Xu,Bw];rfl,rfl,hD0,by rw [cd];simp,by simp,by rw [List.getElem?_append_left aa1];exact hg,by rw [List.take_append_of_le_length (by omega)];exact hG0,b9,fun x hx=>by rw [← Xu];exact List.mem_map_of_mem hx⟩,aI rfl rfl⟩ fun j p hj hI=>?_
    obtain ⟨L,out,F⟩:=p
    obtain ⟨i1,i2,i3,i4,i5,i6,i7,i8,i9,i10,i11⟩:=hI
    simp only at i1 i2 i3 i4 i5 i6 i7 i8 i9 i10 i11
    have LB:L.length≤1000:=by omega
    by_cases hL:L=[]
    ·have hz:((0:Int) < (L.length:Int))=False:=eq_false (by rw [hL];simp)
     have Yc:(sl out).ab.ab=(sl out).ab:=by cases out <;> rfl
     simp +contextual only [i7,hz,decide_false,Yc,sZ,Nat.reduceEqDiff,Nat.reduceAdd,Nat.reduceLT,↓reduceIte,reduceCtorEq]
     have e2:xn (Ib ps ss) ts.length ts=out:=by rw [i3,hL];simp [xn]
     rw [e2]
     exact Gn (by rw [Yc];exact mK out) i9
    ·have mX:=List.length_pos_iff.2 hL
     have hz:((0:Int) < (L.length:Int))=True:=eq_true (by omega)
     simp +contextual only [i7,hz,decide_true,sZ,Nat.reduceEqDiff,Nat.reduceAdd,Nat.reduceLT,↓reduceIte,reduceCtorEq]
     refine af (Qj (Q:=fun i=>¬ ∃ x∈L,R c.O (c.tm i) (c.tm x)) (SG.len c F) (fun G' ey=>by rw [ey.2.get id (by omega) (by omega),i8]) i10 (by omega) 101 [] [.ptr (G.length + 1) 0,.ptr G.length 0] rfl rfl
      (fun x hx H' hH'=>aaW hc (i2 x hx) i2 i10 (by omega) i6 (by omega) (by omega) i7 (by omega) (by omega) i8 (by omega) (by omega) H' hH') ⟨i5,Up.refl c F⟩) ?_
     rintro r F1 ⟨⟨nc,Yy⟩,hq⟩
     have QA:∃ n:Nat,r=.int .i64 n∧n < L.length∧(¬ ∃ x∈L,R c.O (c.tm (L.getD n 0)) (c.tm x))∧∀ j,j < n→∃ x∈L,R c.O (c.tm (L.getD j 0)) (c.tm x):=by
      rcases hq with ⟨_,hq⟩ | ⟨n,h1,h2,h3,h4⟩
      ·exfalso
       obtain ⟨m,hm,h1⟩:=Ql (r:=fun a b=>R c.O a b) (fun a=>Wi rfl) (fun a b d h h'=>Ou h h') (L.map c.tm) (by simpa using hL)
       obtain ⟨x,hx,rfl⟩:=List.mem_map.1 hm
       refine hq x hx fun ⟨y,hy,h⟩=>h1 _ (List.mem_map_of_mem hy) h
      ·exact ⟨n,h1,h2,h3,fun j hj=>Classical.not_not.1 (h4 j hj)⟩
     obtain ⟨n,rfl,hn,h1,h2⟩:=QA
     have j7:F1[G.length + 1]?=some (.cells [.a8 id 0 L.length cap]):=by rw [Yy.get _ (by omega) (by omega),i7]
     have j6:F1[G.length]?=some (.cells [.ptr c.d 0]):=by rw [Yy.get _ (by omega) (by omega),i6]
     have j8:F1[id]?=some (bc zI (ints L) cap):=by rw [Yy.get _ (by omega) (by omega),i8]
     have j9:F1.take H.length=H:=by
      refine Eq.trans ?_ i9
      apply List.ext_getElem?
      intro k
      rw [List.getElem?_take,List.getElem?_take]
      by_cases hk:k < H.length
      ·rw [if_pos hk,if_pos hk];exact Yy.get _ (by omega) (by omega)
      ·rw [if_neg hk,if_neg hk]
     have Iu:Lf (Ib ps ss) (L.map c.tm)=n:=by
      refine Lg (by simpa using hn) (fun x hx=>?_) fun j hj=>?_
      ·obtain ⟨y,hy,rfl⟩:=List.mem_map.1 hx
       rw [wG hn]
       cases hb:Ib ps ss (c.tm (L.getD n 0)) (c.tm y) with
       | false=>rfl
       | true=>exact absurd ⟨y,hy,by rw [cO];exact uv.1 hb⟩ h1
      ·obtain ⟨y,hy,h⟩:=h2 j hj
       rw [wG (by omega)]
       exact ⟨_,List.mem_map_of_mem hy,uv.2 (by rw [← cO];exact h)⟩
     have hxN:=i2 _ (aN hn)
     have iR:c.nd.length≤2000000:=by
      have:c.nd=da ts 0:=by rw [ec];rfl
      rw [this,gQ];omega
     simp +contextual only [j7,j6,j8,nc.d,mE,ZI,cF,kO,F7 hn,sZ,Nat.reduceEqDiff,Nat.reduceAdd,Nat.reduceLT,↓reduceIte,reduceCtorEq]
     have htree:=hr.tree _ (i11 _ (aN hn))
     have hwx:wt (c.tm (L.getD n 0))≤2000:=by
      have:=((T.ff _).1 htree).1;have:=KM (c.tm (L.getD n 0));omega
     have Xv:Pure Tryz.prog 104 [(c.nd.getD (L.getD n 0).toNat default).fst.av] (c.tm (L.getD n 0)).av:=aa0 _ (c.tm (L.getD n 0)) (Nat.le_refl _) (by omega)
     have KL:=Xt hn i10 (by omega) j8
     have jh:(L.eraseIdx n).length=L.length - 1:=List.length_eraseIdx_of_lt hn
     refine ⟨hn,hxN,ae Xv ?_,ae Xv ?_⟩
     all_goals
      simp +contextual only [Om,HV,j7,sZ,Nat.reduceEqDiff,Nat.reduceAdd,Nat.reduceLT,↓reduceIte,reduceCtorEq]
      refine ⟨by omega,?_⟩
      rw [eu _ (by omega)]
      refine af KL ?_
      rintro r F2 ⟨rfl,rfl⟩
      have m7:(F1.set id (bc zI (ints (L.eraseIdx n)) cap))[G.length + 1]?=some (.cells [.a8 id 0 L.length cap]):=by rw [List.getElem?_set_ne (by omega)];exact j7
      have ni:(AV.a8 id 0 (L.eraseIdx n).length cap).aZ (G.length + 1 + 1)=true:=by rw [jP];exact decide_eq_true (by omega)
      have r1:∀ l,(AV.a8 id 0 l cap).one=true∧(AV.a8 id 0 l cap).val=true∧(AV.a8 id 0 l cap).ab=.a8 id 0 l cap∧(AV.a8 id 0 l cap).cells=[.a8 id 0 l cap]:=fun _=>⟨rfl,rfl,rfl,rfl⟩
      obtain ⟨u1,u2,u3,u4⟩:=r1 (L.eraseIdx n).length
      simp +contextual only [m7,ni,u1,u2,u3,u4,sZ,Nat.reduceEqDiff,Nat.reduceAdd,↓reduceIte]
      refine ⟨j + 1,(L.eraseIdx n,out++[c.tm (L.getD n 0)],_),⟨by omega,by show j + 1 + (L.eraseIdx n).length=_;omega,fun x hx=>i2 x (List.mem_of_mem_eraseIdx hx),?_,by simp [i4],?_,?_,?_,?_,?_,by show (L.eraseIdx n).length≤cap;omega,fun x hx=>i11 x (List.mem_of_mem_eraseIdx hx)⟩,by omega,aI rfl rfl⟩
      ·have hs:L.length=(L.eraseIdx n).length + 1:=by omega
       rw [i3,hs,xn,Iu,wG hn,List.append_assoc]
       have em:(L.map c.tm).eraseIdx n=(L.eraseIdx n).map c.tm:=by rw [List.eraseIdx_eq_take_drop_succ,List.eraseIdx_eq_take_drop_succ,List.map_append,List.map_take,List.map_drop]
       rw [em];rfl
      ·exact (nc.set (by omega) (by omega) (by omega)).set (by omega) (by omega) (by omega)
      ·rw [List.getElem?_set_ne (by omega),List.getElem?_set_ne (by omega)];exact j6
      ·rw [List.getElem?_set_self (by have:=aK j7;simp;omega)]
      ·rw [List.getElem?_set_ne (by omega),List.getElem?_set_self (aK j8)]
      ·rw [List.take_set_of_le (by omega),List.take_set_of_le (by omega)];exact j9
 ·have e:xy s ps ss ts=([],iA s ps ss ts):=by unfold xy;rw [if_neg h0]
  rw [e]
  simp +contextual only [h0,sZ,Nat.reduceEqDiff,↓reduceIte,reduceCtorEq]
  exact Gn (mK []) List.take_length
end Go.aH
end
section
set_option maxRecDepth 1000000
namespace Go.aH
open Go Go.Proofs Go.fm
def vT (n:Int):T:=.mk 1 n []
def oT (n:Int) (l:List T):T:=.mk 2 n l
def fN:Sg:=⟨[⟨#[78]⟩],[⟨⟨#[122]⟩,[],0⟩,⟨⟨#[115]⟩,[0],0⟩,⟨⟨#[97,100,100]⟩,[0,0],0⟩]⟩
def Xw:gv:=⟨[0],[],oT 2 [vT 0,oT 0 []],vT 0⟩
def cw:gv:=⟨[0,0],[],oT 2 [vT 0,oT 1 [vT 1]],oT 1 [oT 2 [vT 0,vT 1]]⟩
def cT:Ty:=⟨fN,[Xw,cw]⟩
theorem OP:o8 Tryz.prog Q0 (dA Tryz.prog Q0 100000) false 64 [] []=some (cT.av,[]):=by kernel_rfl
theorem AR:o8 Tryz.prog Q0 (dA Tryz.prog Q0 100000) false 62 [cT.av] []=some (.int .i64 0,[]):=by kernel_rfl
theorem E7:o8 Tryz.prog Q0 (dA Tryz.prog Q0 100000) false 92 [cT.av] []=some (.ap 0 (ints [0,1,2]),[]):=by kernel_rfl
theorem c64:Pure Tryz.prog 64 [] cT.av:=Pure.mk rfl ((uj rU (zX rU 100000)).1 _ _ _ _ _ OP)
theorem AS:Pure Tryz.prog 62 [cT.av] (.int .i64 0):=Pure.mk rfl ((uj rU (zX rU 100000)).1 _ _ _ _ _ AR)
theorem Tw:Pure Tryz.prog 92 [cT.av] (.ap 0 (ints [0,1,2])):=Pure.mk rfl ((uj rU (zX rU 100000)).1 _ _ _ _ _ E7)
end Go.aH
end
section
set_option maxRecDepth 100000
namespace Go.aH
open Go Go.Proofs Go.fm
theorem c66 {a b:List Int} {va vb:AV} (ha:IL va a) (hb:IL vb b) (la:a.length≤1000000000) (lb:b.length≤1000000000):Pure Tryz.prog 66 [va,vb] (.bool (decide (a=b))):=by
 refine fun H=>k66.2.calls rfl ?_
 simp only [k66,aJ]
 obtain ⟨a1,a2,a3,a4⟩:=ha.one
 obtain ⟨b1,b2,b3,b4⟩:=hb.one
 simp +contextual only [a2,b2,ha.aL,hb.aL,ha.len (by omega),hb.len (by omega),sZ,Nat.reduceEqDiff,Nat.reduceAdd,↓reduceIte,reduceCtorEq]
 refine ⟨fun eM=>bh rfl (by rw [decide_eq_false (fun e=>eM (by rw [e]))]),fun ZJ=>?_⟩
 refine aP a.length (fun i=>∀ j,j < i→a.getD j 0=b.getD j 0)
  (fun i=>[(0,va),(1,vb),(12,.int .i64 b.length),(13,.int .i64 i)]) (fun i=>H) ⟨fun j hj=>by omega,aA _ _ _⟩ fun i hi hI=>?_
 simp +contextual only [a2,b2,ha.lens,hb.lens,ha.idx,hb.idx,Int.toNat_natCast,sZ,Nat.reduceEqDiff,↓reduceIte,reduceCtorEq]
 refine ⟨fun aX=>⟨by omega,by omega,fun eM=>?_,fun he=>?_⟩,fun jh=>?_⟩
 ·refine bh rfl (by rw [decide_eq_false (fun e=>eM (by rw [e]))])
 ·refine ⟨i + 1,⟨by omega,fun j hj=>?_⟩,by omega,aI (by rw [ax i (by omega)]) rfl⟩
  by_cases h:j=i
  ·subst h;exact he
  ·exact hI j (by omega)
 ·refine bh rfl (by rw [decide_eq_true (yD (by omega) fun j hj=>hI j (by omega))])
noncomputable def jY (e:Int) (t:Ty) (ps ss:List Int):Int×Bool×Int:=
 if e≠0 then (0,false,e) else if je t.s ps ss≠0 then (0,false,je t.s ps ss) else (max (fD t ps ss) 0,decide (0≤fD t ps ss),0)
def AT (p:Int×Bool×Int):AV:=.tuple [.int .i64 p.1,.bool p.2.1,.int .i64 p.2.2]
theorem c31 {t:Ty} {e:Int} (Xx:Pure Tryz.prog 62 [t.av] (.int .i64 e)) (ht:e=0→xw t) (ps ss:List Int):Pure Tryz.prog 31 [t.av,gn ps ss] (AT (jY e t ps ss)):=by
 refine fun H=>k31.2.calls rfl ?_
 simp only [k31,aJ]
 obtain ⟨q1,q2,q3,q4,q5,q6⟩:=bF ps ss
 obtain ⟨e1,e2,e3,e4,e5,e6⟩:=Ty.facts t
 simp +contextual only [q1,e1,e4,eU,sZ,Nat.reduceEqDiff,Nat.reduceAdd,↓reduceIte,reduceCtorEq]
 refine ae Xx ?_
 by_cases h0:e=0
 ·subst h0
  simp +contextual only [aU,q4,bU,A8,sZ,Nat.reduceEqDiff,Nat.reduceAdd,↓reduceIte]
  refine ae (c24 t.s ps ss) ?_
  by_cases h1:je t.s ps ss=0
  ·have hv:=(wg.1 h1).2
   simp +contextual only [h1,q4,e4,bU,eU,sZ,Nat.reduceEqDiff,Nat.reduceAdd,↓reduceIte]
   refine ae (c89 t ps ss hv.va fun q hq=>(ht rfl).eq q hq ps hv.1) ?_
   simp +contextual only [sZ,Nat.reduceEqDiff,↓reduceIte,reduceCtorEq]
   have e0:jY 0 t ps ss=(max (fD t ps ss) 0,decide (0≤fD t ps ss),0):=by unfold jY;rw [if_neg (by simp),if_neg (by simp [h1])]
   rw [e0]
   exact yE (by decide) List.take_length ⟨rfl,rfl,rfl⟩ rfl rfl rfl ⟨rfl,rfl⟩
  ·have e0:jY 0 t ps ss=(0,false,je t.s ps ss):=by unfold jY;rw [if_neg (by simp),if_pos h1]
   rw [e0]
   simp +contextual only [h1,sZ,Nat.reduceEqDiff,↓reduceIte,reduceCtorEq]
   exact yE (by decide) List.take_length ⟨rfl,rfl,rfl⟩ rfl rfl rfl ⟨rfl,rfl⟩
 ·have e0:jY e t ps ss=(0,false,e):=by unfold jY;rw [if_pos h0]
  rw [e0]
  simp +contextual only [h0,sZ,Nat.reduceEqDiff,↓reduceIte,reduceCtorEq]
  exact yE (by decide) List.take_length ⟨rfl,rfl,rfl⟩ rfl rfl rfl ⟨rfl,rfl⟩
noncomputable def AU (e:Int) (t:Ty) (ps ss:List Int):Int:=if (jY e t ps ss).2.2=0∧(jY e t ps ss).2.1=true then 60 else (jY e t ps ss).2.2
theorem E8 (p:Int×Bool×Int) (φ:AV→Prop):bB (AT p) 0 φ=φ (.int .i64 p.1)∧bB (AT p) 1 φ=φ (.bool p.2.1)∧bB (AT p) 2 φ=φ (.int .i64 p.2.2):=by simp [AT,bB,nP,oA]
theorem Gp (p:Int×Bool×Int):(AT p).ab=AT p:=rfl
theorem c33 {t:Ty} {e:Int} (Xx:Pure Tryz.prog 62 [t.av] (.int .i64 e)) (ht:e=0→xw t) (ps ss:List Int):Pure Tryz.prog 33 [t.av,gn ps ss] (.int .i64 (AU e t ps ss)):=by
 refine fun H=>k33.2.calls rfl ?_
 simp only [k33,aJ]
 obtain ⟨q1,q2,q3,q4,q5,q6⟩:=bF ps ss
 obtain ⟨e1,e2,e3,e4,e5,e6⟩:=Ty.facts t
 simp +contextual only [q1,q4,e1,e4,bU,eU,sZ,Nat.reduceEqDiff,Nat.reduceAdd,↓reduceIte,reduceCtorEq]
 refine ae (c31 Xx ht ps ss) ?_
 unfold AU
 generalize jY e t ps ss=p
 have x1:=fun φ=>(E8 p φ).1
 have x2:=fun φ=>(E8 p φ).2.1
 have x3:=fun φ=>(E8 p φ).2.2
 obtain ⟨n,b,m⟩:=p
 simp only at x1 x2 x3
 by_cases h0:m=0
 ·subst h0
  cases b <;>
  simp +contextual only [x1,x2,x3,Gp,sZ,Nat.reduceEqDiff,↓reduceIte,reduceCtorEq] <;>
  exact bh rfl rfl
 ·have hm:(m=0)=False:=eq_false h0
  simp +contextual only [x1,x2,x3,Gp,hm,decide_false,sZ,Nat.reduceEqDiff,↓reduceIte,reduceCtorEq]
  exact bh rfl (by simp [h0])
theorem Lh {H e:List aa} {u v w x y z:AV} (hb:x.aZ H.length=true∧y.aZ H.length=true∧z.aZ H.length=true) (hx:u.ab=x) (hy:v.ab=y) (hz:w.ab=z):tB H.length [u,v,w] (H++e) fun r H'=>r=.tuple [x,y,z]∧H'=H:=by
 subst hx;subst hy;subst hz
 exact ⟨H.length,Nat.le_refl _,_,cp _,by show aj _ [u.ab,v.ab,w.ab]=true;rw [bG,bG,bG,cZ,hb.1,hb.2.1,hb.2.2];rfl,rfl,by simp⟩
theorem Il (f:Fo):∃ P S,foA f=gn P S:=by
 cases f with
 | none=>exact ⟨_,_,rfl⟩
 | some p=>exact ⟨_,_,rfl⟩
noncomputable def Li (e:Int) (t:Ty) (ops:List Int):Fo×Int:=if e≠0 then (none,e) else if 4 < ops.length then (none,2) else (xv t ops,0)
theorem c35 {t:Ty} {e:Int} {ops:List Int} (Xx:Pure Tryz.prog 62 [t.av] (.int .i64 e)) (h92:e=0→Pure Tryz.prog 92 [t.av] (.ap 0 (ints ops))) (ht:e=0→xw t) (hr:e=0→∀ i∈ops,0≤i∧i < t.s.ops.length) (hl:ops.length≤1000000) :
 Pure Tryz.prog 35 [t.av] (.tuple [foA (Li e t ops).1,.bool (Li e t ops).1.isSome,.int .i64 (Li e t ops).2]):=by
 refine fun H=>k35.2.calls rfl ?_
 simp only [k35,aJ]
 obtain ⟨e1,e2,e3,e4,e5,e6⟩:=Ty.facts t
 have zf2:List.map AV.ab [AV.ah,.ah]=[.ah,.ah]:=rfl
 have zb2:∀ n,aj n [AV.ah,.ah]=true:=fun _=>rfl
 simp +contextual only [e1,e4,eU,zf2,zb2,sZ,Nat.reduceEqDiff,Nat.reduceAdd,↓reduceIte]
 refine ae Xx ?_
 have gz:(H++[aa.cells [AV.ah,.ah]])[H.length]?=some (.cells [.ah,.ah]):=by simp
 by_cases h0:e=0
 ·subst h0
  simp +contextual only [e4,eU,sZ,Nat.reduceEqDiff,Nat.reduceAdd,↓reduceIte]
  refine ae (h92 rfl) ?_
  by_cases h4:4 < ops.length
  ·have h4':((4:Int) < ops.length)=True:=eq_true (by omega)
   have e0:Li 0 t ops=(none,2):=by unfold Li;rw [if_neg (by simp),if_pos h4]
   rw [e0]
   have sp2:∀ (a b x y:AV),ag [a,b] 0 [x,y]=[x,y]:=fun _ _ _ _=>rfl
   simp +contextual only [zf2,zb2,aw,h4',decide_true,gz,lG,sp2,sZ,Nat.reduceEqDiff,Nat.reduceAdd,↓reduceIte,reduceCtorEq]
   exact fun _=>Lh ⟨rfl,rfl,rfl⟩ rfl rfl rfl
  ·have h4':((4:Int) < ops.length)=False:=eq_false (by omega)
   have e0:Li 0 t ops=(xv t ops,0):=by unfold Li;rw [if_neg (by simp),if_neg h4]
   rw [e0]
   simp +contextual only [e4,eU,aw,h4',decide_false,sZ,Nat.reduceEqDiff,Nat.reduceAdd,↓reduceIte]
   intro hl9
   refine ae (c93 (ht rfl) (.inr rfl) (hr rfl) hl) ?_
   generalize xv t ops=f
   obtain ⟨P,S,ef⟩:=Il f
   obtain ⟨q1,q2,q3,q4,q5,q6⟩:=bF P S
   rw [ef]
   have zo:(gn P S).cells=[.ap 0 (ints P),.ap 0 (ints S)]:=rfl
   have sp2:∀ (a b x y:AV),ag [a,b] 0 [x,y]=[x,y]:=fun _ _ _ _=>rfl
   simp +contextual only [gz,q1,q4,lG,zo,sp2,bU,aY,sZ,Nat.reduceEqDiff,Nat.reduceAdd,Nat.reduceLT,↓reduceIte,reduceCtorEq]
   exact Lh ⟨q6 _,rfl,rfl⟩ rfl rfl rfl
 ·have hm:(e=0)=False:=eq_false h0
  have e0:Li e t ops=(none,e):=by unfold Li;rw [if_pos h0]
  rw [e0]
  have sp2:∀ (a b x y:AV),ag [a,b] 0 [x,y]=[x,y]:=fun _ _ _ _=>rfl
  simp +contextual only [zf2,zb2,hm,gz,lG,sp2,sZ,Nat.reduceEqDiff,Nat.reduceAdd,↓reduceIte,reduceCtorEq]
  exact Lh ⟨rfl,rfl,rfl⟩ rfl rfl rfl
end Go.aH
end
section
namespace Go.aH
open Go Go.Proofs Go.fm
end Go.aH
end
section
namespace Go.fm
open Go.aH
def Qm {G:T→T→Prop} [h:∀ x y,Decidable (G x y)]:∀ l m,Decidable (Lx G l m)
 | [],_=>isFalse (fun h=>h)
 | _::_,[]=>isTrue trivial
 | x::l,y::m=>@instDecidableOr _ _ (@instDecidableAnd _ _ inferInstance (Qm l m)) (h x y)
def Xy {G:T→T→Prop} [h:∀ x y,Decidable (G x y)] (l m:List T):Decidable (Mu G l m):=by unfold Mu;exact inferInstance
def Xz {sp:Int→Int} {G:T→T→Prop} [h:∀ x y,Decidable (G x y)] (a b:T):Decidable (Fm sp G a b):=by
 unfold Fm
 have:=@Qm G h
 have:=@Xy G h
 exact inferInstance
def Lj (sp:Int→Int):∀ (f:Nat) (a b:T),Decidable (LR sp f a b)
 | 0,_,_=>isFalse (fun h=>h)
 | f + 1,a,b=>@Xz sp (LR sp f) (Lj sp f) a b
instance XA (sp:Int→Int) (a b:T):Decidable (Gt sp a b):=Lj sp (wt a + wt b) a b
instance XB (O:Od) (a b:T):Decidable (R O a b):=XA O.sp (norm O a) (norm O b)
instance XC (O:Od) (a b:T):Decidable (E O a b):=inferInstanceAs (Decidable (norm O a=norm O b))
end Go.fm
end
section
namespace Go.aH
open Go Go.Proofs Go.fm
mutual
def Dj (n:Nat):T→Bool
 | .mk k m l=>(!decide (k=2) || (decide (0≤m) && decide (m < n))) && AW n l
def AW (n:Nat):List T→Bool
 | []=>true
 | x::r=>Dj n x && AW n r
end
mutual
theorem Gq {n:Nat}:∀ {t:T},Dj n t=true→um (fun m=>0≤m∧m < n) t
 | .mk k m l,h=>by
   simp only [Dj,Bool.and_eq_true,Bool.or_eq_true,Bool.not_eq_true',decide_eq_false_iff_not,decide_eq_true_eq] at h
   exact .mk k m l (fun hk=>h.1.resolve_left fun hn=>hn hk) (Dk h.2)
theorem Dk {n:Nat}:∀ {l:List T},AW n l=true→∀ x∈l,um (fun m=>0≤m∧m < n) x
 | [],_=>fun x hx=>by cases hx
 | y::r,h=>by
   simp only [AW,Bool.and_eq_true] at h
   have h1:=Gq h.1
   have h2:=Dk h.2
   intro x hx
   rcases List.mem_cons.1 hx with rfl | hx
   ·exact h1
   ·exact h2 x hx
end
def Dl (ps ss:List Int) (a b:T):Bool:=match XB (lm ps ss) a b with | .isTrue _=>true | .isFalse _=>false
theorem AX {ps ss:List Int} {a b:T}:Dl ps ss a b=true↔R (lm ps ss) a b:=by
 unfold Dl
 cases XB (lm ps ss) a b with
 | isTrue h=>simp [h]
 | isFalse h=>simp [h]
end Go.aH
end
section
set_option maxRecDepth 1000000
namespace Go.aH
open Go Go.Proofs Go.fm
theorem AY (ps ss:List Int) (a b:T):Ib ps ss a b=Dl ps ss a b:=by rw [Bool.eq_iff_iff,uv,AX]
def Gs (ps ss:List Int) (a b:T):Bool:=match XC (lm ps ss) a b with | .isTrue _=>true | .isFalse _=>false
theorem Gu (ps ss:List Int) (a b:T):WQ ps ss a b=Gs ps ss a b:=by
 rw [Bool.eq_iff_iff,Gc]
 unfold Gs
 cases XC (lm ps ss) a b with
 | isTrue h=>simp [h]
 | isFalse h=>simp [h]
def Tx (s:Sg) (ps ss:List Int):Bool:=decide (ps.length=s.ops.length) && (decide (ss.length=s.ops.length) && ((List.range ps.length).all (fun j=>decide (0≤ps.getD j 0∧ps.getD j 0≤255∧1≤ss.getD j 0∧ss.getD j 0≤3)) && (List.range ps.length).all fun j=>(List.range ps.length).all fun k=>!decide (ps.getD j 0=ps.getD k 0) || decide (ss.getD j 0=ss.getD k 0)))
theorem Lk {s:Sg} {ps ss:List Int}:Tx s ps ss=true↔lC s ps ss:=by
 simp only [Tx,Bool.and_eq_true,decide_eq_true_eq,List.all_eq_true,List.mem_range,Bool.or_eq_true,Bool.not_eq_true',decide_eq_false_iff_not]
 constructor
 ·rintro ⟨h1,h2,h3,h4⟩
  exact ⟨h1,h2,h3,fun j k hj hk he=>(h4 j hj k hk).resolve_left fun hn=>hn he⟩
 ·rintro ⟨h1,h2,h3,h4⟩
  refine ⟨h1,h2,h3,fun j hj k hk=>?_⟩
  by_cases h:ps.getD j 0=ps.getD k 0
  ·exact .inr (h4 j k hj hk h)
  ·exact .inl h
def wH (s:Sg) (ps ss:List Int):Int:=if m9 s=true then (if Tx s ps ss=true then 0 else 60) else 40
theorem rc (s:Sg) (ps ss:List Int):je s ps ss=wH s ps ss:=by
 unfold je wH
 by_cases h:lC s ps ss
 ·rw [if_pos h,if_pos (Lk.2 h)]
 ·rw [if_neg h,if_neg (fun k=>h (Lk.1 k))]
def wI (s:Sg) (ps ss:List Int) (l:List T):Int:=if wH s ps ss=0 then (if (l.all fun t=>t.tree && CZ s t)=true then 0 else 4) else wH s ps ss
theorem iQ (s:Sg) (ps ss:List Int) (l:List T):iA s ps ss l=wI s ps ss l:=by unfold iA wI;rw [rc]
def Ll (ps ss:List Int) (e:gv):Bool:=e.rest.all fun y=>Dl ps ss e.a y
theorem Lm (ps ss:List Int) (e:gv):xu ps ss e=Ll ps ss e:=by
 rw [Bool.eq_iff_iff]
 simp only [xu,OE,Ll,List.all_eq_true,AX]
 exact @decide_eq_true_iff _ (Classical.propDecidable _)
def wJ (t:Ty) (ps ss:List Int):Int:=kc (fun e=>!Ll ps ss e) t.es 0
theorem sH (t:Ty) (ps ss:List Int):fD t ps ss=wJ t ps ss:=by
 unfold fD wJ
 congr 1
 funext e
 rw [Lm]
def E9 (t:Ty) (ops pl st:List Int):Bool:=decide (wH t.s (pN t.s.ops.length ops pl) (sF t.s.ops.length ops st)=0) && decide (wJ t (pN t.s.ops.length ops pl) (sF t.s.ops.length ops st) < 0)
theorem Im (t:Ty) (ops pl st:List Int):wB t ops pl st=E9 t ops pl st:=by
 unfold wB E9
 rw [rc,sH,Bool.eq_iff_iff]
 simp
def Fa (t:Ty) (ops pl:List Int) (s:Fo) (st:List Int):Fo×Bool:=if E9 t ops pl st=true then (some (pN t.s.ops.length ops pl,sF t.s.ops.length ops st),false) else (s,true)
def Fb (t:Ty) (ops:List Int) (s:Fo) (pl:List Int):Fo×Bool:=if n9 pl=true then eW (Fa t ops pl) (iD (dm 1 3) ops.length) s else (s,true)
def Ln (t:Ty) (ops:List Int):Fo:=(eW (Fb t ops) (iD (dm 0 ops.length) ops.length) none).1
theorem Lo (t:Ty) (ops:List Int):xv t ops=Ln t ops:=by
 have h1:dB t ops=Fa t ops:=by funext pl s st;unfold dB Fa;rw [Im]
 have h2:fh t ops=Fb t ops:=by funext s pl;unfold fh Fb;rw [h1]
 unfold xv Ln;rw [h2]
def fO:List Int:=[0,0,1]
def nh:List Int:=[1,1,1]
def stM:List Int:=[1,1,3]
def Dm:List Int:=[0,0,0]
theorem Tz:wI fN fO nh [cw.a,cw.b]=0:=by kernel_rfl
theorem XD:wI fN fO nh [cw.b,cw.a]=0:=by kernel_rfl
theorem gr1:Dl fO nh cw.a cw.b=true:=by kernel_rfl
theorem gr2:Dl fO nh cw.b cw.a=false:=by kernel_rfl
theorem aa6:wI fN fO stM [oT 2 [vT 0,vT 1],oT 2 [vT 1,vT 0]]=0:=by kernel_rfl
theorem aa7:wI fN fO nh [oT 2 [vT 0,vT 1],oT 2 [vT 1,vT 0]]=0:=by kernel_rfl
theorem eq1:Gs fO stM (oT 2 [vT 0,vT 1]) (oT 2 [vT 1,vT 0])=true:=by kernel_rfl
theorem eq2:Gs fO nh (oT 2 [vT 0,vT 1]) (oT 2 [vT 1,vT 0])=false:=by kernel_rfl
theorem aa8:wH fN fO nh=0:=by kernel_rfl
theorem aa9:wH fN Dm nh=0:=by kernel_rfl
theorem XE:wJ cT fO nh=-1:=by kernel_rfl
theorem XF:wJ cT Dm nh=1:=by kernel_rfl
theorem aba:Ln cT [0,1,2]=some (fO,nh):=by kernel_rfl
def yT:List T:=[oT 1 [oT 0 []],vT 0,oT 0 [],oT 2 [oT 0 [],oT 0 []]]
theorem abb:wI fN fO nh yT=0:=by kernel_rfl
theorem abc:xn (Dl fO nh) 4 yT=[vT 0,oT 0 [],oT 1 [oT 0 []],oT 2 [oT 0 [],oT 0 []]]:=by kernel_rfl
theorem rf:xw cT:=by
 refine ⟨by decide,fun e he ps hp=>?_⟩
 have hp3:ps.length=3:=hp
 have key:∀ e∈cT.es,e.cs.length≤1000∧(∀ t∈e.a::e.rest,t.tree=true)∧∀ t∈e.a::e.rest,Dj 3 t=true:=by
  intro e he
  have h:(cT.es.all fun e=>decide (e.cs.length≤1000) && ((e.a::e.rest).all (fun t=>t.tree) && (e.a::e.rest).all fun t=>Dj 3 t))=true:=by kernel_rfl
  have:=List.all_eq_true.1 h e he
  simp only [Bool.and_eq_true,decide_eq_true_eq,List.all_eq_true] at this
  exact this
 obtain ⟨k1,k2,k3⟩:=key e he
 exact ⟨k1,k2,fun t ht=>by rw [hp3];exact Gq (k3 t ht)⟩
end Go.aH
end
