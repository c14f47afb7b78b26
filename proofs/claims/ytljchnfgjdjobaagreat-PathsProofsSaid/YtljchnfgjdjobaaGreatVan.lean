/- Part 14 of 20 of the proof. -/
import Derived.Test.YtljchnfgjdjobaaGreatVam
import Derived.Test.YtljchnfgjdjobaaGreatVag
import Derived.KernelRfl
set_option linter.unusedVariables false
set_option linter.unusedSimpArgs false
set_option linter.defProp false
set_option linter.unusedSectionVars false
section
set_option maxRecDepth 100000
namespace Go.aK
open Go Go.Proofs Go.eI
def upto (n:Nat):List Int:=(List.range n).map Int.ofNat
theorem AZ (n:Nat):upto (n + 1)=upto n++[(n:Int)]:=by simp [upto,acJ]
theorem EV (n:Nat):(upto n).length=n:=by simp [upto]
theorem yj {n:Nat} {x:Int}:x∈upto n↔0≤x∧x < n:=by
 simp only [upto,aal,abK]
 constructor
 ·rintro ⟨j,h,rfl⟩;exact ⟨Int.natCast_nonneg j,Int.ofNat_lt.2 h⟩
 ·intro h;exact ⟨x.toNat,by omega,by simp;omega⟩
def yl (j:Nat):AV:=match j with | 0=>.ag | j + 1=>.al 1 (ints (upto (j + 1)))
theorem Nt (j:Nat) (h:j < 1000000000) (ψ:List AV→Prop) (hψ:ψ (ints (upto (j + 1)))):bF 1 8 (yl j) (.al 0 [.int .i64 (j:Int)]) ψ:=by
 have e1:ints (upto j)++[AV.int .i64 (j:Int)]=ints (upto (j + 1)):=by rw [AZ];simp [ints]
 have jM:rE 1 [AV.int .i64 (j:Int)]:=of_eq_true (nF [(j:Int)])
 cases j with
 | zero=>
   rw [yl,nB]
   exact ⟨by simp,jM,hψ⟩
 | succ j=>
   rw [yl,nC]
   exact ⟨by rw [aw,EV];simp;omega,jM,by rw [e1];exact hψ⟩
theorem Nu (j:Nat):(yl j).ab=bu (upto j):=by
 cases j with
 | zero=>rfl
 | succ j=>rw [yl,AZ];cases h:upto j <;> rfl
theorem CD:cw.n=13:=by kernel_rfl
theorem ym:cw.ps=[7]:=by kernel_rfl
theorem ur {id:Nat} {H:List aa} {K:List aa→Prop} {lc:ju} {es:List AV} (h:H[id]?=some (.loop .ready lc es)):kP id H K=K (H.set id (.loop .busy lc es)):=by
 unfold kP;rw [h]
theorem Ho {n0 id:Nat} {R:AV→List aa→Prop} {H:List aa} {lc:ju} {es:List AV} (h:H[id]?=some (.loop .busy lc es)):sg n0 id R .normal H=JI n0 true (H.set id (.loop .ready lc es)) R:=by
 unfold sg;rw [h]
theorem yn {id:Nat} {H:List aa} {K:Option Code→List aa→Prop} {lc:ju} {es:List AV} (h:H[id]?=some (.loop .ready lc es)):behind id H K=K none (H.set id (.loop .ff lc es)):=by
 unfold behind;rw [h]
theorem yo {P:Px} {n0:Nat} {ia ib:IR} {env:Env} {H:List aa} {id:Nat} {R:AV→List aa→Prop}
 (h:mv P n0 ia env H fun e env1 H1=>e=.normal∧kP id H1 fun H2=>mv P n0 ib env1 H2 fun e _ H3=>sg n0 id R e H3):mO P n0 ia env H fun e env1 H1=>e=.normal∧kP id H1 fun H2=>mO P n0 ib env1 H2 fun e _ H3=>sg n0 id R e H3:=by
 refine sy h ?_
 rintro x e H' ⟨h1,h2⟩
 refine ⟨h1,?_⟩
 unfold kP at *
 split at h2
 ·rename_i e'
  exact sy h2 fun _ _ _ h=>h
 ·exact h2.elim
theorem ad8 (n:Nat) (hn:n < 1000000000):Pure Tryz.prog 200 [.ag,.fn (.func 201) [] [.ai (.int .i64 n)]] (bu (upto n)):=by
 refine fun H=>YJ.calls rfl ?_
 simp only [Sn,Sm]
 simp +contextual only [nD,sZ,Nat.reduceEqDiff,Nat.reduceAdd,↓reduceIte,reduceCtorEq]
 have el:∀ X:List aa,(H++X).length=H.length + X.length:=fun X=>aaf
 obtain ⟨es,Bw⟩:∃ es,es=lQ cw.n [(2,AV.ptr H.length 0),(6,AV.fn (.func 201) [] [.ai (.int .i64 n)])]:=⟨_,rfl⟩
 have ees:es=[.any,.any,.ptr H.length 0,.any,.any,.any,.fn (.func 201) [] [.ai (.int .i64 n)],.any,.any,.any,.any,.any,.any]:=by rw [Bw,CD];rfl
 let G:Nat→List aa:=fun j=>H++[.cells [yl j],.loop .ready cw es]
 have hG:∀ j,(G j).length=H.length + 2:=fun j=>by simp [G]
 have g1:∀ j,(G j)[H.length + 1]?=some (.loop .ready cw es):=fun j=>by simp [G]
 refine uq (P:=Tryz.prog) (R:=fun r H'=>r=.tuple []∧H'=G n) 201 [] [.ai (.int .i64 n)] cw _ _ _ Tryz.call201 ?_ ?_
 ·rw [← Bw]
  have e1:(H++[aa.cells [AV.ag]]).length=H.length + 1:=by simp
  have e2:(H++[aa.cells [AV.ag]]++[.loop .ready cw es])=G 0:=by simp [G,yl]
  rw [e1,e2]
  refine ad7 n (by omega) (H.length + 1) G (fun j=>by rw [hG,hG]) fun j hj=>?_
  refine pC (lc:=cw) (es:=es) (g1 j) PI PJ ⟨by rw [ees,CD];rfl,by rw [ym];rfl,by rw [ym,CD];rfl,?_,?_⟩ (yo ?_)
  ·rw [ees];intro x hx;simp only [aai,abD,or_false] at hx
   rcases hx with rfl | rfl | rfl | rfl | rfl | rfl | rfl | rfl | rfl | rfl | rfl | rfl | rfl <;> rfl
  ·intro x hx;simp only [aai,abD,or_false] at hx;subst hx;rfl
  ·have ez:(cw.ps.zip [AV.int .i64 (j:Int)]).reverse++b7 0 es=(7,.int .i64 (j:Int))::b7 0 es:=by rw [ym];rfl
   rw [ez,ees]
   simp only [Io,Ip]
   have hb:∀ K,kP (H.length + 1) (G j) K=K (H++[.cells [yl j],.loop .busy cw es]):=fun K=>by rw [ur (g1 j)];simp [G]
   simp +contextual only [hb,sZ,Nat.reduceEqDiff,Nat.reduceAdd,Nat.reduceLT,↓reduceIte,reduceCtorEq]
   refine Nt j (by omega) _ ?_
   have hz:∀ x:AV,(H++[aa.cells [x],.loop .busy cw es])[H.length + 1]?=some (.loop .busy cw es):=fun x=>by simp
   have lK:(AV.al 1 (ints (upto (j + 1)))).bc (H.length + 1)=true:=by rw [bW];exact bf _ _
   simp +contextual only [lK,sZ,Nat.reduceEqDiff,Nat.reduceAdd,Nat.reduceLT,↓reduceIte]
   rw [Ho (hz _)]
   refine ⟨by simp [G],rfl,?_⟩
   simp [G,yl]
   exact aaw (by simp)
 ·rintro r G' ⟨rfl,rfl⟩
  have e1:(H++[aa.cells [AV.ag]]).length=H.length + 1:=by simp
  rw [e1,yn (g1 n)]
  have e3:(G n).set (H.length + 1) (.loop .ff cw es)=H++[.cells [yl n],.loop .ff cw es]:=by simp [G]
  rw [e3]
  simp +contextual only [qL,sZ,Nat.reduceAdd,Nat.reduceLT,↓reduceIte,reduceCtorEq]
  have e4:(yl n).ab.ab=bu (upto n):=by rw [Nu];exact (aI _).2.1
  rw [e4]
  exact MO ((aI _).2.2.1 _) rfl
theorem ad9 (n:Nat) (hn:n < 1000000000):Pure Tryz.prog 152 [.fn (.func 201) [] [.ai (.int .i64 n)]] (bu (upto n)):=by
 refine fun H=>Ye.2.calls rfl ?_
 simp only [Ye,aG]
 simp +contextual only [sZ,Nat.reduceAdd,↓reduceIte,reduceCtorEq]
 refine ae (ad8 n hn) ?_
 have e4:(bu (upto n)).ab=bu (upto n):=(aI _).2.1
 simp +contextual only [e4,sZ,↓reduceIte,reduceCtorEq]
 exact a8 ((aI _).2.2.1 _) rfl
theorem aea (n:Int):Pure Tryz.prog 153 [.int .i64 n] (.fn (.func 201) [] [.ai (.int .i64 n)]):=by
 refine fun H=>Yf.2.calls rfl ?_
 simp only [Yf,aG]
 simp +contextual only [sZ,Nat.reduceEqDiff,Nat.reduceAdd,↓reduceIte,reduceCtorEq]
 exact a8 rfl rfl
end Go.aK
end
section
set_option maxRecDepth 100000
namespace Go.aK
open Go Go.Proofs Go.eI
def j3 (c:Cx) (i k:Int) (p:PP):Prop:=∀ H,Du c H→ax Tryz.prog 87 [.ptr c.d 0,.int .i64 i,.int .i64 k,dA p] H (jt c (Sh c.O p (c.tm i) (c.tm k)) H)
theorem aeb {c:Cx} {b:List Int} {vb:AV} (hb:IL vb b) {q:Nat} {i j:Int} {l:List PP} (hj:0≤j∧j < b.length) (hl:l.length=b.length) (h:j3 c i (b.getD j.toNat 0) (l.getD j.toNat default)) {G:List aa} (hD:Du c G) (gq:G[q]?=some (.cells [vb])) :
 ax Tryz.prog 154 [.int .i64 j,.ai (.ptr c.d 0),.ai (.int .i64 i),.ptr q 0,.ai (.al 0 (dx l))] G (jt c (¬ Sh c.O (l.getD j.toNat default) (c.tm i) (c.tm (b.getD j.toNat 0))) G):=by
 refine Yg.2.calls rfl ?_
 simp only [Yg,aG]
 obtain ⟨b1,b2,b3,b4⟩:=hb.one
 obtain ⟨p1,p2,p3,p4,p5,p6,p7,p8,p9⟩:=aH (l.getD j.toNat default)
 simp +contextual only [gq,b2,hb.lens,hb.idx,l7,iQ,eL,p4,sZ,Nat.reduceEqDiff,Nat.reduceAdd,Nat.reduceLT,↓reduceIte,reduceCtorEq]
 refine ⟨hj,⟨hj.1,by omega⟩,af (h G hD) ?_⟩
 rintro r G' ⟨z,rfl,hz,hU,kh⟩
 simp +contextual only [sZ,↓reduceIte,reduceCtorEq]
 refine eW (b:=!z) rfl ?_ hU kh
 rw [← hz];cases z <;> simp
theorem cE {b:List Int} {f:Int→T} {j:Nat} (h:j < b.length):(b.map f).getD j default=f (b.getD j 0):=by simp [h]
theorem V7 {c:Cx} {b:List Int} {vb:AV} (hb:IL vb b) (lb:b.length < 1000000000) {q:Nat} (hq:q≠c.e∧q≠c.g) {i:Int} {l:List PP} (h:∀ j,j < b.length→j < l.length→j3 c i (b.getD j 0) (l.getD j default)) {G:List aa} (hD:Du c G) (gq:G[q]?=some (.cells [vb])) :
 ax Tryz.prog 151 [.al 0 (dx l),.ptr q 0,.ai (.ptr c.d 0),.ai (.int .i64 i)] G (jt c (lf (Sh c.O) l (c.tm i) (b.map c.tm)) G):=by
 refine Yd.2.calls rfl ?_
 simp only [Yd,aG]
 obtain ⟨b1,b2,b3,b4⟩:=hb.one
 simp +contextual only [gq,b2,hb.aO,hb.len (by omega),bG,sZ,Nat.reduceEqDiff,Nat.reduceAdd,Nat.reduceLT,↓reduceIte,reduceCtorEq]
 have e1:lf (Sh c.O) l (c.tm i) (b.map c.tm)↔l.length=b.length∧∀ j,j < b.length→Sh c.O (l.getD j default) (c.tm i) (c.tm (b.getD j 0)):=by
  unfold lf
  rw [ace]
  refine and_congr_right fun _=>⟨fun h j hj=>?_,fun h j hj=>?_⟩
  ·have:=h j hj;rwa [cE hj] at this
  ·rw [cE hj];exact h j hj
 refine fun H7=>⟨fun he=>?_,fun dJ=>?_⟩
 ·refine ae (aea _) ?_
  simp +contextual only [sZ,Nat.reduceEqDiff,Nat.reduceAdd,↓reduceIte]
  refine ae (ad9 b.length lb) ?_
  have k2:∀ l,(bu l).ab=bu l:=fun l=>(aI l).2.1
  simp +contextual only [k2,sZ,Nat.reduceEqDiff,Nat.reduceAdd,↓reduceIte,reduceCtorEq]
  refine af (EH (SD.Cs c G) (.inl rfl:IL (bu (upto b.length)) (upto b.length)) (by rw [EV];omega) 154 [] [.ai (.ptr c.d 0),.ai (.int .i64 i),.ptr q 0,.ai (.al 0 (dx l))] rfl rfl (Q:=fun j=>¬ Sh c.O (l.getD j.toNat default) (c.tm i) (c.tm (b.getD j.toNat 0)))
   (fun x hx G' eR=>?_) ⟨hD,Up.refl c G⟩) ?_
  ·have hx:=yj.1 hx
   exact (aeb hb ⟨hx.1,hx.2⟩ (by omega) (h x.toNat (by omega) (by omega)) eR.1 (by rw [eR.2.get q hq.1 hq.2,gq])).mono fun r H' hr=>hr.sb eR
  ·rintro r G' ⟨z,rfl,hz,eR⟩
   simp +contextual only [sZ,Nat.reduceEqDiff,↓reduceIte,reduceCtorEq]
   refine eW (b:=!z) rfl ?_ eR.2 eR.1
   rw [e1]
   cases z with
   | true=>
     obtain ⟨x,hx,hn⟩:=hz.1 rfl
     have hx:=yj.1 hx
     exact ⟨fun h=>by simp at h,fun h=>absurd (h.2 x.toNat (by omega)) hn⟩
   | false=>
     refine ⟨fun _=>⟨by omega,fun j hj=>?_⟩,fun _=>rfl⟩
     by_cases hs:Sh c.O (l.getD j default) (c.tm i) (c.tm (b.getD j 0))
     ·exact hs
     ·exact absurd (hz.2 ⟨(j:Int),yj.2 ⟨by omega,by omega⟩,hs⟩) (by simp)
 ·refine eW rfl ⟨fun h=>by simp at h,fun h=>?_⟩ (Up.refl c G) hD
  have:=(e1.1 h).1
  exact absurd (by omega) dJ
end Go.aK
end
section
set_option maxRecDepth 100000
namespace Go.aK
open Go Go.Proofs Go.eI
theorem Hp {P:Px} {t:DT} {f:AV→Env} {v:AV} {H0 H:List aa} {K1 K2:Env→List aa→Prop} (h:ja v H0 fun x=>jV P t (f x) H K1) (hk:∀ e G,K1 e G→K2 e G):ja v H0 fun x=>jV P t (f x) H K2:=by
 unfold ja at *
 split at h
 ·exact dS h hk
 ·unfold fg at *
  split at h <;> first | exact dS h hk | exact h.elim | (intro hl;exact dS (h hl) hk) | skip
  all_goals (split at h <;> first | exact dS h hk | exact h.elim)
structure CS (c:Cx) (H:List aa) (p q:Nat) (ts ps:List Int) (G:List aa):Prop where
 du:Du c G
 gp:G[p]?=some (cD ts)
 gq:G[q]?=some (cD ps)
 len:G.length=H.length + 2
 up:∀ j,j < H.length→j≠c.e→j≠c.g→G[j]?=H[j]?
structure PQ (H:List aa) (p q:Nat):Prop where
 ne:p≠q
 p1:H.length≤p
 q1:H.length≤q
theorem CS.call {c:Cx} {H G G':List aa} {p q:Nat} {ts ps:List Int} (hD:Du c H) (w:PQ H p q) (h:CS c H p q ts ps G) (hU:Up c G G') (kh:Du c G'):CS c H p q ts ps G':=by
 obtain ⟨l1,l2,l3⟩:=hD.lt
 obtain ⟨w1,w2,w3⟩:=w
 exact ⟨kh,by rw [hU.get p (by omega) (by omega),h.gp],by rw [hU.get q (by omega) (by omega),h.gq],by rw [hU.len,h.len],fun j h1 h2 h3=>by rw [hU.get j h2 h3,h.up j h1 h2 h3]⟩
theorem CS.aec {c:Cx} {H G:List aa} {p q:Nat} {ts ps ts':List Int} (hD:Du c H) (w:PQ H p q) (h:CS c H p q ts ps G):CS c H p q ts' ps (G.set p (cD ts')):=by
 obtain ⟨l1,l2,l3⟩:=hD.lt
 obtain ⟨w1,w2,w3⟩:=w
 have hp:=aR h.gp
 exact ⟨h.du.set (by omega) (by omega) (by omega),by rw [yS hp],by rw [yQ w1,h.gq],by rw [acd,h.len],fun j h1 h2 h3=>by rw [yQ (by omega),h.up j h1 h2 h3]⟩
theorem CS.aed {c:Cx} {H G:List aa} {p q:Nat} {ts ps ps':List Int} (hD:Du c H) (w:PQ H p q) (h:CS c H p q ts ps G):CS c H p q ts ps' (G.set q (cD ps')):=by
 obtain ⟨l1,l2,l3⟩:=hD.lt
 obtain ⟨w1,w2,w3⟩:=w
 have hq:=aR h.gq
 exact ⟨h.du.set (by omega) (by omega) (by omega),by rw [yQ (Ne.symm w1),h.gp],by rw [yS hq],by rw [acd,h.len],fun j h1 h2 h3=>by rw [yQ (by omega),h.up j h1 h2 h3]⟩
theorem CS.fin {c:Cx} {H G:List aa} {p q:Nat} {ts ps:List Int} (hD:Du c H) (h:CS c H p q ts ps G) {b:Bool} {Q:Prop} (hb:b=true↔Q) {s:Nat}:bV H.length [.t s] [(s,.bool b)] G (jt c Q H):=by
 obtain ⟨l1,l2,l3⟩:=hD.lt
 refine aX H.length (rC _) (by rw [aA,if_pos rfl];rfl) ?_
 rw [aA,if_pos rfl]
 refine ⟨b,rfl,hb,⟨by rw [ab0,h.len];omega,fun j h1 h2=>?_⟩,h.du.take l1 l2 l3⟩
 rw [aax]
 split
 ·rename_i hj;exact h.up j hj h1 h2
 ·rename_i hj;rw [abL (by omega)]
def KA (c:Cx) (to:List Int) (l:List PP) (a b:List Int):Prop:=
 to.length=b.length∧l.length=b.length∧
 (∀ j,j < b.length→(0≤to.getD j 0∧to.getD j 0 < a.length)∧
   (if (l.getD j default).nil then E c.O (c.tm (a.getD (to.getD j 0).toNat 0)) (c.tm (b.getD j 0)) else Sh c.O (l.getD j default) (c.tm (a.getD (to.getD j 0).toNat 0)) (c.tm (b.getD j 0))))∧
 (∀ x:Nat,x < a.length→0 < cq to l x b.length→cU to x b.length≤1)∧∃ x:Nat,x < a.length∧cq to l x b.length=0
theorem EW {c:Cx} {to:List Int} {l:List PP} {a b:List Int}:KA c to l a b↔Rl (E c.O) (Sh c.O) to l (a.map c.tm) (b.map c.tm):=by
 unfold KA Rl
 simp only [ace]
 refine and_congr_right fun _=>and_congr_right fun _=>and_congr_left fun _=>⟨fun h j hj=>?_,fun h j hj=>?_⟩
 ·obtain ⟨h1,h2⟩:=h j hj
  refine ⟨h1,?_⟩
  rw [cE (by omega),cE hj];exact h2
 ·obtain ⟨h1,h2⟩:=h j hj
  rw [cE (by omega),cE hj] at h2
  exact ⟨h1,h2⟩
structure CI (c:Cx) (to:List Int) (l:List PP) (a b ts ps:List Int) (j:Nat):Prop where
 lt:ts.length=a.length
 lp:ps.length=a.length
 t:∀ x:Nat,x < a.length→ts.getD x 0=cU to x j
 p:∀ x:Nat,x < a.length→ps.getD x 0=cq to l x j
 ok:∀ j',j' < j→(0≤to.getD j' 0∧to.getD j' 0 < a.length)∧
  (if (l.getD j' default).nil then E c.O (c.tm (a.getD (to.getD j' 0).toNat 0)) (c.tm (b.getD j' 0)) else Sh c.O (l.getD j' default) (c.tm (a.getD (to.getD j' 0).toNat 0)) (c.tm (b.getD j' 0)))
theorem CI.step {c:Cx} {to:List Int} {l:List PP} {a b ts ps ps':List Int} {j z:Nat} (h:CI c to l a b ts ps j) (hz:z < a.length) (ht:to.getD j 0=z) (hp:ps'=if (l.getD j default).nil then ps.set z (ps.getD z 0 + 1) else ps)
 (hq:if (l.getD j default).nil then E c.O (c.tm (a.getD z 0)) (c.tm (b.getD j 0)) else Sh c.O (l.getD j default) (c.tm (a.getD z 0)) (c.tm (b.getD j 0))):CI c to l a b (ts.set z (ts.getD z 0 + 1)) ps' (j + 1):=by
 obtain ⟨h1,h2,h3,h4,h5⟩:=h
 refine ⟨by simp [h1],by rw [hp];split <;> simp [h2],fun x hx=>?_,fun x hx=>?_,fun j' vY=>?_⟩
 ·rw [jE (by omega),cU,ht]
  by_cases e:x=z
  ·subst e;rw [if_pos rfl,if_pos rfl,h3 x hx];omega
  ·rw [if_neg e,if_neg (by omega),h3 x hx];omega
 ·rw [hp,cq,ht]
  by_cases hn:(l.getD j default).nil
  ·rw [if_pos hn,jE (by omega)]
   by_cases e:x=z
   ·subst e;rw [if_pos rfl,if_pos ⟨rfl,hn⟩,h4 x hx];omega
   ·rw [if_neg e,if_neg (fun h=>by have:=h.1;omega),h4 x hx];omega
  ·rw [if_neg hn,if_neg (fun h=>hn h.2),h4 x hx];omega
 ·by_cases e:j'=j
  ·subst e;rw [ht];exact ⟨by omega,hq⟩
  ·exact h5 j' (by omega)
theorem pT (to:List Int) (x:Int):∀ n,cU to x n≤n
 | 0=>rC _
 | n + 1=>by rw [cU];have:=pT to x n;split <;> omega
theorem A0 (to:List Int) (l:List PP) (x:Int) (n:Nat):cq to l x n≤n:=abX (pd n) (pT to x n)
theorem EX {m n:Nat} (hm:m < 9223372036854775808) (hn:n < 9223372036854775808):IntKind.i64.wrap ((m:Int) + (n:Int))=0↔m=0∧n=0:=by
 rw [IntKind.wrap_i64]
 omega
theorem uv (n x:Nat):(dE 0 n 0).getD x 0=0:=by
 simp only [dE,List.replicate_zero,List.nil_append,afP,rB,List.getElem?_replicate]
 split <;> rfl
end Go.aK
end
section
set_option maxRecDepth 100000
namespace Go.aK
open Go Go.Proofs Go.eI
theorem aee {c:Cx} {a b:List Int} {va vb:AV} (ha:IL va a) (hb:IL vb b) (la:a.length≤1000000000) (lb:b.length≤1000000000) (p:PP) (hs:∀ x∈a,∀ y∈b,lD c x y) (hh:∀ x∈a,∀ y∈b,∀ q∈p.l,j3 c x y q) {H:List aa} (hD:Du c H) :
 ax Tryz.prog 156 [.ptr c.d 0,va,vb,dA p] H (jt c (KA c p.to p.l a b) H):=by
 refine Yi.2.calls rfl ?_
 simp only [Yi,aG]
 obtain ⟨a1,a2,a3,a4⟩:=ha.one
 obtain ⟨b1,b2,b3,b4⟩:=hb.one
 obtain ⟨p1,p2,p3,p4,p5,p6,p7,p8,p9⟩:=aH p
 have no:¬ KA c p.to p.l a b→bV H.length [.t 8] [(8,.bool false)] H (jt c (KA c p.to p.l a b) H):=fun h=>eW rfl ⟨fun h=>by simp at h,fun h'=>absurd h' h⟩ (Up.refl c H) hD
 by_cases h1:p.to.length=b.length
 ·by_cases h2:p.l.length=b.length
  ·have d1:decide ((p.to.length:Int)≠b.length)=false:=decide_eq_false (by omega)
   have d2:decide ((p.l.length:Int)≠b.length)=false:=decide_eq_false (by omega)
   simp +contextual only [a2,b2,p1,pS,rI,ha.aO,hb.aO,hb.len (by omega),aw,bG,h1,h2,not_true_eq_false,decide_false,sZ,Nat.reduceEqDiff,Nat.reduceAdd,↓reduceIte,reduceCtorEq]
   intro _
   refine Hp (K1:=fun e G=>get e 0=.ptr c.d 0∧get e 1=va∧get e 2=vb∧get e 7=.ai (dA p)∧∃ x y,get e 9=.aZ x 0 a.length a.length∧get e 10=.aZ y 0 a.length a.length∧PQ H x y∧CS c H x y (dE 0 a.length 0) (dE 0 a.length 0) G) ?_ ?_
   ·have key:∀ G,G=H++[cD (dE 0 a.length 0),cD (dE 0 a.length 0)]→CS c H H.length (H.length + 1) (dE 0 a.length 0) (dE 0 a.length 0) G∧CS c H (H.length + 1) H.length (dE 0 a.length 0) (dE 0 a.length 0) G:=by
     rintro G rfl
     exact ⟨⟨hD.ue _,by simp,by simp,by simp,fun j hj _ _=>yO hj⟩,⟨hD.ue _,by simp,by simp,by simp,fun j hj _ _=>yO hj⟩⟩
    have A:=key _ rfl
    simp +contextual only [a2,ha.x8,ha.aO,mkI _ _ _ la,sZ,Nat.reduceEqDiff,Nat.reduceAdd,↓reduceIte,reduceCtorEq]
    refine ⟨⟨_,_,rfl,rfl,⟨by omega,by omega,by omega⟩,?_⟩,⟨_,_,rfl,rfl,⟨by omega,by omega,by omega⟩,?_⟩⟩
    ·exact A.1
    ·exact A.2
   ·rintro e G ⟨e0,e1,e2,e7,x,y,e9,e10,hw,zW⟩
    simp +contextual only [e0,e1,e2,e7,e9,e10,pS,aw,h1,sZ,Nat.reduceEqDiff,↓reduceIte,reduceCtorEq]
    intro _
    refine aJ b.length (fun j (s:List aa×List Int×List Int)=>CS c H x y s.2.1 s.2.2 s.1∧CI c p.to p.l a b s.2.1 s.2.2 j)
     (fun j s=>[(0,.ptr c.d 0),(1,va),(2,vb),(7,.ai (dA p)),(9,.aZ x 0 a.length a.length),(10,.aZ y 0 a.length a.length),(37,.al 0 (ints p.to)),(38,.int .i64 b.length),(39,.int .i64 j)])
     (fun j s=>s.1) (G,dE 0 a.length 0,dE 0 a.length 0) ⟨⟨zW,?_⟩,aB _ _ _⟩ fun j s hj hI=>?_
    ·exact ⟨by simp [dE],by simp [dE],fun z _=>by rw [uv];rfl,fun z _=>by rw [uv];rfl,fun j h=>by omega⟩
    ·obtain ⟨G,ts,ps⟩:=s
     obtain ⟨zW,tC⟩:=hI
     simp only at zW tC
     by_cases EY:(j:Int) < b.length
     ·have mU:j < b.length:=by omega
      obtain ⟨to,vD⟩:∃ to,p.to.getD j 0=to:=⟨_,rfl⟩
      by_cases r1:to < 0
      ·simp +contextual only [EY,decide_true,aM,yP,vD,r1,sZ,Nat.reduceEqDiff,↓reduceIte,reduceCtorEq]
       refine ⟨by omega,zW.fin hD ⟨fun h=>by simp at h,fun h=>?_⟩⟩
       have:=(h.2.2.1 j mU).1;omega
      ·by_cases r2:(a.length:Int)≤to
       ·simp +contextual only [EY,decide_true,decide_false,a2,ha.aO,ha.len (by omega),aM,yP,vD,r1,r2,sZ,Nat.reduceEqDiff,↓reduceIte,reduceCtorEq]
        refine ⟨by omega,zW.fin hD ⟨fun h=>by simp at h,fun h=>?_⟩⟩
        have:=(h.2.2.1 j mU).1;omega
       ·obtain ⟨z,rfl⟩:=abV (show 0≤to by omega)
        have hz:z < a.length:=by omega
        have gt:=zW.gp
        have gp:=zW.gq
        have lt:=tC.lt
        have lp:=tC.lp
        have KW:z < ts.length:=by omega
        have Hq:z < ps.length:=by omega
        simp +contextual only [EY,decide_true,decide_false,a2,ha.aO,ha.len (by omega),aM,yP,vD,r1,r2,iV,gt,nM KW,He KW,sZ,Nat.reduceEqDiff,↓reduceIte,reduceCtorEq]
        have KB:=zW.aec (ts':=ts.set z (IntKind.i64.wrap (ts.getD z 0 + 1))) hD hw
        have tz:=tC.t z hz
        have Cl:=pT p.to z j
        rw [cr _ (by omega)] at KB ⊢
        generalize G.set x (cD (ts.set z (ts.getD z 0 + 1)))=G1 at KB ⊢
        have ql:p.l.getD j default∈p.l:=dr (by omega)
        obtain ⟨q,hq⟩:∃ q,p.l.getD j default=q:=⟨_,rfl⟩
        rw [hq] at ql
        obtain ⟨q1,q2,q3,q4,q5,q6,q7,q8,q9⟩:=aH q
        refine ⟨by omega,hz,hz,?_⟩
        simp +contextual only [rI,l7,iQ,eL,hq,yP,q1,q2,q3,lZ,mK,pS,aw,bG,sZ,Nat.reduceEqDiff,↓reduceIte,reduceCtorEq]
        refine ⟨by omega,fun hr=>⟨fun hi l1 l2=>⟨fun Lh=>?_,fun Lh=>?_⟩,fun hi=>?_⟩,fun hr=>?_⟩
        ·have hwz:=(EX l1 l2).1 Lh
         have oH:(p.l.getD j default).nil:=by rw [hq];exact ⟨hr,hi,aby.1 hwz.1,aby.1 hwz.2⟩
         have gp1:=KB.gq
         have Rn:=KB.aed (ps':=ps.set z (IntKind.i64.wrap (ps.getD z 0 + 1))) hD hw
         have tp:=tC.p z hz
         have ple:=A0 p.to p.l z j
         simp +contextual only [iV,gp1,nM Hq,He Hq,sZ,Nat.reduceEqDiff,↓reduceIte,reduceCtorEq]
         rw [cr _ (by omega)] at Rn ⊢
         generalize G1.set y (cD (ps.set z (ps.getD z 0 + 1)))=G2 at Rn ⊢
         refine ⟨hz,hz,?_⟩
         simp +contextual only [a2,b2,ha.lens,hb.lens,ha.idx,hb.idx,yP,sZ,Nat.reduceEqDiff,Nat.reduceAdd,↓reduceIte,reduceCtorEq]
         refine ⟨by omega,by omega,af (hs _ (aT hz) _ (aT mU) G2 Rn.du) ?_⟩
         rintro r G3 ⟨w,rfl,hwE,hU,Nh⟩
         have Nv:=Rn.call hD hw hU Nh
         cases w with
         | false=>
           simp +contextual only [Bool.not_false,sZ,Nat.reduceEqDiff,↓reduceIte,reduceCtorEq]
           refine Nv.fin hD ⟨fun h=>by simp at h,fun h=>?_⟩
           have:=(h.2.2.1 j mU).2
           rw [if_pos oH,vD,yP] at this
           exact hwE.2 this
         | true=>
           simp +contextual only [Bool.not_true,sZ,Nat.reduceEqDiff,↓reduceIte,reduceCtorEq]
           refine ⟨j + 1,(G3,_,_),⟨mU,Nv,tC.step hz vD (by rw [if_pos oH]) (by rw [if_pos oH];exact hwE.1 rfl)⟩,by omega,aE (by rw [au j (by omega)]) rfl⟩
        all_goals
         have oH:¬ (p.l.getD j default).nil:=by
          rw [hq]
          rintro ⟨n1,n2,n3,n4⟩
          first | exact hr n1 | exact hi n2 | exact Lh ((EX l1 l2).2 ⟨by rw [n3];rfl,by rw [n4];rfl⟩)
         simp +contextual only [a2,b2,q4,ha.lens,hb.lens,ha.idx,hb.idx,yP,eL,sZ,Nat.reduceEqDiff,Nat.reduceAdd,↓reduceIte,reduceCtorEq]
         refine ⟨by omega,by omega,af (hh _ (aT hz) _ (aT mU) q ql G1 KB.du) ?_⟩
         rintro r G3 ⟨w,rfl,hwE,hU,Nh⟩
         have Nv:=KB.call hD hw hU Nh
         cases w with
         | false=>
           simp +contextual only [Bool.not_false,sZ,Nat.reduceEqDiff,↓reduceIte,reduceCtorEq]
           refine Nv.fin hD ⟨fun h=>by simp at h,fun h=>?_⟩
           have:=(h.2.2.1 j mU).2
           rw [if_neg oH,vD,hq,yP] at this
           exact hwE.2 this
         | true=>
           simp +contextual only [Bool.not_true,sZ,Nat.reduceEqDiff,↓reduceIte,reduceCtorEq]
           refine ⟨j + 1,(G3,_,_),⟨mU,Nv,tC.step hz vD (by rw [if_neg oH]) (by rw [if_neg oH,hq];exact hwE.1 rfl)⟩,by omega,aE (by rw [au j (by omega)]) rfl⟩
     ·have V8:j=b.length:=by omega
      subst V8
      simp +contextual only [EY,decide_false,a2,ha.aO,ha.len (by omega),sZ,Nat.reduceEqDiff,↓reduceIte,reduceCtorEq]
      refine aJ a.length (fun x' (f:Bool)=>(∀ z:Nat,z < x'→0 < cq p.to p.l z b.length→cU p.to z b.length≤1)∧(f=true↔∃ z:Nat,z < x'∧cq p.to p.l z b.length=0))
       (fun x' f=>[(9,.aZ x 0 a.length a.length),(10,.aZ y 0 a.length a.length),(14,.bool f),(112,.int .i64 a.length),(113,.int .i64 x')]) (fun _ _=>G) false
       ⟨⟨fun z h=>by omega,⟨fun h=>by simp at h,fun ⟨z,h,_⟩=>by omega⟩⟩,aB _ _ _⟩ fun z f hz hI=>?_
      obtain ⟨jy,zV⟩:=hI
      by_cases yT:(z:Int) < a.length
      ·have eS:z < a.length:=by omega
       have gt:=zW.gp
       have gp:=zW.gq
       have lt:=tC.lt
       have lp:=tC.lp
       have KW:z < ts.length:=by omega
       have Hq:z < ps.length:=by omega
       have tz:=tC.t z eS
       have pz:=tC.p z eS
       by_cases k1:cq p.to p.l z b.length=0
       ·have p0:ps.getD z 0=0:=by omega
        cases f <;>
         (simp +contextual only [yT,decide_true,iV,gp,nM Hq,p0,Int.lt_irrefl,decide_false,sZ,Nat.reduceEqDiff,↓reduceIte,reduceCtorEq]
          refine ⟨eS,?_⟩
          first
           | refine ⟨eS,z + 1,true,⟨eS,fun z' EN=>?_,⟨fun _=>⟨z,by omega,k1⟩,fun _=>rfl⟩⟩,by omega,aE (by rw [au z (by omega)]) rfl⟩
           | refine ⟨z + 1,true,⟨eS,fun z' EN=>?_,⟨fun _=>⟨z,by omega,k1⟩,fun _=>rfl⟩⟩,by omega,aE (by rw [au z (by omega)]) rfl⟩
          by_cases e:z'=z
          ·subst e;intro h;omega
          ·exact jy z' (by omega))
       ·have p0:(0 < ps.getD z 0)=True:=eq_true (by omega)
        have p1':(ps.getD z 0=0)=False:=eq_false (by omega)
        by_cases k2:cU p.to z b.length≤1
        ·have t0:(1 < ts.getD z 0)=False:=eq_false (by omega)
         have nxt:(∀ z':Nat,z' < z + 1→0 < cq p.to p.l z' b.length→cU p.to z' b.length≤1):=by
          intro z' EN
          by_cases e:z'=z
          ·subst e;intro _;exact k2
          ·exact jy z' (by omega)
         have nfr:(f=true↔∃ z':Nat,z' < z + 1∧cq p.to p.l z' b.length=0):=by
          rw [zV]
          constructor
          ·rintro ⟨z',h1,h2⟩;exact ⟨z',by omega,h2⟩
          ·rintro ⟨z',h1,h2⟩
           have:z'≠z:=fun e=>k1 (e ▸ h2)
           exact ⟨z',by omega,h2⟩
         cases f <;>
          (simp +contextual only [yT,decide_true,iV,gt,gp,nM KW,nM Hq,p0,p1',t0,decide_false,sZ,Nat.reduceEqDiff,↓reduceIte,reduceCtorEq]
           refine ⟨eS,eS,?_⟩
           first
            | exact ⟨eS,z + 1,_,⟨eS,nxt,nfr⟩,by omega,aE (by rw [au z (by omega)]) rfl⟩
            | exact ⟨z + 1,_,⟨eS,nxt,nfr⟩,by omega,aE (by rw [au z (by omega)]) rfl⟩)
        ·have t0:(1 < ts.getD z 0)=True:=eq_true (by omega)
         simp +contextual only [yT,decide_true,iV,gt,gp,nM KW,nM Hq,p0,t0,sZ,Nat.reduceEqDiff,↓reduceIte,reduceCtorEq]
         refine ⟨eS,eS,zW.fin hD ⟨fun h=>by simp at h,fun h=>?_⟩⟩
         exact absurd (h.2.2.2.1 z eS (by omega)) k2
      ·have hze:z=a.length:=by omega
       subst hze
       simp +contextual only [yT,decide_false,sZ,Nat.reduceEqDiff,↓reduceIte,reduceCtorEq]
       refine zW.fin hD ?_
       rw [zV]
       exact ⟨fun h=>⟨h1,h2,tC.ok,jy,h⟩,fun h=>h.2.2.2.2⟩
  ·have d1:decide ((p.to.length:Int)≠b.length)=false:=decide_eq_false (by omega)
   have d2:((p.l.length:Int)=b.length)=False:=eq_false (by omega)
   simp +contextual only [b2,p1,pS,rI,hb.aO,hb.len (by omega),aw,bG,h1,d2,not_true_eq_false,not_false_eq_true,decide_false,decide_true,sZ,Nat.reduceEqDiff,Nat.reduceAdd,↓reduceIte,reduceCtorEq]
   intro _ _
   exact no fun h=>h2 h.2.1
 ·have d1:((p.to.length:Int)=b.length)=False:=eq_false (by omega)
  simp +contextual only [b2,p1,pS,hb.aO,hb.len (by omega),aw,d1,not_false_eq_true,decide_true,sZ,Nat.reduceEqDiff,Nat.reduceAdd,↓reduceIte,reduceCtorEq]
  intro _
  exact no fun h=>h1 h.1
end Go.aK
end
section
set_option maxRecDepth 100000
set_option maxHeartbeats 0
namespace Go.aK
open Go Go.Proofs
noncomputable def zJ:=aG Tryz.call87 Tryz.func87 Tryz.ntmps87 [(0,0,1),(0,1,1),(0,2,1),(12,7,2000),(13,11,2000),(17,10,2000),(20,36,2000),(23,3,2000),(24,20,2000),(24,27,2000),(26,10,2000)] [(0,[2,4,5,7]),(1,[2,4,5,7,9,10]),(2,[2,4,5,7,9,10,11]),(3,[2,4,5,7,9,10,11,14]),(4,[2,4,5,7,9,10,11,76]),(5,[8]),(6,[2,4,5,7,9,10,11,15,16]),(7,[2,4,5,7,9,10,11,15,16,85]),(8,[2,4,5,7,9,10,11,15,16,85,86]),(9,[2,4,7,9,103]),(10,[8]),(11,[2,4,7,9,107]),(12,[8]),(13,[8]),(14,[2,4,5,7,9,10,11,15,16,85,128]),(15,[2,4,7,11,17]),(16,[7,11,17,20,22]),(17,[8]),(18,[4,7,9,10,11,15,16,85,156]),(19,[4,7,11,15,16,23,24]),(20,[4,7,11,23,24,202]),(21,[8]),(22,[4,7,11,23,24,207]),(23,[8]),(24,[8]),(25,[4,7,9,10,15,16,241]),(26,[8]),(27,[8])] [(1,(.take 0 true (.take 1 true (.take 2 true (.take 3 true (.take 4 true (.take 5 true (.take 6 true (.take 7 true (.take 8 true (.take 9 true (.take 10 true (.take 11 true (.take 12 true (.take 13 true (.take 14 true (.take 15 true (.br 16 (.take 17 true (.br 18 .done .nil)) .nil)))))))))))))))))),(12,(.take 0 true (.take 1 true (.take 2 true (.take 3 true (.take 4 true (.take 5 true (.take 6 true (.br 7 (.take 8 true .done) .nil))))))))),(13,(.take 0 true (.take 1 true (.take 2 true (.take 3 true (.take 4 true (.take 5 true (.take 6 true (.take 7 true (.take 8 true (.take 9 true (.take 10 true (.br 11 (.take 12 true .done) .nil))))))))))))),(19,(.take 0 true (.take 1 true (.take 2 true (.take 3 true (.take 4 true (.take 5 true (.take 6 true (.take 7 true .done))))))))),(20,(.take 0 true (.take 1 true (.take 2 true (.take 3 true (.take 4 true (.take 5 true (.take 6 true (.take 7 true (.take 8 true (.take 9 true (.take 10 true (.take 11 true (.take 12 true (.take 13 true (.take 14 true (.take 15 true (.take 16 true (.take 17 true (.take 18 true (.take 19 true (.take 20 true (.take 21 true (.take 22 true (.take 23 true (.take 24 true (.take 25 true (.take 26 true (.take 27 true (.take 28 true (.take 29 true (.take 30 true (.take 31 true (.take 32 true (.take 33 true (.take 34 true (.take 35 true (.br 36 (.take 37 true (.take 38 true .done)) .nil)))))))))))))))))))))))))))))))))))))),(24,(.take 0 true (.take 1 true (.take 2 true (.take 3 true (.take 4 true (.take 5 true (.take 6 true (.take 7 true (.take 8 true (.take 9 true (.take 10 true (.take 11 true (.take 12 true (.take 13 true (.take 14 true (.take 15 true (.take 16 true (.take 17 true (.take 18 true (.take 19 true (.br 20 (.take 21 true (.take 22 true (.take 23 true (.take 24 true (.take 25 true (.take 26 true (.br 27 (.take 28 true (.take 29 true .done)) .nil))))))) .nil))))))))))))))))))))))]
end Go.aK
end
section
set_option maxRecDepth 100000
namespace Go.aK
open Go Go.Proofs Go.eI
theorem EZ {O:Od} {p:PP} {a b:T} (h:Sh O p a b):a.k=2:=(lY.1 h).1
theorem Sh1 {O:Od} {p:PP} {a b:T} (hr:p.r=1) (ha:a.k=2):Sh O p a b↔p.to=[]∧(0≤p.i∧p.i < a.l.length)∧((p.l=[]∧E O (a.l.getD p.i.toNat default) b)∨∃ q,p.l=[q]∧Sh O q (a.l.getD p.i.toNat default) b):=by
 rw [lY,Fs];simp [hr,ha]
theorem Sh2 {O:Od} {p:PP} {a b:T} (hr:p.r=2) (ha:a.k=2):Sh O p a b↔p.to=[]∧p.i=0∧b.k=2∧O.pl b.n < O.pl a.n∧lf (Sh O) p.l a b.l:=by
 rw [lY,Fs];simp [hr,ha]
theorem Sh3 {O:Od} {p:PP} {a b:T} (hr:p.r=3) (ha:a.k=2):Sh O p a b↔p.to=[]∧b.k=2∧O.pl a.n=O.pl b.n∧O.sp (O.pl a.n)≠3∧CB (E O) (Sh O) p.i p.l a (side (O.sp (O.pl a.n)) a.l) (side (O.sp (O.pl a.n)) b.l) b.l:=by
 rw [lY,Fs];simp [hr,ha]
theorem Sh4 {O:Od} {p:PP} {a b:T} (hr:p.r=4) (ha:a.k=2):Sh O p a b↔p.i=0∧b.k=2∧O.pl a.n=O.pl b.n∧O.sp (O.pl a.n)=3∧Rl (E O) (Sh O) p.to p.l a.l b.l:=by
 rw [lY,Fs];simp [hr,ha]
theorem Sh0 {O:Od} {p:PP} {a b:T} (h1:p.r≠1) (h2:p.r≠2) (h3:p.r≠3) (h4:p.r≠4):¬ Sh O p a b:=by
 rw [lY,Fs];simp [h1,h2,h3,h4]
theorem slT (l:List Int) (n:Int) (h:0≤n∧n≤l.length) (φ:AV→Prop):bA 1 (.al 0 (ints l)) none (some (.int .i64 n)) none φ=φ (.al 0 (ints (l.take n.toNat))):=by
 have er:dB (AV.al 0 (ints l))=some (ints l):=rfl
 have e2:((ints l).take n.toNat).drop 0=ints (l.take n.toNat):=by rw [List.drop_zero,mF]
 simp only [bA,fD,er,eo,e2,eq_iff_iff]
 constructor
 ·intro h;exact h.2.2.2.2
 ·intro h'
  refine ⟨fun own xs he z hz=>?_,by omega,by omega,by have:=aw l;omega,h'⟩
  cases he
  obtain ⟨y,_,rfl⟩:=aal.1 hz
  rfl
theorem S3 (x:PP) (r:List PP) (φ:AV→Prop):bA 4 (.al 0 (dx (x::r))) (some (.int .i64 1)) none none φ=φ (.al 0 (dx r)):=by
 have er:dB (AV.al 0 (dx (x::r)))=some (dx (x::r)):=rfl
 have e1:(1:Int).toNat=1:=rfl
 have e2:((dx (x::r)).take (dx (x::r)).length).drop 1=dx r:=by rw [abp];rfl
 simp only [bA,fD,er,eo,e1,e2,eq_iff_iff]
 constructor
 ·intro h;exact h.2.2.2.2
 ·intro h
  refine ⟨fun own xs he z hz=>of_eq_true (iQ 0 (x::r)) own xs he z hz,by omega,by simp [bG],rC _,h⟩
theorem pU {s:Int} {l:List Int} {x:Int}:x∈bt s l↔x∈l:=by unfold bt;split <;> simp
theorem aam {c:Cx} (hc:c.Ok) {p:PP} {i k:Int} (hi:c.ep i) (hk:c.ep k) (gM:∀ q∈p.l,∀ x y,c.ep x→c.ep y→j3 c x y q) (qp:p.r=1):j3 c i k p:=by
 intro H hD
 refine zJ.2.calls rfl ?_
 simp only [zJ,aG]
 obtain ⟨p1,p2,p3,p4,p5,p6,p7,p8,p9⟩:=aH p
 have k2:∀ l,(bu l).ab=bu l:=fun l=>(aI l).2.1
 have ki:=hc.kids i hi
 have kk:=hc.kids k hk
 have l1:=hc.kl i hi
 have l2:=hc.kl k hk
 obtain ⟨a1,a2,a3,a4,a5⟩:=aI (c.kd i)
 obtain ⟨b1,b2,b3,b4,b5⟩:=aI (c.kd k)
 have ii:IL (bu (c.kd i)) (c.kd i):=.inl rfl
 have ik:IL (bu (c.kd k)) (c.kd k):=.inl rfl
 have ei:(c.nd.getD i.toNat default).snd=c.kd i:=rfl
 have ek:(c.nd.getD k.toNat default).snd=c.kd k:=rfl
 obtain ⟨m1,m2,m3⟩:=hD.lt
 have oh:Du c (H++[.cells [bu (c.kd k)]]):=hD.ue _
 have fin:∀ G (b:Bool),Up c (H++[.cells [bu (c.kd k)]]) G→Du c G→(b=true↔Sh c.O p (c.tm i) (c.tm k))→bV H.length [.t 8] [(8,.bool b)] G (jt c (Sh c.O p (c.tm i) (c.tm k)) H):=by
  intro G b u d hb
  refine aX H.length (rC _) (by rw [aA,if_pos rfl];rfl) ?_
  rw [aA,if_pos rfl]
  exact ⟨b,rfl,hb,u.take,d.take m1 m2 m3⟩
 have fin0:¬ Sh c.O p (c.tm i) (c.tm k)→bV H.length [.t 8] [(8,.bool false)] (H++[.cells [bu (c.kd k)]]) (jt c (Sh c.O p (c.tm i) (c.tm k)) H):=
  fun h=>fin _ _ (Up.refl c _) oh ⟨fun h=>by simp at h,fun h'=>absurd h' h⟩
 have spv:∀ x:AV,ah [AV.ag] 0 [x]=[x]:=fun x=>rfl
 simp +contextual only [p1,hD.d,nK,FD,cT,cn,k2,ei,ek,b1,b3,b4,b5,List.map_cons,List.map_nil,spv,List.all_cons,List.all_nil,acb,bP,c9,sZ,Nat.reduceEqDiff,Nat.reduceAdd,Nat.reduceLT,↓reduceIte,reduceCtorEq]
 refine ⟨hi,hk,af (rf hc hi oh) ?_⟩
 rintro r H2 ⟨rfl,rfl⟩
 cases hb:td c i with
 | false=>
   have ki2:¬ (c.tm i).k=2:=of_decide_eq_false hb
   simp +contextual only [dQ,gb,gf,gg,hb,Bool.not_false,sZ,Nat.reduceEqDiff,↓reduceIte,reduceCtorEq]
   exact fin0 fun h=>ki2 (EZ h)
 | true=>
 have ki2:(c.tm i).k=2:=of_decide_eq_true hb
 have Hr:∀ (j:Int),(0≤j∧j < (c.kd i).length)→(c.tm i).l.getD j.toNat default=c.tm ((c.kd i).getD j.toNat 0):=fun j hj=>by rw [← ki.1,cE (by omega)]
 have klen:(c.tm i).l.length=(c.kd i).length:=by rw [← ki.1];simp
 have kn:∀ (j:Int),(0≤j∧j < (c.kd i).length)→c.ep ((c.kd i).getD j.toNat 0):=fun j hj=>ki.2 _ (aT (by omega))
 have lvun:(AV.tuple [.int .i64 (dP c i),.bool (vX c i k)]).ab=.tuple [.int .i64 (dP c i),.bool (vX c i k)]:=rfl
 have hS:=Sh1 (O:=c.O) (b:=c.tm k) qp ki2
 rw [klen] at hS
 simp +contextual only [dQ,gb,gf,gg,hb,Bool.not_true,lZ,pS,qp,not_true_eq_false,not_false_eq_true,decide_true,decide_false,aw,sZ,Nat.reduceEqDiff,Nat.reduceAdd,↓reduceIte,reduceCtorEq,Int.reduceEq]
 refine fun _=>⟨fun h0=>?_,fun h0=>fin0 fun h=>?_⟩
 ·have vD:p.to=[]:=aby.1 (by omega)
  refine af (Hd hc hi hk oh) ?_
  rintro r H2 ⟨rfl,rfl⟩
  by_cases hI:0≤p.i∧p.i < (c.kd i).length
  ·have n1:(p.i < 0)=False:=eq_false (by omega)
   have n2:(((c.kd i).length:Int)≤p.i)=False:=eq_false (by omega)
   have hkn:=kn p.i hI
   rw [Hr p.i hI] at hS
   by_cases hL:p.l.length≤1
   ·have n3:(1 < (p.l.length:Int))=False:=eq_false (by omega)
    by_cases hL0:p.l.length=0
    ·have n4:((p.l.length:Int)=0)=True:=eq_true (by omega)
     simp +contextual only [k2,ii.aO,ii.len (by omega),ii.lens,ii.idx,lZ,mK,rI,bG,lvun,decide_true,decide_false,qp,n1,n2,n3,n4,sZ,Nat.reduceEqDiff,Nat.reduceAdd,Nat.reduceLT,↓reduceIte,reduceCtorEq]
     refine fun _=>⟨hI,af (kV hc hkn hk _ oh) ?_⟩
     rintro r G ⟨x,rfl,hx,hU,kh⟩
     simp +contextual only [sZ,↓reduceIte,reduceCtorEq]
     refine fin G x hU kh ?_
     rw [hx,hS]
     have:p.l=[]:=aby.1 hL0
     simp [vD,hI,this]
    ·have n4:((p.l.length:Int)=0)=False:=eq_false (by omega)
     have hm:p.l.getD 0 default∈p.l:=dr (by omega)
     obtain ⟨q1,q2,q3,q4,q5,q6,q7,q8,q9⟩:=aH (p.l.getD 0 default)
     have t0:(0:Int).toNat=0:=rfl
     simp +contextual only [k2,ii.aO,ii.len (by omega),ii.lens,ii.idx,lZ,mK,rI,l7,iQ,eL,bG,lvun,decide_true,decide_false,qp,n1,n2,n3,n4,t0,q4,sZ,Nat.reduceEqDiff,Nat.reduceAdd,Nat.reduceLT,↓reduceIte,reduceCtorEq]
     refine fun _=>⟨hI,⟨by omega,by omega⟩,af (gM _ hm _ _ hkn hk _ oh) ?_⟩
     rintro r G ⟨x,rfl,hx,hU,kh⟩
     simp +contextual only [sZ,↓reduceIte,reduceCtorEq]
     refine fin G x hU kh ?_
     rw [hx,hS]
     obtain ⟨q,hq⟩:∃ q,p.l=[q]:=List.length_eq_one_iff.1 (by omega)
     simp [vD,hI,hq]
   ·have n3:(1 < (p.l.length:Int))=True:=eq_true (by omega)
    simp +contextual only [k2,ii.aO,ii.len (by omega),lZ,mK,rI,bG,lvun,decide_true,decide_false,qp,n1,n2,n3,sZ,Nat.reduceEqDiff,Nat.reduceAdd,Nat.reduceLT,↓reduceIte,reduceCtorEq]
    refine fun _=>fin0 fun h=>?_
    rcases (hS.1 h).2.2 with h | ⟨q,h,_⟩
    ·rw [h.1] at hL;simp at hL
    ·rw [h] at hL;simp at hL
  ·by_cases hI0:p.i < 0
   ·simp +contextual only [lZ,mK,lvun,decide_true,qp,hI0,sZ,Nat.reduceEqDiff,Nat.reduceAdd,Nat.reduceLT,↓reduceIte,reduceCtorEq]
    exact fin0 fun h=>hI (hS.1 h).2.1
   ·have n2:(((c.kd i).length:Int)≤p.i)=True:=eq_true (by omega)
    simp +contextual only [k2,ii.aO,ii.len (by omega),lZ,mK,lvun,decide_true,decide_false,qp,hI0,n2,sZ,Nat.reduceEqDiff,Nat.reduceAdd,Nat.reduceLT,↓reduceIte,reduceCtorEq]
    exact fin0 fun h=>hI (hS.1 h).2.1
 ·rw [(hS.1 h).1] at h0;simp at h0
theorem aan {c:Cx} (hc:c.Ok) {p:PP} {i k:Int} (hi:c.ep i) (hk:c.ep k) (gM:∀ q∈p.l,∀ x y,c.ep x→c.ep y→j3 c x y q) (oq:p.r=2):j3 c i k p:=by
 intro H hD
 refine zJ.2.calls rfl ?_
 simp only [zJ,aG]
 obtain ⟨p1,p2,p3,p4,p5,p6,p7,p8,p9⟩:=aH p
 have k2:∀ l,(bu l).ab=bu l:=fun l=>(aI l).2.1
 have ki:=hc.kids i hi
 have kk:=hc.kids k hk
 have l1:=hc.kl i hi
 have l2:=hc.kl k hk
 obtain ⟨a1,a2,a3,a4,a5⟩:=aI (c.kd i)
 obtain ⟨b1,b2,b3,b4,b5⟩:=aI (c.kd k)
 have ii:IL (bu (c.kd i)) (c.kd i):=.inl rfl
 have ik:IL (bu (c.kd k)) (c.kd k):=.inl rfl
 have ei:(c.nd.getD i.toNat default).snd=c.kd i:=rfl
 have ek:(c.nd.getD k.toNat default).snd=c.kd k:=rfl
 obtain ⟨m1,m2,m3⟩:=hD.lt
 have oh:Du c (H++[.cells [bu (c.kd k)]]):=hD.ue _
 have fin:∀ G (b:Bool),Up c (H++[.cells [bu (c.kd k)]]) G→Du c G→(b=true↔Sh c.O p (c.tm i) (c.tm k))→bV H.length [.t 8] [(8,.bool b)] G (jt c (Sh c.O p (c.tm i) (c.tm k)) H):=by
  intro G b u d hb
  refine aX H.length (rC _) (by rw [aA,if_pos rfl];rfl) ?_
  rw [aA,if_pos rfl]
  exact ⟨b,rfl,hb,u.take,d.take m1 m2 m3⟩
 have fin0:¬ Sh c.O p (c.tm i) (c.tm k)→bV H.length [.t 8] [(8,.bool false)] (H++[.cells [bu (c.kd k)]]) (jt c (Sh c.O p (c.tm i) (c.tm k)) H):=
  fun h=>fin _ _ (Up.refl c _) oh ⟨fun h=>by simp at h,fun h'=>absurd h' h⟩
 have spv:∀ x:AV,ah [AV.ag] 0 [x]=[x]:=fun x=>rfl
 simp +contextual only [p1,hD.d,nK,FD,cT,cn,k2,ei,ek,b1,b3,b4,b5,List.map_cons,List.map_nil,spv,List.all_cons,List.all_nil,acb,bP,c9,sZ,Nat.reduceEqDiff,Nat.reduceAdd,Nat.reduceLT,↓reduceIte,reduceCtorEq]
 refine ⟨hi,hk,af (rf hc hi oh) ?_⟩
 rintro r H2 ⟨rfl,rfl⟩
 cases hb:td c i with
 | false=>
   have ki2:¬ (c.tm i).k=2:=of_decide_eq_false hb
   simp +contextual only [dQ,gb,gf,gg,hb,Bool.not_false,sZ,Nat.reduceEqDiff,↓reduceIte,reduceCtorEq]
   exact fin0 fun h=>ki2 (EZ h)
 | true=>
 have ki2:(c.tm i).k=2:=of_decide_eq_true hb
 have Hr:∀ (j:Int),(0≤j∧j < (c.kd i).length)→(c.tm i).l.getD j.toNat default=c.tm ((c.kd i).getD j.toNat 0):=fun j hj=>by rw [← ki.1,cE (by omega)]
 have klen:(c.tm i).l.length=(c.kd i).length:=by rw [← ki.1];simp
 have kn:∀ (j:Int),(0≤j∧j < (c.kd i).length)→c.ep ((c.kd i).getD j.toNat 0):=fun j hj=>ki.2 _ (aT (by omega))
 have lvun:(AV.tuple [.int .i64 (dP c i),.bool (vX c i k)]).ab=.tuple [.int .i64 (dP c i),.bool (vX c i k)]:=rfl
 have hS:=Sh2 (O:=c.O) (b:=c.tm k) oq ki2
 have e1:((2:Int)=1)=False:=by simp
 simp +contextual only [dQ,gb,gf,gg,hb,Bool.not_true,lZ,mK,pS,oq,not_true_eq_false,not_false_eq_true,decide_true,decide_false,aw,sZ,Nat.reduceEqDiff,Nat.reduceAdd,↓reduceIte,reduceCtorEq,Int.reduceEq]
 have fAll:∀ (G:List aa) (Q:Prop) (b0:Bool),True:=fun _ _ _=>trivial
 have hAS:lf (Sh c.O) p.l (c.tm i) ((c.kd k).map c.tm)↔lf (Sh c.O) p.l (c.tm i) (c.tm k).l:=by rw [kk.1]
 refine fun _=>⟨fun h0=>⟨fun we=>fin0 fun h=>we (hS.1 h).2.1,fun we=>?_⟩,fun h0=>fin0 fun h=>?_⟩
 ·have vD:p.to=[]:=aby.1 (by omega)
  refine af (Hd hc hi hk oh) ?_
  rintro r H2 ⟨rfl,rfl⟩
  simp +contextual only [lZ,lvun,decide_true,decide_false,oq,e1,sZ,Nat.reduceEqDiff,Nat.reduceAdd,Nat.reduceLT,↓reduceIte]
  refine af (rf hc hi oh) ?_
  rintro r H2 ⟨rfl,rfl⟩
  simp +contextual only [dQ,gb,gf,gg,sZ,Nat.reduceEqDiff,Nat.reduceAdd,↓reduceIte]
  refine af (rf hc hk oh) ?_
  rintro r H2 ⟨rfl,rfl⟩
  have opi:rc c i=c.O.pl (c.tm i).n:=by rw [rc,if_pos ki2]
  cases Hg:td c k with
  | false=>
    have kk2:¬ (c.tm k).k=2:=of_decide_eq_false Hg
    simp +contextual only [dQ,gb,gf,gg,Hg,sZ,Nat.reduceEqDiff,↓reduceIte,reduceCtorEq]
    exact fin0 fun h=>kk2 (hS.1 h).2.2.1
  | true=>
    have kk2:(c.tm k).k=2:=of_decide_eq_true Hg
    have opk:rc c k=c.O.pl (c.tm k).n:=by rw [rc,if_pos kk2]
    by_cases aS:rc c k < rc c i
    ·simp +contextual only [rI,decide_true,dQ,gb,gf,gg,Hg,aS,sZ,Nat.reduceEqDiff,Nat.reduceAdd,↓reduceIte,reduceCtorEq]
     refine af (V7 ik (by omega) (q:=H.length) ⟨by omega,by omega⟩ (fun j h1 h2=>gM _ (dr h2) _ _ hi (kk.2 _ (aT h1))) oh (by simp)) ?_
     rintro r G ⟨x,rfl,hx,hU,kh⟩
     simp +contextual only [sZ,Nat.reduceEqDiff,↓reduceIte,reduceCtorEq]
     refine fin G x hU kh ?_
     rw [hx,hS,hAS]
     rw [opi,opk] at aS
     simp [vD,we,kk2,aS]
    ·simp +contextual only [decide_false,dQ,gb,gf,gg,Hg,aS,sZ,Nat.reduceEqDiff,↓reduceIte,reduceCtorEq]
     refine fin0 fun h=>aS ?_
     rw [opi,opk]
     exact (hS.1 h).2.2.2.1
 ·rw [(hS.1 h).1] at h0;simp at h0
theorem aao {c:Cx} (hc:c.Ok) {p:PP} {i k:Int} (hi:c.ep i) (hk:c.ep k) (gM:∀ q∈p.l,∀ x y,c.ep x→c.ep y→j3 c x y q) (FE:p.r=4):j3 c i k p:=by
 intro H hD
 refine zJ.2.calls rfl ?_
 simp only [zJ,aG]
 obtain ⟨p1,p2,p3,p4,p5,p6,p7,p8,p9⟩:=aH p
 have k2:∀ l,(bu l).ab=bu l:=fun l=>(aI l).2.1
 have ki:=hc.kids i hi
 have kk:=hc.kids k hk
 have l1:=hc.kl i hi
 have l2:=hc.kl k hk
 obtain ⟨a1,a2,a3,a4,a5⟩:=aI (c.kd i)
 obtain ⟨b1,b2,b3,b4,b5⟩:=aI (c.kd k)
 have ii:IL (bu (c.kd i)) (c.kd i):=.inl rfl
 have ik:IL (bu (c.kd k)) (c.kd k):=.inl rfl
 have ei:(c.nd.getD i.toNat default).snd=c.kd i:=rfl
 have ek:(c.nd.getD k.toNat default).snd=c.kd k:=rfl
 obtain ⟨m1,m2,m3⟩:=hD.lt
 have oh:Du c (H++[.cells [bu (c.kd k)]]):=hD.ue _
 have fin:∀ G (b:Bool),Up c (H++[.cells [bu (c.kd k)]]) G→Du c G→(b=true↔Sh c.O p (c.tm i) (c.tm k))→bV H.length [.t 8] [(8,.bool b)] G (jt c (Sh c.O p (c.tm i) (c.tm k)) H):=by
  intro G b u d hb
  refine aX H.length (rC _) (by rw [aA,if_pos rfl];rfl) ?_
  rw [aA,if_pos rfl]
  exact ⟨b,rfl,hb,u.take,d.take m1 m2 m3⟩
 have fin0:¬ Sh c.O p (c.tm i) (c.tm k)→bV H.length [.t 8] [(8,.bool false)] (H++[.cells [bu (c.kd k)]]) (jt c (Sh c.O p (c.tm i) (c.tm k)) H):=
  fun h=>fin _ _ (Up.refl c _) oh ⟨fun h=>by simp at h,fun h'=>absurd h' h⟩
 have spv:∀ x:AV,ah [AV.ag] 0 [x]=[x]:=fun x=>rfl
 simp +contextual only [p1,hD.d,nK,FD,cT,cn,k2,ei,ek,b1,b3,b4,b5,List.map_cons,List.map_nil,spv,List.all_cons,List.all_nil,acb,bP,c9,sZ,Nat.reduceEqDiff,Nat.reduceAdd,Nat.reduceLT,↓reduceIte,reduceCtorEq]
 refine ⟨hi,hk,af (rf hc hi oh) ?_⟩
 rintro r H2 ⟨rfl,rfl⟩
 cases hb:td c i with
 | false=>
   have ki2:¬ (c.tm i).k=2:=of_decide_eq_false hb
   simp +contextual only [dQ,gb,gf,gg,hb,Bool.not_false,sZ,Nat.reduceEqDiff,↓reduceIte,reduceCtorEq]
   exact fin0 fun h=>ki2 (EZ h)
 | true=>
 have ki2:(c.tm i).k=2:=of_decide_eq_true hb
 have Hr:∀ (j:Int),(0≤j∧j < (c.kd i).length)→(c.tm i).l.getD j.toNat default=c.tm ((c.kd i).getD j.toNat 0):=fun j hj=>by rw [← ki.1,cE (by omega)]
 have klen:(c.tm i).l.length=(c.kd i).length:=by rw [← ki.1];simp
 have kn:∀ (j:Int),(0≤j∧j < (c.kd i).length)→c.ep ((c.kd i).getD j.toNat 0):=fun j hj=>ki.2 _ (aT (by omega))
 have lvun:(AV.tuple [.int .i64 (dP c i),.bool (vX c i k)]).ab=.tuple [.int .i64 (dP c i),.bool (vX c i k)]:=rfl
 have hS:=Sh4 (O:=c.O) (b:=c.tm k) FE ki2
 have e1:((4:Int)=1)=False:=by simp
 simp +contextual only [dQ,gb,gf,gg,hb,Bool.not_true,lZ,mK,FE,not_true_eq_false,not_false_eq_true,decide_true,decide_false,sZ,Nat.reduceEqDiff,Nat.reduceAdd,↓reduceIte,reduceCtorEq,Int.reduceEq]
 refine ⟨fun we=>fin0 fun h=>we (hS.1 h).1,fun we=>?_⟩
 refine af (Hd hc hi hk oh) ?_
 rintro r H2 ⟨rfl,rfl⟩
 have opi:rc c i=c.O.pl (c.tm i).n:=by rw [rc,if_pos ki2]
 have osi:dP c i=c.O.sp (c.O.pl (c.tm i).n):=by rw [dP,if_pos ki2]
 cases hl:vX c i k with
 | false=>
   simp +contextual only [lZ,decide_true,decide_false,FE,e1,sZ,Nat.reduceEqDiff,Nat.reduceAdd,Nat.reduceLT,↓reduceIte,reduceCtorEq,Int.reduceEq]
   exact fin0 fun h=>by
    have:=hS.1 h
    rw [lE.2 ⟨ki2,this.2.1,this.2.2.1⟩] at hl
    cases hl
 | true=>
   have Nw:=lE.1 hl
   by_cases CE:dP c i=3
   ·simp +contextual only [p4,k2,lZ,eL,decide_true,decide_false,FE,e1,CE,sZ,Nat.reduceEqDiff,Nat.reduceAdd,Nat.reduceLT,↓reduceIte,reduceCtorEq,Int.reduceEq]
    refine af (aee ii ik (by omega) (by omega) p (fun x hx y hy=>kV hc (ki.2 x hx) (kk.2 y hy)) (fun x hx y hy q hq=>gM q hq _ _ (ki.2 x hx) (kk.2 y hy)) oh) ?_
    rintro r G ⟨x,rfl,hx,hU,kh⟩
    simp +contextual only [sZ,Nat.reduceEqDiff,↓reduceIte,reduceCtorEq]
    refine fin G x hU kh ?_
    rw [hx,hS,EW,ki.1,kk.1]
    rw [osi] at CE
    exact ⟨fun h=>⟨we,Nw.2.1,Nw.2.2,CE,h⟩,fun h=>h.2.2.2.2⟩
   ·have KC:(dP c i=3)=False:=eq_false CE
    simp +contextual only [lZ,decide_true,decide_false,FE,e1,KC,sZ,Nat.reduceEqDiff,Nat.reduceAdd,Nat.reduceLT,↓reduceIte,reduceCtorEq,Int.reduceEq]
    refine fin0 fun h=>CE ?_
    rw [osi];exact (hS.1 h).2.2.2.1
theorem aap {c:Cx} (hc:c.Ok) {p:PP} {i k:Int} (hi:c.ep i) (hk:c.ep k) (gM:∀ q∈p.l,∀ x y,c.ep x→c.ep y→j3 c x y q) (qp:p.r≠1) (oq:p.r≠2) (DK:p.r≠3) (FE:p.r≠4):j3 c i k p:=by
 intro H hD
 refine zJ.2.calls rfl ?_
 simp only [zJ,aG]
 obtain ⟨p1,p2,p3,p4,p5,p6,p7,p8,p9⟩:=aH p
 have k2:∀ l,(bu l).ab=bu l:=fun l=>(aI l).2.1
 have ki:=hc.kids i hi
 have kk:=hc.kids k hk
 have l1:=hc.kl i hi
 have l2:=hc.kl k hk
 obtain ⟨a1,a2,a3,a4,a5⟩:=aI (c.kd i)
 obtain ⟨b1,b2,b3,b4,b5⟩:=aI (c.kd k)
 have ii:IL (bu (c.kd i)) (c.kd i):=.inl rfl
 have ik:IL (bu (c.kd k)) (c.kd k):=.inl rfl
 have ei:(c.nd.getD i.toNat default).snd=c.kd i:=rfl
 have ek:(c.nd.getD k.toNat default).snd=c.kd k:=rfl
 obtain ⟨m1,m2,m3⟩:=hD.lt
 have oh:Du c (H++[.cells [bu (c.kd k)]]):=hD.ue _
 have fin:∀ G (b:Bool),Up c (H++[.cells [bu (c.kd k)]]) G→Du c G→(b=true↔Sh c.O p (c.tm i) (c.tm k))→bV H.length [.t 8] [(8,.bool b)] G (jt c (Sh c.O p (c.tm i) (c.tm k)) H):=by
  intro G b u d hb
  refine aX H.length (rC _) (by rw [aA,if_pos rfl];rfl) ?_
  rw [aA,if_pos rfl]
  exact ⟨b,rfl,hb,u.take,d.take m1 m2 m3⟩
 have fin0:¬ Sh c.O p (c.tm i) (c.tm k)→bV H.length [.t 8] [(8,.bool false)] (H++[.cells [bu (c.kd k)]]) (jt c (Sh c.O p (c.tm i) (c.tm k)) H):=
  fun h=>fin _ _ (Up.refl c _) oh ⟨fun h=>by simp at h,fun h'=>absurd h' h⟩
 have spv:∀ x:AV,ah [AV.ag] 0 [x]=[x]:=fun x=>rfl
 simp +contextual only [p1,hD.d,nK,FD,cT,cn,k2,ei,ek,b1,b3,b4,b5,List.map_cons,List.map_nil,spv,List.all_cons,List.all_nil,acb,bP,c9,sZ,Nat.reduceEqDiff,Nat.reduceAdd,Nat.reduceLT,↓reduceIte,reduceCtorEq]
 refine ⟨hi,hk,af (rf hc hi oh) ?_⟩
 rintro r H2 ⟨rfl,rfl⟩
 cases hb:td c i with
 | false=>
   have ki2:¬ (c.tm i).k=2:=of_decide_eq_false hb
   simp +contextual only [dQ,gb,gf,gg,hb,Bool.not_false,sZ,Nat.reduceEqDiff,↓reduceIte,reduceCtorEq]
   exact fin0 fun h=>ki2 (EZ h)
 | true=>
 have ki2:(c.tm i).k=2:=of_decide_eq_true hb
 have Hr:∀ (j:Int),(0≤j∧j < (c.kd i).length)→(c.tm i).l.getD j.toNat default=c.tm ((c.kd i).getD j.toNat 0):=fun j hj=>by rw [← ki.1,cE (by omega)]
 have klen:(c.tm i).l.length=(c.kd i).length:=by rw [← ki.1];simp
 have kn:∀ (j:Int),(0≤j∧j < (c.kd i).length)→c.ep ((c.kd i).getD j.toNat 0):=fun j hj=>ki.2 _ (aT (by omega))
 have lvun:(AV.tuple [.int .i64 (dP c i),.bool (vX c i k)]).ab=.tuple [.int .i64 (dP c i),.bool (vX c i k)]:=rfl
 have hS:=Sh0 (O:=c.O) (a:=c.tm i) (b:=c.tm k) qp oq DK FE
 simp +contextual only [dQ,gb,gf,gg,hb,Bool.not_true,lZ,mK,pS,qp,DK,FE,not_true_eq_false,not_false_eq_true,decide_true,decide_false,aw,sZ,Nat.reduceEqDiff,Nat.reduceAdd,↓reduceIte,reduceCtorEq]
 refine fun _=>⟨fun h0=>⟨fun we=>fin0 hS,fun we=>?_⟩,fun h0=>fin0 hS⟩
 refine af (Hd hc hi hk oh) ?_
 rintro r H2 ⟨rfl,rfl⟩
 simp +contextual only [lZ,lvun,decide_false,qp,oq,DK,FE,sZ,Nat.reduceEqDiff,Nat.reduceAdd,Nat.reduceLT,↓reduceIte,reduceCtorEq]
 exact fin0 hS
end Go.aK
end
section
set_option maxRecDepth 100000
namespace Go.aK
open Go Go.Proofs Go.eI
theorem aaq {O:Od} {f:Int→T} {at':Int} {l:List PP} {a:T} {x y kd:List Int} {bl:List T} (hb:kd.map f=bl):CB (E O) (Sh O) at' l a (x.map f) (y.map f) bl ↔
 (0≤at'∧at' < x.length∧at'≤y.length)∧(∀ j,j < at'.toNat→E O (f (x.getD j 0)) (f (y.getD j 0)))∧
 (if at'=y.length then lf (Sh O) l a (kd.map f) else ∃ q r,l=q::r∧Sh O q (f (x.getD at'.toNat 0)) (f (y.getD at'.toNat 0))∧lf (Sh O) r a (kd.map f)):=by
 unfold CB
 rw [hb]
 simp only [ace]
 refine and_congr_right fun h=>?_
 have e:∀ j,j < at'.toNat→((x.map f).getD j default=f (x.getD j 0)∧(y.map f).getD j default=f (y.getD j 0)):=fun j hj=>⟨cE (by omega),cE (by omega)⟩
 refine and_congr ⟨fun k j hj=>?_,fun k j hj=>?_⟩ ?_
 ·have:=k j hj;rwa [(e j hj).1,(e j hj).2] at this
 ·rw [(e j hj).1,(e j hj).2];exact k j hj
 ·split
  ·exact Iff.rfl
  ·rw [cE (by omega),cE (by omega)]
theorem aar {c:Cx} (hc:c.Ok) {p:PP} {i k:Int} (hi:c.ep i) (hk:c.ep k) (gM:∀ q∈p.l,∀ x y,c.ep x→c.ep y→j3 c x y q) (DK:p.r=3):j3 c i k p:=by
 intro H hD
 refine zJ.2.calls rfl ?_
 simp only [zJ,aG]
 obtain ⟨p1,p2,p3,p4,p5,p6,p7,p8,p9⟩:=aH p
 have k2:∀ l,(bu l).ab=bu l:=fun l=>(aI l).2.1
 have ki:=hc.kids i hi
 have kk:=hc.kids k hk
 have l1:=hc.kl i hi
 have l2:=hc.kl k hk
 obtain ⟨a1,a2,a3,a4,a5⟩:=aI (c.kd i)
 obtain ⟨b1,b2,b3,b4,b5⟩:=aI (c.kd k)
 have ii:IL (bu (c.kd i)) (c.kd i):=.inl rfl
 have ik:IL (bu (c.kd k)) (c.kd k):=.inl rfl
 have ei:(c.nd.getD i.toNat default).snd=c.kd i:=rfl
 have ek:(c.nd.getD k.toNat default).snd=c.kd k:=rfl
 obtain ⟨m1,m2,m3⟩:=hD.lt
 have oh:Du c (H++[.cells [bu (c.kd k)]]):=hD.ue _
 have fin:∀ G (b:Bool),Up c (H++[.cells [bu (c.kd k)]]) G→Du c G→(b=true↔Sh c.O p (c.tm i) (c.tm k))→bV H.length [.t 8] [(8,.bool b)] G (jt c (Sh c.O p (c.tm i) (c.tm k)) H):=by
  intro G b u d hb
  refine aX H.length (rC _) (by rw [aA,if_pos rfl];rfl) ?_
  rw [aA,if_pos rfl]
  exact ⟨b,rfl,hb,u.take,d.take m1 m2 m3⟩
 have fin0:¬ Sh c.O p (c.tm i) (c.tm k)→bV H.length [.t 8] [(8,.bool false)] (H++[.cells [bu (c.kd k)]]) (jt c (Sh c.O p (c.tm i) (c.tm k)) H):=
  fun h=>fin _ _ (Up.refl c _) oh ⟨fun h=>by simp at h,fun h'=>absurd h' h⟩
 have spv:∀ x:AV,ah [AV.ag] 0 [x]=[x]:=fun x=>rfl
 simp +contextual only [p1,hD.d,nK,FD,cT,cn,k2,ei,ek,b1,b3,b4,b5,List.map_cons,List.map_nil,spv,List.all_cons,List.all_nil,acb,bP,c9,sZ,Nat.reduceEqDiff,Nat.reduceAdd,Nat.reduceLT,↓reduceIte,reduceCtorEq]
 refine ⟨hi,hk,af (rf hc hi oh) ?_⟩
 rintro r H2 ⟨rfl,rfl⟩
 cases hb:td c i with
 | false=>
   have ki2:¬ (c.tm i).k=2:=of_decide_eq_false hb
   simp +contextual only [dQ,gb,gf,gg,hb,Bool.not_false,sZ,Nat.reduceEqDiff,↓reduceIte,reduceCtorEq]
   exact fin0 fun h=>ki2 (EZ h)
 | true=>
 have ki2:(c.tm i).k=2:=of_decide_eq_true hb
 have Hr:∀ (j:Int),(0≤j∧j < (c.kd i).length)→(c.tm i).l.getD j.toNat default=c.tm ((c.kd i).getD j.toNat 0):=fun j hj=>by rw [← ki.1,cE (by omega)]
 have klen:(c.tm i).l.length=(c.kd i).length:=by rw [← ki.1];simp
 have kn:∀ (j:Int),(0≤j∧j < (c.kd i).length)→c.ep ((c.kd i).getD j.toNat 0):=fun j hj=>ki.2 _ (aT (by omega))
 have lvun:(AV.tuple [.int .i64 (dP c i),.bool (vX c i k)]).ab=.tuple [.int .i64 (dP c i),.bool (vX c i k)]:=rfl
 have hS:=Sh3 (O:=c.O) (b:=c.tm k) DK ki2
 have e1:((3:Int)=1)=False:=by simp
 simp +contextual only [dQ,gb,gf,gg,hb,Bool.not_true,lZ,pS,DK,not_true_eq_false,not_false_eq_true,decide_true,decide_false,aw,sZ,Nat.reduceEqDiff,Nat.reduceAdd,↓reduceIte,reduceCtorEq,Int.reduceEq]
 refine fun _=>⟨fun h0=>?_,fun h0=>fin0 fun h=>?_⟩
 ·have vD:p.to=[]:=aby.1 (by omega)
  refine af (Hd hc hi hk oh) ?_
  rintro r H2 ⟨rfl,rfl⟩
  simp +contextual only [k2,lZ,lvun,decide_true,decide_false,DK,e1,sZ,Nat.reduceEqDiff,Nat.reduceAdd,Nat.reduceLT,↓reduceIte,Int.reduceEq]
  refine ay (Kr (c.kd i) (dP c i) (by omega)) ?_
  simp +contextual only [k2,sZ,Nat.reduceEqDiff,Nat.reduceAdd,Nat.reduceLT,↓reduceIte]
  refine ay (Kr (c.kd k) (dP c i) (by omega)) ?_
  have opi:rc c i=c.O.pl (c.tm i).n:=by rw [rc,if_pos ki2]
  have osi:dP c i=c.O.sp (c.O.pl (c.tm i).n):=by rw [dP,if_pos ki2]
  have hx:side (c.O.sp (c.O.pl (c.tm i).n)) (c.tm i).l=(bt (dP c i) (c.kd i)).map c.tm:=by rw [← osi,← ki.1,ij]
  have hy:side (c.O.sp (c.O.pl (c.tm i).n)) (c.tm k).l=(bt (dP c i) (c.kd k)).map c.tm:=by rw [← osi,← kk.1,ij]
  rw [hx,hy,aaq (kd:=c.kd k) kk.1] at hS
  have lx:(bt (dP c i) (c.kd i)).length=(c.kd i).length:=hZ
  have ly:(bt (dP c i) (c.kd k)).length=(c.kd k).length:=hZ
  have nx:∀ z∈bt (dP c i) (c.kd i),c.ep z:=fun z hz=>ki.2 z (pU.1 hz)
  have ny:∀ z∈bt (dP c i) (c.kd k),c.ep z:=fun z hz=>kk.2 z (pU.1 hz)
  generalize bt (dP c i) (c.kd i)=x at *
  generalize bt (dP c i) (c.kd k)=y at *
  have ix:IL (.al 0 (ints x)) x:=.inr rfl
  have iy:IL (.al 0 (ints y)) y:=.inr rfl
  cases hl:vX c i k with
  | false=>
    simp +contextual only [Bool.not_false,sZ,Nat.reduceEqDiff,↓reduceIte,reduceCtorEq]
    exact fin0 fun h=>by
     have:=hS.1 h
     rw [lE.2 ⟨ki2,this.2.1,this.2.2.1⟩] at hl
     cases hl
  | true=>
  have Nw:=lE.1 hl
  by_cases CE:dP c i=3
  ·have ael:(dP c i=3)=True:=eq_true CE
   simp +contextual only [decide_true,Bool.not_true,ael,sZ,Nat.reduceEqDiff,↓reduceIte,reduceCtorEq]
   refine fin0 fun h=>(hS.1 h).2.2.2.1 ?_
   rw [← osi];exact CE
  ·have KC:(dP c i=3)=False:=eq_false CE
   have lvun':True:=trivial
   by_cases hI:0≤p.i∧p.i < x.length∧p.i≤y.length
   ·have n1:(p.i < 0)=False:=eq_false (by omega)
    have n2:((x.length:Int)≤p.i)=False:=eq_false (by omega)
    have n3:((y.length:Int) < p.i)=False:=eq_false (by omega)
    simp +contextual only [Option.map_some,Option.map_none,mK,decide_false,Bool.not_true,KC,n1,n2,n3,ix.aO,iy.aO,ix.x8,iy.x8,slT x p.i ⟨hI.1,by omega⟩,slT y p.i ⟨hI.1,by omega⟩,sZ,Nat.reduceEqDiff,Nat.reduceAdd,↓reduceIte,reduceCtorEq]
    refine af (ZY (SD.Cs c _) (.inr rfl:IL (.al 0 (ints (x.take p.i.toNat))) (x.take p.i.toNat)) (.inr rfl:IL (.al 0 (ints (y.take p.i.toNat))) (y.take p.i.toNat)) (by rw [ab0];omega) (by rw [ab0];omega) 79 [.ptr c.d 0] [] rfl rfl (Q:=fun x y=>E c.O (c.tm x) (c.tm y))
     (fun u hu v hv G hG=>(kV hc (nx u (acg hu)) (ny v (acg hv)) G hG.1).mono fun r H' hr=>hr.sb hG) ⟨oh,Up.refl c _⟩) ?_
    rintro r G ⟨z,rfl,hz,hG⟩
    have EN:z=true↔∀ j,j < p.i.toNat→E c.O (c.tm (x.getD j 0)) (c.tm (y.getD j 0)):=by
     rw [hz]
     have lt1:(x.take p.i.toNat).length=p.i.toNat:=by rw [ab0];omega
     have lt2:(y.take p.i.toNat).length=p.i.toNat:=by rw [ab0];omega
     rw [lt1,lt2]
     have et:∀ (l:List Int) j,j < p.i.toNat→(l.take p.i.toNat).getD j 0=l.getD j 0:=fun l j hj=>by simp [rB,hj]
     constructor
     ·rintro ⟨_,h⟩ j hj;have:=h j hj;rwa [et _ _ hj,et _ _ hj] at this
     ·intro h;exact ⟨rfl,fun j hj=>by rw [et _ _ hj,et _ _ hj];exact h j hj⟩
    have finG:∀ G' (b:Bool),Up c G G'→Du c G'→(b=true↔Sh c.O p (c.tm i) (c.tm k))→bV H.length [.t 8] [(8,.bool b)] G' (jt c (Sh c.O p (c.tm i) (c.tm k)) H):=fun G' b u d hb=>fin G' b (hG.2.trans u) d hb
    have finG0:¬ Sh c.O p (c.tm i) (c.tm k)→bV H.length [.t 8] [(8,.bool false)] G (jt c (Sh c.O p (c.tm i) (c.tm k)) H):=
     fun h=>finG _ _ (Up.refl c _) hG.1 ⟨fun h=>by simp at h,fun h'=>absurd h' h⟩
    have gq:G[H.length]?=some (.cells [bu (c.kd k)]):=by rw [hG.2.get H.length (by omega) (by omega)];simp
    cases z with
    | false=>
      simp +contextual only [Bool.not_false,sZ,Nat.reduceEqDiff,↓reduceIte,reduceCtorEq]
      exact finG0 fun h=>absurd (EN.2 (hS.1 h).2.2.2.2.2.1) (by simp)
    | true=>
      have hz1:=EN.1 rfl
      by_cases he:p.i=y.length
      ·have n4:(p.i=(y.length:Int))=True:=eq_true he
       simp +contextual only [mK,rI,decide_true,Bool.not_true,iy.len (by omega),iy.aO,n4,sZ,Nat.reduceEqDiff,Nat.reduceAdd,↓reduceIte,reduceCtorEq]
       refine af (V7 ik (by omega) (q:=H.length) ⟨by omega,by omega⟩ (fun j h1 h2=>gM _ (dr h2) _ _ hi (kk.2 _ (aT h1))) hG.1 gq) ?_
       rintro r G' ⟨w,rfl,hw,hU,kh⟩
       simp +contextual only [sZ,↓reduceIte,reduceCtorEq]
       refine finG G' w hU kh ?_
       rw [hw,hS]
       rw [if_pos he]
       rw [osi] at CE
       exact ⟨fun h=>⟨vD,Nw.2.1,Nw.2.2,CE,hI,hz1,h⟩,fun h=>h.2.2.2.2.2.2⟩
      ·have n4:(p.i=(y.length:Int))=False:=eq_false he
       rw [if_neg he] at hS
       cases ta:p.l with
       | nil=>
         have n5:(0 < ((0:Nat):Int))=False:=eq_false (by simp)
         simp +contextual only [mK,rI,bG,decide_false,Bool.not_true,iy.len (by omega),iy.aO,n4,ta,mw,n5,sZ,Nat.reduceEqDiff,↓reduceIte,reduceCtorEq]
         exact finG0 fun h=>by
          obtain ⟨q,r,e,_⟩:=(hS.1 h).2.2.2.2.2.2
          rw [ta] at e;cases e
       | cons q r=>
         have n5:(0 < ((r.length + 1:Nat):Int))=True:=eq_true (by omega)
         have n6:(q::r).getD (0:Int).toNat default=q:=rfl
         obtain ⟨q1,q2,q3,q4,q5,q6,q7,q8,q9⟩:=aH q
         simp only [ta] at hS gM
         simp +contextual only [mK,rI,l7,iQ,eL,bG,decide_true,decide_false,Bool.not_true,iy.len (by omega),iy.aO,n4,ta,mw,n5,n6,ix.idx,iy.idx,ix.lens,iy.lens,q4,sZ,Nat.reduceEqDiff,Nat.reduceAdd,↓reduceIte,reduceCtorEq]
         refine ⟨by omega,by omega,by omega,af (gM q aaW _ _ (nx _ (aT (by omega))) (ny _ (aT (by omega))) G hG.1) ?_⟩
         rintro r' G2 ⟨w,rfl,hw,hU,C2⟩
         cases w with
         | false=>
           simp +contextual only [sZ,Nat.reduceEqDiff,↓reduceIte,reduceCtorEq]
           refine finG G2 false hU C2 ⟨fun h=>by simp at h,fun h=>?_⟩
           obtain ⟨q',r',e,h',_⟩:=(hS.1 h).2.2.2.2.2.2
           cases e
           exact hw.2 h'
         | true=>
           have gq2:G2[H.length]?=some (.cells [bu (c.kd k)]):=by rw [hU.get H.length (by omega) (by omega),gq]
           simp +contextual only [Option.map_some,Option.map_none,rI,S3,ta,sZ,Nat.reduceEqDiff,Nat.reduceAdd,↓reduceIte,reduceCtorEq]
           refine af (V7 ik (by omega) (q:=H.length) ⟨by omega,by omega⟩ (fun j h1 h2=>gM _ (aaF _ (dr h2)) _ _ hi (kk.2 _ (aT h1))) C2 gq2) ?_
           rintro r' G3 ⟨v,rfl,hv,Z3,Nh⟩
           simp +contextual only [sZ,Nat.reduceEqDiff,↓reduceIte,reduceCtorEq]
           refine finG G3 v (hU.trans Z3) Nh ?_
           rw [hv,hS]
           rw [osi] at CE
           constructor
           ·exact fun h=>⟨vD,Nw.2.1,Nw.2.2,CE,hI,hz1,q,r,rfl,hw.1 rfl,h⟩
           ·rintro ⟨_,_,_,_,_,_,q',r',e,_,h⟩
            cases e
            exact h
   ·have bad:¬ Sh c.O p (c.tm i) (c.tm k):=fun h=>hI (hS.1 h).2.2.2.2.1
    by_cases m1':p.i < 0
    ·have n1:(p.i < 0)=True:=eq_true m1'
     simp +contextual only [mK,decide_true,decide_false,Bool.not_true,KC,n1,sZ,Nat.reduceEqDiff,↓reduceIte,reduceCtorEq]
     exact fin0 bad
    ·have n1:(p.i < 0)=False:=eq_false m1'
     by_cases m2':(x.length:Int)≤p.i
     ·have n2:((x.length:Int)≤p.i)=True:=eq_true m2'
      simp +contextual only [mK,decide_true,decide_false,Bool.not_true,KC,n1,n2,ix.aO,ix.x8,sZ,Nat.reduceEqDiff,↓reduceIte,reduceCtorEq]
      exact fin0 bad
     ·have n2:((x.length:Int)≤p.i)=False:=eq_false m2'
      have n3:((y.length:Int) < p.i)=True:=eq_true (by omega)
      simp +contextual only [mK,decide_true,decide_false,Bool.not_true,KC,n1,n2,n3,ix.aO,iy.aO,ix.x8,iy.x8,sZ,Nat.reduceEqDiff,↓reduceIte,reduceCtorEq]
      exact fin0 bad
 ·rw [(hS.1 h).1] at h0;simp at h0
end Go.aK
end
section
set_option maxRecDepth 100000
namespace Go.aK
open Go Go.Proofs Go.eI
theorem c87 {c:Cx} (hc:c.Ok):∀ (N:Nat) (p:PP) (i k:Int),pz p≤N→c.ep i→c.ep k→j3 c i k p:=by
 intro N
 induction N with
 | zero=>intro p i k h;have:=yh p;omega
 | succ N ih=>
 intro p i k hN hi hk
 have gM:∀ q∈p.l,∀ x y,c.ep x→c.ep y→j3 c x y q:=fun q hq x y hx hy=>ih q x y (by have:=yi hq;omega) hx hy
 by_cases h1:p.r=1
 ·exact aam hc hi hk gM h1
 by_cases h2:p.r=2
 ·exact aan hc hi hk gM h2
 by_cases h3:p.r=3
 ·exact aar hc hi hk gM h3
 by_cases h4:p.r=4
 ·exact aao hc hi hk gM h4
 exact aap hc hi hk gM h1 h2 h3 h4
theorem V9 {c:Cx} (hc:c.Ok) {p:PP} {i k:Int} (hi:c.ep i) (hk:c.ep k):j3 c i k p:=c87 hc _ p i k (rC _) hi hk
open Classical in
noncomputable def sS (s:Sg) (ps ss:List Int) (a b:T) (p:PP):Int:=if ft s ps ss [a,b]=0 then (if Sh (b9 ps ss) p a b then 0 else 61) else ft s ps ss [a,b]
theorem c28 (s:Sg) (ps ss:List Int) (a b:T) (p:PP):Pure Tryz.prog 28 [s.av,dV ps ss,a.av,b.av,dA p] (.int .i64 (sS s ps ss a b p)):=by
 refine fun H=>k28.2.calls rfl ?_
 simp only [k28,aG]
 obtain ⟨q1,q2,q3,q4,q5,q6⟩:=aQ ps ss
 obtain ⟨p1,p2,p3,p4,p5,p6,p7,p8,p9⟩:=aH p
 simp +contextual only [aF,q1,q4,p1,bm,sZ,Nat.reduceEqDiff,Nat.reduceAdd,↓reduceIte,reduceCtorEq]
 refine ae (c74 s ps ss [a,b]) ?_
 by_cases h0:ft s ps ss [a,b]=0
 ·have hr:=pQ h0
  have hw:=lF hr.tree
  have hc:=hr.cx (by simp) (by simp) H.length
  have hd:=AP ps ss (ts:=[a,b]) (by simp) H
  simp +contextual only [q4,bm,h0,sZ,Nat.reduceEqDiff,Nat.reduceAdd,↓reduceIte]
  refine af (ZT ps ss [a,b] H (by simp at hw;omega)) ?_
  rintro r G ⟨rfl,rfl⟩
  have a0:=vC (ps:=ps) (ss:=ss) (ts:=[a,b]) (n:=H.length) (j:=0) (by simp)
  have a1:=vC (ps:=ps) (ss:=ss) (ts:=[a,b]) (n:=H.length) (j:=1) (by simp)
  have hl:=cS [a,b] 0
  rw [Rh]
  generalize ba [a,b] 0=ks at a0 a1 hl ⊢
  have pr:ks.length=2:=hl
  simp +contextual only [aM,pr,dT,eL,p4,sZ,Nat.reduceEqDiff,Nat.reduceAdd,Nat.reduceLT,↓reduceIte,reduceCtorEq]
  refine ⟨by decide,by decide,af (V9 hc a0.1 a1.1 _ hd) ?_⟩
  rintro r G ⟨x,rfl,hx,hU,hD⟩
  rw [a0.2,a1.2] at hx
  have rD:x=true↔Sh (b9 ps ss) p a b:=hx
  have aas:=hU.low (by simp [iu]) (by simp [iu])
  cases x with
  | true=>
    simp +contextual only [Bool.not_true,sZ,↓reduceIte,reduceCtorEq]
    exact QU aas rfl rfl ⟨by rw [sS,if_pos h0,if_pos (rD.1 rfl)],rfl⟩
  | false=>
    simp +contextual only [Bool.not_false,sZ,↓reduceIte,reduceCtorEq]
    exact QU aas rfl rfl ⟨by rw [sS,if_pos h0,if_neg (fun h=>absurd (rD.2 h) (by simp))],rfl⟩
 ·simp +contextual only [h0,sZ,Nat.reduceEqDiff,↓reduceIte,reduceCtorEq]
  exact a8 rfl (by rw [sS,if_neg h0])
end Go.aK
end
section
set_option maxRecDepth 100000
set_option maxHeartbeats 0
namespace Go.aK
open Go Go.Proofs
noncomputable def E0:=aG Tryz.call86 Tryz.func86 Tryz.ntmps86 [(0,0,1),(0,1,1),(3,6,2000),(8,2,2000),(9,7,2000),(10,7,2000),(10,8,1),(10,10,1),(13,3,2000),(16,3,1000),(19,3,2000),(20,9,2000),(21,1,1),(21,6,1),(21,11,1),(21,13,1),(27,3,2000),(29,1,1),(29,13,2000),(29,17,1),(33,1,1),(33,5,2000),(33,9,1)] [(0,[1,3,5,6]),(1,[1,3,5,6,7,8]),(2,[1,3,5,6,7,8,9]),(3,[1,3,5,6,7,8,9,47]),(4,[1,3,5,6,7,8,9]),(5,[1,3,5,6,7,8,9,10]),(6,[1,3,5,6,7,8,10,52]),(7,[1,3,5,6,7,8,10,52,53]),(8,[3,5,6,7,10]),(9,[3,5,6,7,10,67]),(10,[6,10]),(11,[6]),(12,[1,3,6,7,8,10,52,79]),(13,[3,6,7,8,10,11,13]),(14,[3,6,7,8,10,11,89,90,91]),(15,[3,6,7,8,10,11,89,90,91,92]),(16,[3,6,7,8,10,11,14,15,89,90,91]),(17,[3,6,7,8,10,11,14,15,16,89,90,91]),(18,[3,6,7,8,10,11,14,15,16,89,90,91,97]),(19,[3,6,7,8,10,11,14,15,16,89,90,91]),(20,[3,6,7,8,10,11,15,16,89,90,91]),(21,[3,6,7,8,10,11,89,90,91]),(22,[3,6,7,8,10,11,89,90,91]),(23,[6]),(24,[1,3,6,7,8,10,128]),(25,[1,3,6,7,8,10,18]),(26,[1,3,6,8,10,20,21]),(27,[1,3,6,8,10,20,21]),(28,[1,3,6,8,10,20,21,152]),(29,[1,3,6,8,10]),(30,[1,3,6,10,170,171,172]),(31,[1,3,6,10,170,171,172,173]),(32,[1,3,6,10,23,170,171,172]),(33,[1,3,6,10,170,171,172]),(34,[1,3,6,10,170,171,172]),(35,[6])] [(1,(.take 0 true (.take 1 true (.take 2 true (.take 3 true (.take 4 true (.take 5 true (.take 6 true (.take 7 true (.take 8 false (.take 9 false (.take 10 false (.take 12 false (.br 11 (.take 13 false (.take 14 false (.take 15 false (.br 16 (.br 17 (.br 18 (.br 19 .done .nil) .nil) .nil) (.br 17 (.br 16 (.br 18 (.br 19 .done .nil) .nil) .nil) .nil))))) (.br 16 (.br 11 (.take 13 false (.take 14 false (.take 15 false (.br 17 (.br 18 (.br 19 .done .nil) .nil) .nil)))) (.br 17 (.br 11 (.take 13 false (.take 14 false (.take 15 false (.br 18 (.br 19 .done .nil) .nil)))) (.br 18 (.take 11 true (.take 13 true (.take 14 true (.take 15 true (.br 19 .done .nil))))) .nil)) .nil)) (.br 17 (.br 11 (.take 13 false (.take 14 false (.take 15 false (.br 16 (.br 18 (.br 19 .done .nil) .nil) .nil)))) (.br 16 (.br 11 (.take 13 false (.take 14 false (.take 15 false (.br 18 (.br 19 .done .nil) .nil)))) (.br 18 (.take 11 true (.take 13 true (.take 14 true (.take 15 true (.br 19 .done .nil))))) .nil)) .nil)) .nil)))))))))))))))),(3,(.take 0 true (.take 1 true (.take 2 true (.take 3 true (.take 4 true (.take 5 true (.br 6 (.take 7 true .done) .nil)))))))),(9,(.take 0 true (.take 1 true (.take 2 true (.take 3 true (.take 4 true (.take 5 true (.take 6 true (.br 7 (.take 8 true .done) .nil))))))))),(10,(.take 0 true (.take 1 true (.take 2 true (.take 3 true (.take 4 true (.take 5 true (.take 6 true (.br 7 (.take 8 true (.take 9 true (.br 10 .done .nil))) .nil))))))))),(20,(.take 0 true (.take 1 true (.take 2 true (.take 3 true (.take 4 true (.take 5 true (.take 6 true (.take 7 true (.take 8 true (.br 9 (.br 10 .done .nil) .nil))))))))))),(21,(.take 0 false (.take 2 false (.take 3 false (.take 5 false (.br 1 (.br 4 (.br 6 (.take 7 true (.take 8 true (.take 10 true (.br 9 (.br 11 (.take 12 true (.br 13 .done .nil)) .nil) .nil)))) (.br 7 (.take 8 false (.br 6 (.take 10 true (.br 9 (.br 11 (.take 12 true (.br 13 .done .nil)) .nil) .nil)) .nil)) .nil)) (.br 6 (.take 7 true (.take 8 true (.br 4 (.take 10 true (.br 9 (.br 11 (.take 12 true (.br 13 .done .nil)) .nil) .nil)) .nil))) (.br 7 (.take 8 false (.br 4 (.br 6 (.take 10 true (.br 9 (.br 11 (.take 12 true (.br 13 .done .nil)) .nil) .nil)) .nil) (.br 6 (.br 4 (.take 10 true (.br 9 (.br 11 (.take 12 true (.br 13 .done .nil)) .nil) .nil)) .nil) .nil))) .nil))) (.br 6 (.br 1 (.take 7 true (.take 8 true (.br 4 (.take 10 true (.br 9 (.br 11 (.take 12 true (.br 13 .done .nil)) .nil) .nil)) .nil))) (.br 7 (.take 8 false (.br 1 (.br 4 (.take 10 true (.br 9 (.br 11 (.take 12 true (.br 13 .done .nil)) .nil) .nil)) .nil) .nil)) .nil)) (.br 7 (.take 8 false (.br 1 (.br 4 (.br 6 (.take 10 true (.br 9 (.br 11 (.take 12 true (.br 13 .done .nil)) .nil) .nil)) .nil) (.br 6 (.br 4 (.take 10 true (.br 9 (.br 11 (.take 12 true (.br 13 .done .nil)) .nil) .nil)) .nil) .nil)) (.br 6 (.br 1 (.br 4 (.take 10 true (.br 9 (.br 11 (.take 12 true (.br 13 .done .nil)) .nil) .nil)) .nil) .nil) .nil))) .nil)))))))),(26,(.take 0 true (.take 1 true (.take 2 true (.take 3 true (.take 4 true (.take 5 true (.take 6 true (.take 7 true .done))))))))),(29,(.take 0 false (.take 2 false (.take 3 false (.take 4 false (.take 8 false (.take 9 false (.br 1 (.take 5 true (.take 6 true (.take 7 true (.take 10 true (.take 11 true (.take 12 true (.br 13 (.take 14 true (.br 15 (.take 16 true (.br 17 .done .nil)) .nil)) .nil))))))) (.br 5 (.take 6 false (.take 7 false (.br 1 (.take 10 true (.take 11 true (.take 12 true (.br 13 (.take 14 true (.br 15 (.take 16 true (.br 17 .done .nil)) .nil)) .nil)))) (.br 10 (.take 11 false (.take 12 false (.br 1 (.br 13 (.take 14 true (.br 15 (.take 16 true (.br 17 .done .nil)) .nil)) .nil) (.br 13 (.take 14 false (.br 1 (.br 15 (.take 16 true (.br 17 .done .nil)) .nil) .nil)) .nil)))) .nil)))) (.br 10 (.take 11 false (.take 12 false (.br 1 (.take 5 true (.take 6 true (.take 7 true (.br 13 (.take 14 true (.br 15 (.take 16 true (.br 17 .done .nil)) .nil)) .nil)))) (.br 5 (.take 6 false (.take 7 false (.br 1 (.br 13 (.take 14 true (.br 15 (.take 16 true (.br 17 .done .nil)) .nil)) .nil) (.br 13 (.take 14 false (.br 1 (.br 15 (.take 16 true (.br 17 .done .nil)) .nil) .nil)) .nil)))) .nil)))) .nil)))))))))),(33,(.take 0 false (.take 2 false (.take 3 false (.take 4 false (.br 1 (.br 5 (.take 6 true (.br 7 (.take 8 true (.br 9 .done .nil)) .nil)) .nil) (.br 5 (.take 6 false (.br 1 (.br 7 (.take 8 true (.br 9 .done .nil)) .nil) .nil)) .nil)))))))]
end Go.aK
end
section
set_option maxRecDepth 100000
namespace Go.aK
open Go Go.Proofs Go.eI
def qi (l:List PP):AV:=match l with | []=>.ag | _::_=>.al 4 (dx l)
def vE (l:List Int):AV:=match l with | []=>.ag | _::_=>.al 1 (ints l)
theorem jk (l:List PP):(qi l).val=true∧(qi l).cells=[qi l]∧(qi l).one=true∧(∀ n,(qi l).bc n=true)∧(qi l).drop=.al 0 (dx l)∧∀ n,(qi l).ab.bc n=true:=by
 cases l with
 | nil=>exact ⟨rfl,rfl,rfl,fun _=>rfl,rfl,fun _=>rfl⟩
 | cons x r=>exact ⟨rfl,rfl,rfl,fun n=>by rw [qi,bW];exact jG _ _,rfl,fun n=>by rw [qi,xF,bW];exact jG _ _⟩
theorem mL (l:List Int):(vE l).val=true∧(vE l).cells=[vE l]∧(vE l).one=true∧(∀ n,(vE l).bc n=true)∧(vE l).drop=.al 0 (ints l)∧∀ n,(vE l).ab.bc n=true:=by
 cases l with
 | nil=>exact ⟨rfl,rfl,rfl,fun _=>rfl,rfl,fun _=>rfl⟩
 | cons x r=>exact ⟨rfl,rfl,rfl,fun n=>by rw [vE,bW];exact bf _ _,rfl,fun n=>by rw [vE,xF,bW];exact bf _ _⟩
theorem Nx (a b:List PP):dx (a++b)=dx a++dx b:=by simp [kX]
theorem E1 (l:List PP) (q:PP) (h:l.length < 1000000000) (o:Nat) (ψ:List AV→Prop):bF 4 64 (qi l) (.al o [dA q]) ψ=ψ (dx (l++[q])):=by
 have jM:rE 4 [dA q]:=of_eq_true (V5 [q])
 rw [Nx]
 cases l with
 | nil=>rw [qi,nB];simp [jM,dx]
 | cons x r=>
   rw [qi,nC,bG]
   have e:dx [q]=[dA q]:=rfl
   rw [e]
   simp only [jM,List.length_cons,List.length_nil,true_and,eq_iff_iff]
   simp only [List.length_cons] at h
   exact ⟨fun h=>h.2,fun k=>⟨by omega,k⟩⟩
theorem S4 (l:List Int) (q:Int) (h:l.length < 1000000000) (o:Nat) (ψ:List AV→Prop):bF 1 8 (vE l) (.al o [.int .i64 q]) ψ=ψ (ints (l++[q])):=by
 have jM:rE 1 [AV.int .i64 q]:=of_eq_true (nF [q])
 have e:ints [q]=[AV.int .i64 q]:=rfl
 cases l with
 | nil=>rw [vE,nB];simp [jM,ints]
 | cons x r=>
   rw [vE,nC,aw,← mG,e]
   simp only [jM,List.length_cons,List.length_nil,true_and,eq_iff_iff]
   simp only [List.length_cons] at h
   exact ⟨fun h=>h.2,fun k=>⟨by omega,k⟩⟩
theorem kx (q:PP):a7 (dA q)=dA q:=by rw [pe];rfl
theorem sT (l:List PP) (q:PP):AV.al 4 (dx (l++[q]))=qi (l++[q]):=by cases l <;> rfl
theorem E2 (l:List Int) (q:Int):AV.al 1 (ints (l++[q]))=vE (l++[q]):=by cases l <;> rfl
theorem d3 {α:Type} (x y z u d:α) (r:List α):(x::y::z::u::r).getD 3 d=u:=by simp
theorem s3 {α:Type} (x y z w u:α) (r:List α):(x::y::z::w::r).set 3 u=x::y::z::u::r:=by simp
theorem Wa (a b c d y:AV):ah [a,b,c,d] 1 [y]=[a,y,c,d]:=by simp [ah]
theorem KD (a b c d x y z u:AV):ah [a,b,c,d] 0 [x,y,z,u]=[x,y,z,u]:=by simp [ah]
theorem S5 (r i:Int) (to:List Int) (l:List PP) (φ:AV→Prop):dd (some (.cells [.int .i64 r,.int .i64 i,vE to,qi l])) (some 4) 0 φ=φ (dA (.mk r i to l)):=by
 have e:List.map AV.drop [AV.int .i64 r,.int .i64 i,vE to,qi l]=[.int .i64 r,.int .i64 i,.al 0 (ints to),.al 0 (dx l)]:=by
  simp only [List.map_cons,List.map_nil,(jk l).2.2.2.2.1,(mL to).2.2.2.2.1];rfl
 simp only [dd,List.drop_zero,List.length_cons,List.length_nil,List.take_succ_cons,List.take_zero,e,dA]
 simp
def aat (c:Cx) (i k:Int) (H:List aa) (r:AV) (H':List aa):Prop:=∃ p,r=dA p∧Sh c.O p (c.tm i) (c.tm k)∧Up c H H'∧Du c H'
def qj (c:Cx) (i k:Int):Prop:=∀ H,Du c H→ax Tryz.prog 86 [.ptr c.d 0,.int .i64 i,.int .i64 k] H (aat c i k H)
structure PB (c:Cx) (H:List aa) (x y:Nat) (i k:Int) (es:List AV) (G:List aa):Prop where
 du:Du c G
 gx:G[x]?=some (.cells [bu (c.kd i)])
 gy:G[y]?=some (.cells [bu (c.kd k)])
 g6:G[H.length]?=some (.cells [.int .i64 0,.int .i64 0,.ag,.ag])
 gp:G[H.length + 3]?=some (.cells es)
 len:G.length=H.length + 4
 up:∀ j,j < H.length→j≠c.e→j≠c.g→G[j]?=H[j]?
structure XY (H:List aa) (x y:Nat):Prop where
 x1:H.length < x
 x2:x < H.length + 3
 y1:H.length < y
 y2:y < H.length + 3
theorem PB.call {c:Cx} {H G G':List aa} {x y:Nat} {i k:Int} {es:List AV} (hD:Du c H) (w:XY H x y) (h:PB c H x y i k es G) (hU:Up c G G') (kh:Du c G'):PB c H x y i k es G':=by
 obtain ⟨l1,l2,l3⟩:=hD.lt
 obtain ⟨w1,w2,w3,w4⟩:=w
 exact ⟨kh,by rw [hU.get x (by omega) (by omega),h.gx],by rw [hU.get y (by omega) (by omega),h.gy],by rw [hU.get _ (by omega) (by omega),h.g6],by rw [hU.get _ (by omega) (by omega),h.gp],by rw [hU.len,h.len],fun j h1 h2 h3=>by rw [hU.get j h2 h3,h.up j h1 h2 h3]⟩
theorem PB.set {c:Cx} {H G:List aa} {x y:Nat} {i k:Int} {es es':List AV} (hD:Du c H) (w:XY H x y) (h:PB c H x y i k es G):PB c H x y i k es' (G.set (H.length + 3) (.cells es')):=by
 obtain ⟨l1,l2,l3⟩:=hD.lt
 obtain ⟨w1,w2,w3,w4⟩:=w
 have hp:=aR h.gp
 exact ⟨h.du.set (by omega) (by omega) (by omega),by rw [yQ (by omega),h.gx],by rw [yQ (by omega),h.gy],by rw [yQ (by omega),h.g6],by rw [yS hp],by rw [acd,h.len],fun j h1 h2 h3=>by rw [yQ (by omega),h.up j h1 h2 h3]⟩
theorem aen {c:Cx} {k x:Int} (h1:lD c x k) (h2:jb c x k) {H:List aa} (hD:Du c H):ax Tryz.prog 147 [.int .i64 x,.ai (.ptr c.d 0),.ai (.int .i64 k)] H (jt c (E c.O (c.tm x) (c.tm k)∨R c.O (c.tm x) (c.tm k)) H):=by
 refine Ya.2.calls rfl ?_
 simp only [Ya,aG]
 simp +contextual only [sZ,Nat.reduceEqDiff,Nat.reduceAdd,↓reduceIte,reduceCtorEq]
 refine af (h1 H hD) ?_
 rintro r H' ⟨b,rfl,hb,hU,kh⟩
 cases b with
 | true=>
   simp +contextual only [sZ,Nat.reduceEqDiff,↓reduceIte,reduceCtorEq]
   exact eW rfl ⟨fun _=>.inl (hb.1 rfl),fun _=>rfl⟩ hU kh
 | false=>
   simp +contextual only [sZ,Nat.reduceEqDiff,Nat.reduceAdd,↓reduceIte,reduceCtorEq]
   refine af (h2 H' kh) ?_
   rintro r H2 ⟨z,rfl,hz,SV,C2⟩
   simp +contextual only [sZ,Nat.reduceEqDiff,↓reduceIte,reduceCtorEq]
   refine eW rfl ⟨fun h=>.inr (hz.1 h),fun h=>hz.2 (h.resolve_left fun h=>absurd (hb.2 h) (by simp))⟩ (hU.trans SV) C2
theorem aeo {c:Cx} {a b:List Int} {va vb:AV} (ha:IL va a) (hb:IL vb b) {p q:Nat} {x y:Int} (hx:0≤x∧x < a.length) (hy:0≤y∧y < b.length) (h:jb c (a.getD x.toNat 0) (b.getD y.toNat 0)) {G:List aa} (hD:Du c G) (gp:G[p]?=some (.cells [va])) (gq:G[q]?=some (.cells [vb])) :
 ax Tryz.prog 148 [.int .i64 x,.ai (.ptr c.d 0),.ptr p 0,.ptr q 0,.ai (.int .i64 y)] G (jt c (R c.O (c.tm (a.getD x.toNat 0)) (c.tm (b.getD y.toNat 0))) G):=by
 refine Yb.2.calls rfl ?_
 simp only [Yb,aG]
 obtain ⟨a1,a2,a3,a4⟩:=ha.one
 obtain ⟨b1,b2,b3,b4⟩:=hb.one
 simp +contextual only [gp,gq,a2,b2,ha.lens,hb.lens,ha.idx,hb.idx,sZ,Nat.reduceEqDiff,Nat.reduceAdd,Nat.reduceLT,↓reduceIte,reduceCtorEq]
 refine ⟨hx,hy,af (h G hD) ?_⟩
 rintro r G' ⟨z,rfl,hz,hU,kh⟩
 simp +contextual only [sZ,↓reduceIte,reduceCtorEq]
 exact eW rfl hz hU kh
def S6:IR:=(.loop (.seq (.region [⟨none,some 173,(.bin .lss (.t 172) (.t 171))⟩] (.some [1,3,6,10,170,171,172,173])) (.seq (.cond (.t 173) .skip (.exit 5)) (.seq (.block 6 (.seq (.region [⟨none,some 174,(.indexAddr 1 (.t 170) (.t 172))⟩,⟨none,some 175,(.load .none (.t 174))⟩,⟨none,some 23,(.set (.t 175) false)⟩] (.some [1,3,6,10,23,170,171,172])) (.draw (.take .false ⟨none,some 176,(.fieldAddr 3 .none (.t 10))⟩ (.take .false ⟨none,some 178,(.load .none (.t 3))⟩ (.take .false ⟨none,some 179,(.set (.t 1) false)⟩ (.take .false ⟨none,some 180,(.set (.t 23) false)⟩ (.br ⟨none,some 177,(.eX (.t 176))⟩ (.br ⟨none,some 181,(.call (.c (.fn (.func 86) [] [])) [(.t 178),(.t 179),(.t 180)] (.some 1999))⟩ (.take .true ⟨none,some 182,(.buildSlice 0 4 (.agg [(.int .i64 0),(.int .i64 0),.ag,.ag]) 1 [(0,(.t 181))])⟩ (.br ⟨none,some 183,(.append 4 64 (.t 177) (.t 182))⟩ (.take .true ⟨none,some 184,(.fieldAddr 3 .none (.t 10))⟩ (.br ⟨none,none,(.fR (.t 184) 183)⟩ .done .nil)) .nil)) .nil) (.br ⟨none,some 181,(.call (.c (.fn (.func 86) [] [])) [(.t 178),(.t 179),(.t 180)] (.some 1999))⟩ (.take .false ⟨none,some 182,(.buildSlice 0 4 (.agg [(.int .i64 0),(.int .i64 0),.ag,.ag]) 1 [(0,(.t 181))])⟩ (.br ⟨none,some 177,(.eX (.t 176))⟩ (.br ⟨none,some 183,(.append 4 64 (.t 177) (.t 182))⟩ (.take .true ⟨none,some 184,(.fieldAddr 3 .none (.t 10))⟩ (.br ⟨none,none,(.fR (.t 184) 183)⟩ .done .nil)) .nil) .nil)) .nil)))))) (.some [1,3,6,10,170,171,172])))) (.region [⟨none,some 185,(.bin .add (.t 172) (.c (.int .i64 1)))⟩,⟨none,some 172,(.set (.t 185) false)⟩] (.some [1,3,6,10,170,171,172]))))))
theorem Ht {c:Cx} {H:List aa} (hD:Du c H) {x y:Nat} (w:XY H x y) {i k:Int} {rl at':Int} {l0:List PP} (Dd:l0.length≤1) {b:List Int} {vb:AV} (hb:IL vb b) (lb:b.length≤100000000) (hp:∀ z∈b,qj c i z) {G:List aa} (h:PB c H x y i k [.int .i64 rl,.int .i64 at',.ag,qi l0] G) :
 mv ⟨Tryz.prog,none⟩ H.length S6 [(1,.int .i64 i),(3,.ai (.ptr c.d 0)),(6,.ptr H.length 0),(10,.ptr (H.length + 3) 0),(170,vb),(171,.int .i64 b.length),(172,.int .i64 0)] G fun e aL G'=>
  e=.exit 5∧get aL 6=.ptr H.length 0∧get aL 10=.ptr (H.length + 3) 0∧∃ qs,lf (Sh c.O) qs (c.tm i) (b.map c.tm)∧PB c H x y i k [.int .i64 rl,.int .i64 at',.ag,qi (l0++qs)] G':=by
 obtain ⟨b1,b2,b3,b4⟩:=hb.one
 unfold S6
 refine aJ b.length (fun j (s:List aa×List PP)=>PB c H x y i k [.int .i64 rl,.int .i64 at',.ag,qi (l0++s.2)] s.1∧s.2.length=j∧∀ j',j' < j→Sh c.O (s.2.getD j' default) (c.tm i) (c.tm (b.getD j' 0)))
  (fun j s=>[(1,.int .i64 i),(3,.ai (.ptr c.d 0)),(6,.ptr H.length 0),(10,.ptr (H.length + 3) 0),(170,vb),(171,.int .i64 b.length),(172,.int .i64 j)]) (fun j s=>s.1) (G,[]) ⟨⟨by rw [abQ];exact h,rfl,fun j h=>by omega⟩,aB _ _ _⟩ fun j s hj hI=>?_
 obtain ⟨G,qs⟩:=s
 obtain ⟨lV,hlen,Tr⟩:=hI
 simp only at lV hlen Tr
 by_cases EY:(j:Int) < b.length
 ·have mU:j < b.length:=by omega
  have gp:=lV.gp
  have hl:(l0++qs).length < 1000000000:=by rw [aaf];omega
  have ol:=fun es=>lV.set (es':=es) hD w
  simp +contextual only [EY,decide_true,hb.lens,hb.idx,yP,gp,d3,s3,sZ,Nat.reduceEqDiff,Nat.reduceAdd,Nat.reduceLT,↓reduceIte,reduceCtorEq]
  have fin:∀ (q:PP) (G':List aa),Sh c.O q (c.tm i) (c.tm (b.getD j 0))→PB c H x y i k [.int .i64 rl,.int .i64 at',.ag,qi (l0++(qs++[q]))] G'→∃ (j':Nat) (t:List aa×List PP),(j'≤b.length∧PB c H x y i k [.int .i64 rl,.int .i64 at',.ag,qi (l0++t.2)] t.1∧t.2.length=j'∧∀ j'',j'' < j'→Sh c.O (t.2.getD j'' default) (c.tm i) (c.tm (b.getD j'' 0)))∧b.length - j' < b.length - j∧
   sle H.length [(1,.int .i64 i),(3,.ai (.ptr c.d 0)),(6,.ptr H.length 0),(10,.ptr (H.length + 3) 0),(170,vb),(171,.int .i64 b.length),(172,.int .i64 (IntKind.i64.wrap (j + 1)))] G' [(1,.int .i64 i),(3,.ai (.ptr c.d 0)),(6,.ptr H.length 0),(10,.ptr (H.length + 3) 0),(170,vb),(171,.int .i64 b.length),(172,.int .i64 j')] t.1:=by
   intro q G' hq aep
   refine ⟨j + 1,(G',qs++[q]),⟨mU,aep,by simp [hlen],fun j'' ai1=>?_⟩,by omega,aE (by rw [au j (by omega)]) rfl⟩
   by_cases e:j''=j
   ·subst e
    have:(qs++[q]).getD j'' default=q:=by rw [← hlen];simp
    rw [this];exact hq
   ·have:(qs++[q]).getD j'' default=qs.getD j'' default:=by
     rw [rB,rB,yO (by omega)]
    rw [this];exact Tr j'' (by omega)
  refine ⟨by omega,?_,?_⟩
  ·refine af (hp _ (aT mU) _ (ol _).du) ?_
   rintro r G2 ⟨q,rfl,hq,hU,C2⟩
   have Ny:=(ol _).call hD w hU C2
   have gp2:=Ny.gp
   have CF:=fun es=>Ny.set (es':=es) hD w
   obtain ⟨q1,q2,q3,q4,q5,q6,q7,q8,q9⟩:=aH q
   obtain ⟨v1,v2,v3,v4,v5,v6⟩:=jk (l0++(qs++[q]))
   simp +contextual only [q1,q2,kx,E1 _ _ hl,gp2,s3,abb,sZ,Nat.reduceEqDiff,Nat.reduceAdd,Nat.reduceLT,↓reduceIte]
   have el:AV.al 4 (dx (l0++(qs++[q])))=qi (l0++(qs++[q])):=by rw [← abb];exact sT _ _
   rw [el]
   exact ⟨jG _ _,fin q _ hq (CF _)⟩
  ·refine af (hp _ (aT mU) _ lV.du) ?_
   rintro r G2 ⟨q,rfl,hq,hU,C2⟩
   have Ny:=lV.call hD w hU C2
   have gp2:=Ny.gp
   have CF:=fun es=>Ny.set (es':=es) hD w
   have gp3:=fun es=>(CF es).gp
   have yp:=fun es es'=>(CF es).set (es':=es') hD w
   obtain ⟨q1,q2,q3,q4,q5,q6,q7,q8,q9⟩:=aH q
   obtain ⟨v1,v2,v3,v4,v5,v6⟩:=jk (l0++(qs++[q]))
   simp +contextual only [q1,q2,kx,E1 _ _ hl,gp2,gp3,d3,s3,abb,sZ,Nat.reduceEqDiff,Nat.reduceAdd,Nat.reduceLT,↓reduceIte]
   have el:AV.al 4 (dx (l0++(qs++[q])))=qi (l0++(qs++[q])):=by rw [← abb];exact sT _ _
   rw [el]
   exact ⟨jG _ _,fin q _ hq (yp _ _)⟩
 ·have e:j=b.length:=by omega
  simp +contextual only [EY,decide_false,sZ,Nat.reduceEqDiff,↓reduceIte]
  refine ⟨qs,⟨by rw [hlen,e,ace],fun j' vY=>?_⟩,lV⟩
  rw [ace] at vY
  rw [cE vY];exact Tr j' (by omega)
end Go.aK
end
section
set_option maxRecDepth 100000
namespace Go.aK
open Go Go.Proofs Go.eI
structure PA (c:Cx) (H:List aa) (x y:Nat) (i k:Int) (G:List aa):Prop where
 du:Du c G
 gx:G[x]?=some (.cells [bu (c.kd i)])
 gy:G[y]?=some (.cells [bu (c.kd k)])
 g6:G[H.length]?=some (.cells [.int .i64 0,.int .i64 0,.ag,.ag])
 len:G.length=H.length + 3
 up:∀ j,j < H.length→j≠c.e→j≠c.g→G[j]?=H[j]?
theorem PA.call {c:Cx} {H G G':List aa} {x y:Nat} {i k:Int} (hD:Du c H) (w:XY H x y) (h:PA c H x y i k G) (hU:Up c G G') (kh:Du c G'):PA c H x y i k G':=by
 obtain ⟨l1,l2,l3⟩:=hD.lt
 obtain ⟨w1,w2,w3,w4⟩:=w
 exact ⟨kh,by rw [hU.get x (by omega) (by omega),h.gx],by rw [hU.get y (by omega) (by omega),h.gy],by rw [hU.get _ (by omega) (by omega),h.g6],by rw [hU.len,h.len],fun j h1 h2 h3=>by rw [hU.get j h2 h3,h.up j h1 h2 h3]⟩
theorem PA.ue {c:Cx} {H G:List aa} {x y:Nat} {i k:Int} (w:XY H x y) (h:PA c H x y i k G) (es:List AV):PB c H x y i k es (G++[.cells es]):=by
 obtain ⟨w1,w2,w3,w4⟩:=w
 have hl:=h.len
 exact ⟨h.du.ue _,by rw [yO (by omega),h.gx],by rw [yO (by omega),h.gy],by rw [yO (by omega),h.g6],by rw [← hl];simp,by simp [hl],fun j h1 h2 h3=>by rw [yO (by omega),h.up j h1 h2 h3]⟩
theorem bdP (r:Int) (φ:AV→Prop):cH [.int .i64 0,.int .i64 0,.ag,.ag] [(0,1,.int .i64 r)] φ=φ (.agg [.int .i64 r,.int .i64 0,.ag,.ag]):=by
 simp only [cH,iB,eq_iff_iff]
 constructor
 ·rintro ⟨_,_,_,h⟩;exact h
 ·exact fun h=>⟨rfl,rfl,by simp,h⟩
theorem PB.fin {c:Cx} {H G:List aa} {x y:Nat} {i k:Int} {r i':Int} {to:List Int} {l:List PP} (hD:Du c H) (h:PB c H x y i k [.int .i64 r,.int .i64 i',vE to,qi l] G) (hs:Sh c.O (.mk r i' to l) (c.tm i) (c.tm k)) :
 Av H.length (dA (.mk r i' to l)) (G.set H.length (.cells (dA (.mk r i' to l)).cells)) (aat c i k H):=by
 obtain ⟨l1,l2,l3⟩:=hD.lt
 refine SJ (G:=(G.set H.length (.cells (dA (.mk r i' to l)).cells)).take H.length) rfl (gJ _ _) rfl ⟨_,rfl,hs,⟨?_,fun j h1 h2=>?_⟩,?_⟩
 ·have:=h.len;simp;omega
 ·rw [aax]
  split
  ·rename_i hj;rw [yQ (by omega),h.up j hj h1 h2]
  ·rename_i hj;rw [abL (by omega)]
 ·exact (h.du.set (by omega) (by omega) (by omega)).take l1 l2 l3
theorem E3 (p:PP) (φ:AV→Prop):dd (some (.cells (dA p).cells)) (some 4) 0 φ=φ (dA p):=by
 obtain ⟨_,h2,_,_,_,_,h7,h8,_⟩:=aH p
 simp only [dd,List.drop_zero,h2,aaw (Nat.le_of_eq h2),h8,h7]
 simp
theorem S7 (p:PP):ah [AV.int .i64 0,.int .i64 0,.ag,.ag] 0 (dA p).cells=(dA p).cells:=by rw [pe];rfl
theorem wG {c:Cx} (hc:c.Ok) {i k:Int} (hi:c.ep i) (hk:c.ep k):IJ c i k:=by
 have ki:=hc.kids i hi
 have kk:=hc.kids k hk
 exact ⟨fun H hD=>ZZ hc hi (fun x hx=>kV hc (ki.2 x hx) hk) (fun x hx=>kW hc (ki.2 x hx) hk) hD,fun H hD=>Z0 hc hi hk (fun y hy=>kW hc hi (kk.2 y hy)) hD,
  fun H hD=>Z2 hc hi hk (fun y hy=>kW hc hi (kk.2 y hy)) (fun x hx y hy=>kV hc (ki.2 x hx) (kk.2 y hy)) (fun x hx y hy=>kW hc (ki.2 x hx) (kk.2 y hy)) hD,
  fun H hD=>Z8 hc hi hk (fun x hx y hy=>kV hc (ki.2 x hx) (kk.2 y hy)) (fun x hx y hy=>kW hc (ki.2 x hx) (kk.2 y hy)) hD⟩
theorem aau {c:Cx} (hc:c.Ok) {i k:Int} (hi:c.ep i) (hk:c.ep k) (hR:R c.O (c.tm i) (c.tm k)) (hr:iO c i k 1) (jy:∀ m,m < 1→¬ iO c i k m) (hp:∀ x∈c.kd i,R c.O (c.tm x) (c.tm k)→qj c x k):qj c i k:=by
 intro H hD
 refine E0.2.calls rfl ?_
 simp only [E0,aG]
 have k2:∀ l,(bu l).ab=bu l:=fun l=>(aI l).2.1
 have ki:=hc.kids i hi
 have kk:=hc.kids k hk
 have l1:=hc.kl i hi
 have l2:=hc.kl k hk
 obtain ⟨a1,a2,a3,a4,a5⟩:=aI (c.kd i)
 obtain ⟨b1,b2,b3,b4,b5⟩:=aI (c.kd k)
 have ii:IL (bu (c.kd i)) (c.kd i):=.inl rfl
 have ik:IL (bu (c.kd k)) (c.kd k):=.inl rfl
 have ei:(c.nd.getD i.toNat default).snd=c.kd i:=rfl
 have ek:(c.nd.getD k.toNat default).snd=c.kd k:=rfl
 obtain ⟨m1,m2,m3⟩:=hD.lt
 have ed:∀ X:List aa,(H++X)[c.d]?=H[c.d]?:=fun X=>yO m1
 have spv:∀ x:AV,ah [AV.ag] 0 [x]=[x]:=fun x=>rfl
 have spq:ah [AV.int .i64 0,.int .i64 0,.ag,.ag] 0 [AV.int .i64 0,.int .i64 0,.ag,.ag]=[AV.int .i64 0,.int .i64 0,.ag,.ag]:=rfl
 simp +contextual only [sZ,Nat.reduceEqDiff,Nat.reduceAdd,↓reduceIte,reduceCtorEq]
 refine mI (K1:=fun e G=>get e 1=.int .i64 i∧get e 3=.ai (.ptr c.d 0)∧get e 5=.ai (.int .i64 k)∧get e 6=.ptr H.length 0∧∃ x y,get e 7=.ptr x 0∧get e 8=.ptr y 0∧XY H x y∧PA c H x y i k G) ?_ ?_
 ·have P0:aa:=.cells [.int .i64 0,.int .i64 0,.ag,.ag]
  have A:∃ x y,AV.ptr (H.length + 1) 0=.ptr x 0∧AV.ptr (H.length + 2) 0=.ptr y 0∧XY H x y∧PA c H x y i k (H++[.cells [.int .i64 0,.int .i64 0,.ag,.ag],.cells [bu (c.kd i)],.cells [bu (c.kd k)]]):=
   ⟨_,_,rfl,rfl,⟨by omega,by omega,by omega,by omega⟩,⟨hD.ue _,by simp,by simp,by simp,by simp,fun j hj _ _=>yO hj⟩⟩
  have B:∃ x y,AV.ptr (H.length + 2) 0=.ptr x 0∧AV.ptr (H.length + 1) 0=.ptr y 0∧XY H x y∧PA c H x y i k (H++[.cells [.int .i64 0,.int .i64 0,.ag,.ag],.cells [bu (c.kd k)],.cells [bu (c.kd i)]]):=
   ⟨_,_,rfl,rfl,⟨by omega,by omega,by omega,by omega⟩,⟨hD.ue _,by simp,by simp,by simp,by simp,fun j hj _ _=>yO hj⟩⟩
  simp +contextual only [ed,hD.d,nK,FD,cT,cn,k2,ei,ek,a1,a3,a4,a5,b1,b3,b4,b5,List.map_cons,List.map_nil,spv,List.all_cons,List.all_nil,acb,bP,c9,sZ,Nat.reduceEqDiff,Nat.reduceAdd,Nat.reduceLT,↓reduceIte]
  refine ⟨hi,?_⟩
  repeat' apply hV
  all_goals first | exact hk.1 | exact hk.2 | exact A | exact B
 ·rintro e G ⟨e1,e3,e5,e6,x,y,e7,e8,w,CG⟩
  simp +contextual only [e1,e3,e5,e6,e7,e8,sZ,Nat.reduceEqDiff,↓reduceIte]
  refine aJ 0 (fun m (G:List aa)=>PA c H x y i k G)
   (fun m G=>[(1,.int .i64 i),(3,.ai (.ptr c.d 0)),(5,.ai (.int .i64 k)),(6,.ptr H.length 0),(7,.ptr x 0),(8,.ptr y 0),(9,.int .i64 ((m + 1:Nat):Int))]) (fun m G=>G) G ⟨CG,aB _ _ _⟩ fun m G hm CG=>?_
  have hf:eJ.cells[m + 1]?=some (.fn (.func (182 + (m + 1))) [] []):=by
   have:m=0∨m=1∨m=2∨m=3:=by omega
   rcases this with rfl | rfl | rfl | rfl <;> rfl
  have en:=W4 (m + 1) _ hf (by omega)
  simp +contextual only [sZ]
  refine ay Nj ?_
  simp +contextual only [nD,en _ rfl,sZ,Nat.reduceEqDiff,Nat.reduceAdd,↓reduceIte,reduceCtorEq]
  refine af ((wG hc hi hk).at (n:=m + 1) (by omega) (by omega) CG.du) ?_
  rintro r G1 ⟨z,rfl,hz,hU,oh⟩
  have rk:=CG.call hD w hU oh
  by_cases SP:m=0
  rotate_left
  ·have:z=false:=by
    cases z with
    | false=>rfl
    | true=>exact absurd (hz.1 rfl) (jy (m + 1) (by omega))
   subst this
   simp +contextual only [Bool.not_false,sZ,Nat.reduceEqDiff,↓reduceIte]
   exact ⟨m + 1,G1,⟨by omega,rk⟩,by omega,aE (by rw [au (m + 1) (by omega)]) rfl⟩
  subst SP
  have:z=true:=hz.2 hr
  subst this
  have rJ:=rk.len
  have lV:=fun es=>rk.ue w es
  have Wb:=fun es=>(lV es).gp
  have Q4:=fun es=>(lV es).gx
  have hgy:=fun es=>(lV es).gy
  have bX:∀ (o o':aa),(G1++[o]).set (H.length + 3) o'=G1++[o']:=fun o o'=>by rw [← rJ];simp
  have ec:((1:Nat):Int)=1:=rfl
  have zf:List.map AV.ab [AV.int .i64 (1:Int),.int .i64 0,.ag,.ag]=[.int .i64 (1:Int),.int .i64 0,.ag,.ag]:=rfl
  have zf0:List.map AV.ab [AV.int .i64 0,.int .i64 0,.ag,.ag]=[.int .i64 0,.int .i64 0,.ag,.ag]:=rfl
  have e86:∀ a b:Int,decide (a=b)=decide (a=b):=fun _ _=>rfl
  simp +contextual only [k2,decide_true,Bool.not_true,Bool.not_true,bdP,rJ,Wb,bX,ec,zf,zf0,KD,Q4,sZ,Nat.reduceEqDiff,Nat.reduceAdd,Nat.reduceLT,↓reduceIte,reduceCtorEq]
  have nP:=lV [.int .i64 1,.int .i64 0,.ag,.ag]
  generalize G1++[aa.cells [AV.int .i64 1,.int .i64 0,.ag,.ag]]=G2 at nP ⊢
  have gM:∃ z∈c.kd i,E c.O (c.tm z) (c.tm k)∨R c.O (c.tm z) (c.tm k):=by
   rcases hr with h | h | h | h
   ·exact h.2
   all_goals (exact absurd h.1 (by decide))
  refine af (Ng (SD.Cs c G2) ii (by omega) 147 [] [.ai (.ptr c.d 0),.ai (.int .i64 k)] rfl rfl (Q:=fun z=>E c.O (c.tm z) (c.tm k)∨R c.O (c.tm z) (c.tm k))
   (fun z hz G hG=>(aen (kV hc (ki.2 z hz) hk) (kW hc (ki.2 z hz) hk) hG.1).mono fun r H' hr=>hr.sb hG) ⟨nP.du,Up.refl c _⟩) ?_
  rintro r G3 ⟨hG3,vV⟩
  rcases vV with ⟨_,vV⟩ | ⟨q,rfl,hq,hQ,_⟩
  ·obtain ⟨z,hz,h⟩:=gM
   exact absurd h (vV z hz)
  have CF:=nP.call hD w hG3.2 hG3.1
  have rH:=fun es=>CF.set (es':=es) hD w
  have gp3:=CF.gp
  have gps:=fun es=>(rH es).gp
  have gxs:=fun es=>(rH es).gx
  have g6s:=fun es=>(rH es).g6
  have jO:(c.kd i).getD q 0∈c.kd i:=aT hq
  have un1:List.map AV.ab [AV.int .i64 (q:Int)]=[.int .i64 (q:Int)]:=rfl
  simp +contextual only [k2,ii.lens,ii.idx,gp3,Wa,un1,gps,gxs,yP,sZ,Nat.reduceEqDiff,Nat.reduceAdd,Nat.reduceLT,Nat.reduceLeDiff,↓reduceIte,reduceCtorEq]
  refine ⟨by omega,?_⟩
  refine af (kV hc (ki.2 _ jO) hk _ (rH _).du) ?_
  rintro r G4 ⟨v,rfl,hv,W1,W2⟩
  have yp:=(rH _).call hD w W1 W2
  have gp4:=yp.gp
  have gx4:=yp.gx
  have g64:=yp.g6
  have cod:∀ l:List PP,((c.tm i).l.getD q default)=c.tm ((c.kd i).getD q 0):=fun _=>by rw [← ki.1,cE hq]
  have klen:(c.tm i).l.length=(c.kd i).length:=by rw [← ki.1];simp
  have ki2:(c.tm i).k=2:=by
   have:=(ul hc hi hk).1
   have hh:=(qE.1 (show R c.O (c.tm i) (c.tm k) from hR)).1
   exact hh
  cases v with
  | true=>
    have hs:Sh c.O (.mk 1 q [] []) (c.tm i) (c.tm k):=by
     rw [Sh1 rfl ki2]
     refine ⟨rfl,⟨by show (0:Int)≤q;omega,by show (q:Int) < _;omega⟩,.inl ⟨rfl,?_⟩⟩
     show E c.O ((c.tm i).l.getD (q:Int).toNat default) (c.tm k)
     rw [yP,cod []];exact hv.1 rfl
    have e4:(AV.int .i64 (q:Int))=AV.int .i64 (q:Int):=rfl
    have lp:=S5 1 q [] []
    obtain ⟨q1,q2,q3,q4,q5,q6,q7,q8,q9⟩:=aH (.mk 1 q [] [])
    have lp2:=E3 (.mk 1 q [] [])
    have Nz:(G4.set H.length (.cells (dA (.mk 1 q [] [])).cells))[H.length]?=some (.cells (dA (.mk 1 q [] [])).cells):=by rw [yS (aR g64)]
    change ∀ φ,dd (some (.cells [.int .i64 1,.int .i64 (q:Int),.ag,.ag])) (some 4) 0 φ=φ (dA (.mk 1 q [] [])) at lp
    simp +contextual only [Bool.not_true,gp4,lp,g64,q1,q2,q3,q9,S7,Nz,lp2,sZ,Nat.reduceEqDiff,Nat.reduceAdd,↓reduceIte,reduceCtorEq]
    refine ⟨by first | exact cL (gJ _ _) | omega,yp.fin hD hs⟩
  | false=>
    have hRx:R c.O (c.tm ((c.kd i).getD q 0)) (c.tm k):=hQ.resolve_left fun h=>absurd (hv.2 h) (by simp)
    simp +contextual only [k2,ii.lens,ii.idx,Bool.not_false,gp4,gx4,yP,sZ,Nat.reduceEqDiff,Nat.reduceAdd,Nat.reduceLT,↓reduceIte,reduceCtorEq]
    refine ⟨by omega,af (hp _ jO hRx _ yp.du) ?_⟩
    rintro r G5 ⟨u,rfl,hu,hU5,hD5⟩
    have NA:=yp.call hD w hU5 hD5
    have gp5:=NA.gp
    have Hu:=fun es=>NA.set (es':=es) hD w
    have gp6:=fun es=>(Hu es).gp
    have g66:=fun es=>(Hu es).g6
    have hs:Sh c.O (.mk 1 q [] [u]) (c.tm i) (c.tm k):=by
     rw [Sh1 rfl ki2]
     refine ⟨rfl,⟨by show (0:Int)≤q;omega,by show (q:Int) < _;omega⟩,.inr ⟨u,rfl,?_⟩⟩
     show Sh c.O u ((c.tm i).l.getD (q:Int).toNat default) (c.tm k)
     rw [yP,cod []];exact hu
    have lp:=S5 1 q [] [u]
    change ∀ φ,dd (some (.cells [.int .i64 1,.int .i64 (q:Int),.ag,.al 4 [dA u]])) (some 4) 0 φ=φ (dA (.mk 1 q [] [u])) at lp
    obtain ⟨q1,q2,q3,q4,q5,q6,q7,q8,q9⟩:=aH (.mk 1 q [] [u])
    obtain ⟨u1,u2,u3,u4,u5,u6,u7,u8,u9⟩:=aH u
    have lp2:=E3 (.mk 1 q [] [u])
    have Nz:=fun es=>yS (a:=aa.cells (dA (.mk 1 q [] [u])).cells) (aR (g66 es))
    simp +contextual only [gp5,gp6,g66,lp,q1,q2,q3,q9,S7,Nz,lp2,u1,u2,u6,kx,s3,sZ,Nat.reduceEqDiff,Nat.reduceAdd,Nat.reduceLT,↓reduceIte,reduceCtorEq]
    refine ⟨by first | exact cL (gJ _ _) | omega,?_⟩
    exact PB.fin (to:=[]) (l:=[u]) hD (Hu _) hs
end Go.aK
end
section
set_option maxRecDepth 100000
namespace Go.aK
open Go Go.Proofs Go.eI
theorem aay {c:Cx} (hc:c.Ok) {i k:Int} (hi:c.ep i) (hk:c.ep k) (hR:R c.O (c.tm i) (c.tm k)) (hr:iO c i k 2) (jy:∀ m,m < 2→¬ iO c i k m) (hp:∀ y∈c.kd k,R c.O (c.tm i) (c.tm y)→qj c i y):qj c i k:=by
 intro H hD
 refine E0.2.calls rfl ?_
 simp only [E0,aG]
 have k2:∀ l,(bu l).ab=bu l:=fun l=>(aI l).2.1
 have ki:=hc.kids i hi
 have kk:=hc.kids k hk
 have l1:=hc.kl i hi
 have l2:=hc.kl k hk
 obtain ⟨a1,a2,a3,a4,a5⟩:=aI (c.kd i)
 obtain ⟨b1,b2,b3,b4,b5⟩:=aI (c.kd k)
 have ii:IL (bu (c.kd i)) (c.kd i):=.inl rfl
 have ik:IL (bu (c.kd k)) (c.kd k):=.inl rfl
 have ei:(c.nd.getD i.toNat default).snd=c.kd i:=rfl
 have ek:(c.nd.getD k.toNat default).snd=c.kd k:=rfl
 obtain ⟨m1,m2,m3⟩:=hD.lt
 have ed:∀ X:List aa,(H++X)[c.d]?=H[c.d]?:=fun X=>yO m1
 have spv:∀ x:AV,ah [AV.ag] 0 [x]=[x]:=fun x=>rfl
 have spq:ah [AV.int .i64 0,.int .i64 0,.ag,.ag] 0 [AV.int .i64 0,.int .i64 0,.ag,.ag]=[AV.int .i64 0,.int .i64 0,.ag,.ag]:=rfl
 simp +contextual only [sZ,Nat.reduceEqDiff,Nat.reduceAdd,↓reduceIte,reduceCtorEq]
 refine mI (K1:=fun e G=>get e 1=.int .i64 i∧get e 3=.ai (.ptr c.d 0)∧get e 5=.ai (.int .i64 k)∧get e 6=.ptr H.length 0∧∃ x y,get e 7=.ptr x 0∧get e 8=.ptr y 0∧XY H x y∧PA c H x y i k G) ?_ ?_
 ·have P0:aa:=.cells [.int .i64 0,.int .i64 0,.ag,.ag]
  have A:∃ x y,AV.ptr (H.length + 1) 0=.ptr x 0∧AV.ptr (H.length + 2) 0=.ptr y 0∧XY H x y∧PA c H x y i k (H++[.cells [.int .i64 0,.int .i64 0,.ag,.ag],.cells [bu (c.kd i)],.cells [bu (c.kd k)]]):=
   ⟨_,_,rfl,rfl,⟨by omega,by omega,by omega,by omega⟩,⟨hD.ue _,by simp,by simp,by simp,by simp,fun j hj _ _=>yO hj⟩⟩
  have B:∃ x y,AV.ptr (H.length + 2) 0=.ptr x 0∧AV.ptr (H.length + 1) 0=.ptr y 0∧XY H x y∧PA c H x y i k (H++[.cells [.int .i64 0,.int .i64 0,.ag,.ag],.cells [bu (c.kd k)],.cells [bu (c.kd i)]]):=
   ⟨_,_,rfl,rfl,⟨by omega,by omega,by omega,by omega⟩,⟨hD.ue _,by simp,by simp,by simp,by simp,fun j hj _ _=>yO hj⟩⟩
  simp +contextual only [ed,hD.d,nK,FD,cT,cn,k2,ei,ek,a1,a3,a4,a5,b1,b3,b4,b5,List.map_cons,List.map_nil,spv,List.all_cons,List.all_nil,acb,bP,c9,sZ,Nat.reduceEqDiff,Nat.reduceAdd,Nat.reduceLT,↓reduceIte]
  refine ⟨hi,?_⟩
  repeat' apply hV
  all_goals first | exact hk.1 | exact hk.2 | exact A | exact B
 ·rintro e G ⟨e1,e3,e5,e6,x,y,e7,e8,w,CG⟩
  simp +contextual only [e1,e3,e5,e6,e7,e8,sZ,Nat.reduceEqDiff,↓reduceIte]
  refine aJ 1 (fun m (G:List aa)=>PA c H x y i k G)
   (fun m G=>[(1,.int .i64 i),(3,.ai (.ptr c.d 0)),(5,.ai (.int .i64 k)),(6,.ptr H.length 0),(7,.ptr x 0),(8,.ptr y 0),(9,.int .i64 ((m + 1:Nat):Int))]) (fun m G=>G) G ⟨CG,aB _ _ _⟩ fun m G hm CG=>?_
  have hf:eJ.cells[m + 1]?=some (.fn (.func (182 + (m + 1))) [] []):=by
   have:m=0∨m=1∨m=2∨m=3:=by omega
   rcases this with rfl | rfl | rfl | rfl <;> rfl
  have en:=W4 (m + 1) _ hf (by omega)
  simp +contextual only [sZ]
  refine ay Nj ?_
  simp +contextual only [nD,en _ rfl,sZ,Nat.reduceEqDiff,Nat.reduceAdd,↓reduceIte,reduceCtorEq]
  refine af ((wG hc hi hk).at (n:=m + 1) (by omega) (by omega) CG.du) ?_
  rintro r G1 ⟨z,rfl,hz,hU,oh⟩
  have rk:=CG.call hD w hU oh
  by_cases SP:m=1
  rotate_left
  ·have:z=false:=by
    cases z with
    | false=>rfl
    | true=>exact absurd (hz.1 rfl) (jy (m + 1) (by omega))
   subst this
   simp +contextual only [Bool.not_false,sZ,Nat.reduceEqDiff,↓reduceIte]
   exact ⟨m + 1,G1,⟨by omega,rk⟩,by omega,aE (by rw [au (m + 1) (by omega)]) rfl⟩
  subst SP
  have:z=true:=hz.2 hr
  subst this
  have rJ:=rk.len
  have lV:=fun es=>rk.ue w es
  have Wb:=fun es=>(lV es).gp
  have Q4:=fun es=>(lV es).gx
  have hgy:=fun es=>(lV es).gy
  have bX:∀ (o o':aa),(G1++[o]).set (H.length + 3) o'=G1++[o']:=fun o o'=>by rw [← rJ];simp
  have ec:((2:Nat):Int)=2:=rfl
  have zf:List.map AV.ab [AV.int .i64 (2:Int),.int .i64 0,.ag,.ag]=[.int .i64 (2:Int),.int .i64 0,.ag,.ag]:=rfl
  have zf0:List.map AV.ab [AV.int .i64 0,.int .i64 0,.ag,.ag]=[.int .i64 0,.int .i64 0,.ag,.ag]:=rfl
  have e86:∀ a b:Int,decide (a=b)=decide (a=b):=fun _ _=>rfl
  simp +contextual only [k2,ik.aO,ik.len (by omega),decide_false,Bool.not_true,Bool.not_true,bdP,rJ,Wb,bX,ec,zf,zf0,KD,hgy,sZ,Nat.reduceEqDiff,Nat.reduceAdd,Nat.reduceLT,↓reduceIte,Int.reduceEq]
  have nP:=lV [.int .i64 2,.int .i64 0,.ag,.ag]
  generalize G1++[aa.cells [AV.int .i64 2,.int .i64 0,.ag,.ag]]=G2 at nP ⊢
  have ki2:(c.tm i).k=2:=(qE.1 hR).1
  have ta:uk c i k:=by
   rcases hr with h | h | h | h
   ·exact absurd h.1 (by decide)
   ·exact h.2
   all_goals (exact absurd h.1 (by decide))
  obtain ⟨Hg,aS,hall0⟩:=ta
  have kk2:(c.tm k).k=2:=of_decide_eq_true Hg
  have Wc:∀ qs,lf (Sh c.O) qs (c.tm i) ((c.kd k).map c.tm)→Sh c.O (.mk 2 0 [] qs) (c.tm i) (c.tm k):=by
   intro qs hq
   rw [Sh2 rfl ki2]
   rw [kk.1] at hq
   refine ⟨rfl,rfl,kk2,?_,hq⟩
   rw [rc,if_pos kk2,rc,if_pos ki2] at aS;exact aS
  refine mA (Ht hD w (l0:=[]) (by simp) ik l2 (fun z hz=>hp z hz (hall0 z hz)) nP) ?_
  rintro e1 e G6 ⟨rfl,f6,f10,qs,iU,pf⟩
  replace pf:PB c H x y i k [.int .i64 2,.int .i64 0,.ag,qi qs] G6:=pf
  have gp6:=pf.gp
  have g66:=pf.g6
  have lp:=S5 2 0 [] qs
  have tv0:vE []=AV.ag:=rfl
  rw [tv0] at lp
  have hs:Sh c.O (.mk 2 0 [] qs) (c.tm i) (c.tm k):=Wc qs iU
  obtain ⟨q1,q2,q3,q4,q5,q6,q7,q8,q9⟩:=aH (.mk 2 0 [] qs)
  have lp2:=E3 (.mk 2 0 [] qs)
  have Nz:=yS (a:=aa.cells (dA (.mk 2 0 [] qs)).cells) (aR g66)
  have Ro:aj (H.length + 1) (dA (.mk 2 0 [] qs)).cells=true:=cL (gJ _ _)
  have mq:=PB.fin (to:=[]) (l:=qs) hD pf hs
  simp +contextual only [f6,f10,gp6,g66,lp,q1,q2,q3,q9,S7,Nz,lp2,Ro,sZ,Nat.reduceEqDiff,Nat.reduceAdd,↓reduceIte,reduceCtorEq]
  first | exact mq | exact ⟨by omega,mq⟩ | exact ⟨trivial,mq⟩
end Go.aK
end
