/- Part 14 of 19 of the proof. -/
import Derived.Test.YtljchnfgjdjobaaGreatUam
import Derived.Test.YtljchnfgjdjobaaGreatUag
import Derived.KernelRfl
set_option linter.unusedVariables false
set_option linter.unusedSimpArgs false
set_option linter.defProp false
set_option linter.unusedSectionVars false
section
set_option maxRecDepth 100000
namespace Go.aI
open Go Go.Proofs Go.eJ
def upto (n:Nat):List Int:=(List.range n).map Int.ofNat
theorem Ab (n:Nat):upto (n + 1)=upto n++[(n:Int)]:=by simp [upto,acr]
theorem D6 (n:Nat):(upto n).length=n:=by simp [upto]
theorem xz {n:Nat} {x:Int}:x∈upto n↔0≤x∧x < n:=by
 simp only [upto,aaq,aaP]
 constructor
 ·rintro ⟨j,h,rfl⟩;exact ⟨Int.natCast_nonneg j,Int.ofNat_lt.2 h⟩
 ·intro h;exact ⟨x.toNat,by omega,by simp;omega⟩
def xA (j:Nat):AV:=match j with | 0=>.ag | j + 1=>.ap 1 (ints (upto (j + 1)))
theorem Mr (j:Nat) (h:j < 1000000000) (ψ:List AV→Prop) (hψ:ψ (ints (upto (j + 1)))):bE 1 8 (xA j) (.ap 0 [.int .i64 (j:Int)]) ψ:=by
 have e1:ints (upto j)++[AV.int .i64 (j:Int)]=ints (upto (j + 1)):=by rw [Ab];simp [ints]
 have jt:qP 1 [AV.int .i64 (j:Int)]:=of_eq_true (mX [(j:Int)])
 cases j with
 | zero=>
   rw [xA,mT]
   exact ⟨by simp,jt,hψ⟩
 | succ j=>
   rw [xA,mU]
   exact ⟨by rw [ay,D6];simp;omega,jt,by rw [e1];exact hψ⟩
theorem Ms (j:Nat):(xA j).ab=bt (upto j):=by
 cases j with
 | zero=>rfl
 | succ j=>rw [xA,Ab];cases h:upto j <;> rfl
theorem BP:ch.n=13:=by kernel_rfl
theorem xB:ch.ps=[7]:=by kernel_rfl
theorem tx {id:Nat} {H:List aa} {K:List aa→Prop} {lc:jg} {es:List AV} (h:H[id]?=some (.loop .ready lc es)):ky id H K=K (H.set id (.loop .busy lc es)):=by
 unfold ky;rw [h]
theorem Gn {n0 id:Nat} {R:AV→List aa→Prop} {H:List aa} {lc:jg} {es:List AV} (h:H[id]?=some (.loop .busy lc es)):rv n0 id R .normal H=IM n0 true (H.set id (.loop .ready lc es)) R:=by
 unfold rv;rw [h]
theorem xC {id:Nat} {H:List aa} {K:Option Code→List aa→Prop} {lc:jg} {es:List AV} (h:H[id]?=some (.loop .ready lc es)):behind id H K=K none (H.set id (.loop .eT lc es)):=by
 unfold behind;rw [h]
theorem xD {P:Px} {n0:Nat} {ia ib:IR} {env:Env} {H:List aa} {id:Nat} {R:AV→List aa→Prop}
 (h:lT P n0 ia env H fun e env1 H1=>e=.normal∧ky id H1 fun H2=>lT P n0 ib env1 H2 fun e _ H3=>rv n0 id R e H3):mn P n0 ia env H fun e env1 H1=>e=.normal∧ky id H1 fun H2=>mn P n0 ib env1 H2 fun e _ H3=>rv n0 id R e H3:=by
 refine rL h ?_
 rintro x e H' ⟨h1,h2⟩
 refine ⟨h1,?_⟩
 unfold ky at *
 split at h2
 ·rename_i e'
  exact rL h2 fun _ _ _ h=>h
 ·exact h2.elim
theorem acT (n:Nat) (hn:n < 1000000000):Pure Tryz.prog 200 [.ag,.fn (.func 201) [] [.ai (.int .i64 n)]] (bt (upto n)):=by
 refine fun H=>XE.calls rfl ?_
 simp only [Rk,Rj]
 simp +contextual only [mV,sZ,Nat.reduceEqDiff,Nat.reduceAdd,↓reduceIte,reduceCtorEq]
 have el:∀ X:List aa,(H++X).length=H.length + X.length:=fun X=>aap
 obtain ⟨es,AD⟩:∃ es,es=ln ch.n [(2,AV.ptr H.length 0),(6,AV.fn (.func 201) [] [.ai (.int .i64 n)])]:=⟨_,rfl⟩
 have ees:es=[.any,.any,.ptr H.length 0,.any,.any,.any,.fn (.func 201) [] [.ai (.int .i64 n)],.any,.any,.any,.any,.any,.any]:=by rw [AD,BP];rfl
 let G:Nat→List aa:=fun j=>H++[.cells [xA j],.loop .ready ch es]
 have hG:∀ j,(G j).length=H.length + 2:=fun j=>by simp [G]
 have g1:∀ j,(G j)[H.length + 1]?=some (.loop .ready ch es):=fun j=>by simp [G]
 refine tw (P:=Tryz.prog) (R:=fun r H'=>r=.tuple []∧H'=G n) 201 [] [.ai (.int .i64 n)] ch _ _ _ Tryz.call201 ?_ ?_
 ·rw [← AD]
  have e1:(H++[aa.cells [AV.ag]]).length=H.length + 1:=by simp
  have e2:(H++[aa.cells [AV.ag]]++[.loop .ready ch es])=G 0:=by simp [G,xA]
  rw [e1,e2]
  refine acS n (by omega) (H.length + 1) G (fun j=>by rw [hG,hG]) fun j hj=>?_
  refine o6 (lc:=ch) (es:=es) (g1 j) OG OH ⟨by rw [ees,BP];rfl,by rw [xB];rfl,by rw [xB,BP];rfl,?_,?_⟩ (xD ?_)
  ·rw [ees];intro x hx;simp only [aan,aaH,or_false] at hx
   rcases hx with rfl | rfl | rfl | rfl | rfl | rfl | rfl | rfl | rfl | rfl | rfl | rfl | rfl <;> rfl
  ·intro x hx;simp only [aan,aaH,or_false] at hx;subst hx;rfl
  ·have ez:(ch.ps.zip [AV.int .i64 (j:Int)]).reverse++bV 0 es=(7,.int .i64 (j:Int))::bV 0 es:=by rw [xB];rfl
   rw [ez,ees]
   simp only [Hm,Hn]
   have hb:∀ K,ky (H.length + 1) (G j) K=K (H++[.cells [xA j],.loop .busy ch es]):=fun K=>by rw [tx (g1 j)];simp [G]
   simp +contextual only [hb,sZ,Nat.reduceEqDiff,Nat.reduceAdd,Nat.reduceLT,↓reduceIte,reduceCtorEq]
   refine Mr j (by omega) _ ?_
   have hz:∀ x:AV,(H++[aa.cells [x],.loop .busy ch es])[H.length + 1]?=some (.loop .busy ch es):=fun x=>by simp
   have k8:(AV.ap 1 (ints (upto (j + 1)))).a9 (H.length + 1)=true:=by rw [cc];exact bb _ _
   simp +contextual only [k8,sZ,Nat.reduceEqDiff,Nat.reduceAdd,Nat.reduceLT,↓reduceIte]
   rw [Gn (hz _)]
   refine ⟨by simp [G],rfl,?_⟩
   simp [G,xA]
   exact aaw (by simp)
 ·rintro r G' ⟨rfl,rfl⟩
  have e1:(H++[aa.cells [AV.ag]]).length=H.length + 1:=by simp
  rw [e1,xC (g1 n)]
  have e3:(G n).set (H.length + 1) (.loop .eT ch es)=H++[.cells [xA n],.loop .eT ch es]:=by simp [G]
  rw [e3]
  simp +contextual only [qd,sZ,Nat.reduceAdd,Nat.reduceLT,↓reduceIte,reduceCtorEq]
  have e4:(xA n).ab.ab=bt (upto n):=by rw [Ms];exact (aG _).2.1
  rw [e4]
  exact LN ((aG _).2.2.1 _) rfl
theorem acU (n:Nat) (hn:n < 1000000000):Pure Tryz.prog 152 [.fn (.func 201) [] [.ai (.int .i64 n)]] (bt (upto n)):=by
 refine fun H=>Xe.2.calls rfl ?_
 simp only [Xe,aJ]
 simp +contextual only [sZ,Nat.reduceAdd,↓reduceIte,reduceCtorEq]
 refine ae (acT n hn) ?_
 have e4:(bt (upto n)).ab=bt (upto n):=(aG _).2.1
 simp +contextual only [e4,sZ,↓reduceIte,reduceCtorEq]
 exact bc ((aG _).2.2.1 _) rfl
theorem acV (n:Int):Pure Tryz.prog 153 [.int .i64 n] (.fn (.func 201) [] [.ai (.int .i64 n)]):=by
 refine fun H=>Xf.2.calls rfl ?_
 simp only [Xf,aJ]
 simp +contextual only [sZ,Nat.reduceEqDiff,Nat.reduceAdd,↓reduceIte,reduceCtorEq]
 exact bc rfl rfl
end Go.aI
end
section
set_option maxRecDepth 100000
namespace Go.aI
open Go Go.Proofs Go.eJ
def jJ (c:Cx) (i k:Int) (p:PP):Prop:=∀ H,Du c H→aw Tryz.prog 87 [.ptr c.d 0,.int .i64 i,.int .i64 k,eC p] H (jf c (Sh c.O p (c.tm i) (c.tm k)) H)
theorem acW {c:Cx} {b:List Int} {vb:AV} (hb:IL vb b) {q:Nat} {i j:Int} {l:List PP} (hj:0≤j∧j < b.length) (hl:l.length=b.length) (h:jJ c i (b.getD j.toNat 0) (l.getD j.toNat default)) {G:List aa} (hD:Du c G) (gq:G[q]?=some (.cells [vb])) :
 aw Tryz.prog 154 [.int .i64 j,.ai (.ptr c.d 0),.ai (.int .i64 i),.ptr q 0,.ai (.ap 0 (eo l))] G (jf c (¬ Sh c.O (l.getD j.toNat default) (c.tm i) (c.tm (b.getD j.toNat 0))) G):=by
 refine Xg.2.calls rfl ?_
 simp only [Xg,aJ]
 obtain ⟨b1,b2,b3,b4⟩:=hb.one
 obtain ⟨p1,p2,p3,p4,p5,p6,p7,p8,p9⟩:=bf (l.getD j.toNat default)
 simp +contextual only [gq,b2,hb.lens,hb.idx,BN,sf,sg,p4,sZ,Nat.reduceEqDiff,Nat.reduceAdd,Nat.reduceLT,↓reduceIte,reduceCtorEq]
 refine ⟨hj,⟨hj.1,by omega⟩,af (h G hD) ?_⟩
 rintro r G' ⟨z,rfl,hz,hU,jQ⟩
 simp +contextual only [sZ,↓reduceIte,reduceCtorEq]
 refine eI (b:=!z) rfl ?_ hU jQ
 rw [← hz];cases z <;> simp
theorem cr {b:List Int} {f:Int→T} {j:Nat} (h:j < b.length):(b.map f).getD j default=f (b.getD j 0):=by simp [h]
theorem Vi {c:Cx} {b:List Int} {vb:AV} (hb:IL vb b) (lb:b.length < 1000000000) {q:Nat} (hq:q≠c.e∧q≠c.g) {i:Int} {l:List PP} (h:∀ j,j < b.length→j < l.length→jJ c i (b.getD j 0) (l.getD j default)) {G:List aa} (hD:Du c G) (gq:G[q]?=some (.cells [vb])) :
 aw Tryz.prog 151 [.ap 0 (eo l),.ptr q 0,.ai (.ptr c.d 0),.ai (.int .i64 i)] G (jf c (me (Sh c.O) l (c.tm i) (b.map c.tm)) G):=by
 refine Xd.2.calls rfl ?_
 simp only [Xd,aJ]
 obtain ⟨b1,b2,b3,b4⟩:=hb.one
 simp +contextual only [gq,b2,hb.aL,hb.len (by omega),eO,sZ,Nat.reduceEqDiff,Nat.reduceAdd,Nat.reduceLT,↓reduceIte,reduceCtorEq]
 have e1:me (Sh c.O) l (c.tm i) (b.map c.tm)↔l.length=b.length∧∀ j,j < b.length→Sh c.O (l.getD j default) (c.tm i) (c.tm (b.getD j 0)):=by
  unfold me
  rw [abx]
  refine and_congr_right fun _=>⟨fun h j hj=>?_,fun h j hj=>?_⟩
  ·have:=h j hj;rwa [cr hj] at this
  ·rw [cr hj];exact h j hj
 refine fun IB=>⟨fun he=>?_,fun dG=>?_⟩
 ·refine ae (acV _) ?_
  simp +contextual only [sZ,Nat.reduceEqDiff,Nat.reduceAdd,↓reduceIte]
  refine ae (acU b.length lb) ?_
  have k2:∀ l,(bt l).ab=bt l:=fun l=>(aG l).2.1
  simp +contextual only [k2,sZ,Nat.reduceEqDiff,Nat.reduceAdd,↓reduceIte,reduceCtorEq]
  refine af (DR (SD.BC c G) (.inl rfl:IL (bt (upto b.length)) (upto b.length)) (by rw [D6];omega) 154 [] [.ai (.ptr c.d 0),.ai (.int .i64 i),.ptr q 0,.ai (.ap 0 (eo l))] rfl rfl (Q:=fun j=>¬ Sh c.O (l.getD j.toNat default) (c.tm i) (c.tm (b.getD j.toNat 0)))
   (fun x hx G' eH=>?_) ⟨hD,Up.refl c G⟩) ?_
  ·have hx:=xz.1 hx
   exact (acW hb ⟨hx.1,hx.2⟩ (by omega) (h x.toNat (by omega) (by omega)) eH.1 (by rw [eH.2.get q hq.1 hq.2,gq])).mono fun r H' hr=>hr.sb eH
  ·rintro r G' ⟨z,rfl,hz,eH⟩
   simp +contextual only [sZ,Nat.reduceEqDiff,↓reduceIte,reduceCtorEq]
   refine eI (b:=!z) rfl ?_ eH.2 eH.1
   rw [e1]
   cases z with
   | true=>
     obtain ⟨x,hx,hn⟩:=hz.1 rfl
     have hx:=xz.1 hx
     exact ⟨fun h=>by simp at h,fun h=>absurd (h.2 x.toNat (by omega)) hn⟩
   | false=>
     refine ⟨fun _=>⟨by omega,fun j hj=>?_⟩,fun _=>rfl⟩
     by_cases hs:Sh c.O (l.getD j default) (c.tm i) (c.tm (b.getD j 0))
     ·exact hs
     ·exact absurd (hz.2 ⟨(j:Int),xz.2 ⟨by omega,by omega⟩,hs⟩) (by simp)
 ·refine eI rfl ⟨fun h=>by simp at h,fun h=>?_⟩ (Up.refl c G) hD
  have:=(e1.1 h).1
  exact absurd (by omega) dG
end Go.aI
end
section
set_option maxRecDepth 100000
namespace Go.aI
open Go Go.Proofs Go.eJ
theorem Gp {P:Px} {t:DT} {f:AV→Env} {v:AV} {H0 H:List aa} {K1 K2:Env→List aa→Prop} (h:iO v H0 fun x=>jE P t (f x) H K1) (hk:∀ e G,K1 e G→K2 e G):iO v H0 fun x=>jE P t (f x) H K2:=by
 unfold iO at *
 split at h
 ·exact dI h hk
 ·unfold eU at *
  split at h <;> first | exact dI h hk | exact h.elim | (intro hl;exact dI (h hl) hk) | skip
  all_goals (split at h <;> first | exact dI h hk | exact h.elim)
structure CS (c:Cx) (H:List aa) (p q:Nat) (ts ps:List Int) (G:List aa):Prop where
 du:Du c G
 gp:G[p]?=some (da ts)
 gq:G[q]?=some (da ps)
 len:G.length=H.length + 2
 up:∀ j,j < H.length→j≠c.e→j≠c.g→G[j]?=H[j]?
structure PQ (H:List aa) (p q:Nat):Prop where
 ne:p≠q
 p1:H.length≤p
 q1:H.length≤q
theorem CS.call {c:Cx} {H G G':List aa} {p q:Nat} {ts ps:List Int} (hD:Du c H) (w:PQ H p q) (h:CS c H p q ts ps G) (hU:Up c G G') (jQ:Du c G'):CS c H p q ts ps G':=by
 obtain ⟨l1,l2,l3⟩:=hD.lt
 obtain ⟨w1,w2,w3⟩:=w
 exact ⟨jQ,by rw [hU.get p (by omega) (by omega),h.gp],by rw [hU.get q (by omega) (by omega),h.gq],by rw [hU.len,h.len],fun j h1 h2 h3=>by rw [hU.get j h2 h3,h.up j h1 h2 h3]⟩
theorem CS.acX {c:Cx} {H G:List aa} {p q:Nat} {ts ps ts':List Int} (hD:Du c H) (w:PQ H p q) (h:CS c H p q ts ps G):CS c H p q ts' ps (G.set p (da ts')):=by
 obtain ⟨l1,l2,l3⟩:=hD.lt
 obtain ⟨w1,w2,w3⟩:=w
 have hp:=aO h.gp
 exact ⟨h.du.set (by omega) (by omega) (by omega),by rw [tO hp],by rw [tL w1,h.gq],by rw [abw,h.len],fun j h1 h2 h3=>by rw [tL (by omega),h.up j h1 h2 h3]⟩
theorem CS.acY {c:Cx} {H G:List aa} {p q:Nat} {ts ps ps':List Int} (hD:Du c H) (w:PQ H p q) (h:CS c H p q ts ps G):CS c H p q ts ps' (G.set q (da ps')):=by
 obtain ⟨l1,l2,l3⟩:=hD.lt
 obtain ⟨w1,w2,w3⟩:=w
 have hq:=aO h.gq
 exact ⟨h.du.set (by omega) (by omega) (by omega),by rw [tL (Ne.symm w1),h.gp],by rw [tO hq],by rw [abw,h.len],fun j h1 h2 h3=>by rw [tL (by omega),h.up j h1 h2 h3]⟩
theorem CS.fin {c:Cx} {H G:List aa} {p q:Nat} {ts ps:List Int} (hD:Du c H) (h:CS c H p q ts ps G) {b:Bool} {Q:Prop} (hb:b=true↔Q) {s:Nat}:b8 H.length [.t s] [(s,.bool b)] G (jf c Q H):=by
 obtain ⟨l1,l2,l3⟩:=hD.lt
 refine ba H.length (oN _) (by rw [aA,if_pos rfl];rfl) ?_
 rw [aA,if_pos rfl]
 refine ⟨b,rfl,hb,⟨by rw [aa3,h.len];omega,fun j h1 h2=>?_⟩,h.du.take l1 l2 l3⟩
 rw [aax]
 split
 ·rename_i hj;exact h.up j hj h1 h2
 ·rename_i hj;rw [aaS (by omega)]
def JI (c:Cx) (to:List Int) (l:List PP) (a b:List Int):Prop:=
 to.length=b.length∧l.length=b.length∧
 (∀ j,j < b.length→(0≤to.getD j 0∧to.getD j 0 < a.length)∧
   (if (l.getD j default).nil then E c.O (c.tm (a.getD (to.getD j 0).toNat 0)) (c.tm (b.getD j 0)) else Sh c.O (l.getD j default) (c.tm (a.getD (to.getD j 0).toNat 0)) (c.tm (b.getD j 0))))∧
 (∀ x:Nat,x < a.length→0 < dm to l x b.length→dy to x b.length≤1)∧∃ x:Nat,x < a.length∧dm to l x b.length=0
theorem D7 {c:Cx} {to:List Int} {l:List PP} {a b:List Int}:JI c to l a b↔R0 (E c.O) (Sh c.O) to l (a.map c.tm) (b.map c.tm):=by
 unfold JI R0
 simp only [abx]
 refine and_congr_right fun _=>and_congr_right fun _=>and_congr_left fun _=>⟨fun h j hj=>?_,fun h j hj=>?_⟩
 ·obtain ⟨h1,h2⟩:=h j hj
  refine ⟨h1,?_⟩
  rw [cr (by omega),cr hj];exact h2
 ·obtain ⟨h1,h2⟩:=h j hj
  rw [cr (by omega),cr hj] at h2
  exact ⟨h1,h2⟩
structure CI (c:Cx) (to:List Int) (l:List PP) (a b ts ps:List Int) (j:Nat):Prop where
 lt:ts.length=a.length
 lp:ps.length=a.length
 t:∀ x:Nat,x < a.length→ts.getD x 0=dy to x j
 p:∀ x:Nat,x < a.length→ps.getD x 0=dm to l x j
 ok:∀ j',j' < j→(0≤to.getD j' 0∧to.getD j' 0 < a.length)∧
  (if (l.getD j' default).nil then E c.O (c.tm (a.getD (to.getD j' 0).toNat 0)) (c.tm (b.getD j' 0)) else Sh c.O (l.getD j' default) (c.tm (a.getD (to.getD j' 0).toNat 0)) (c.tm (b.getD j' 0)))
theorem CI.step {c:Cx} {to:List Int} {l:List PP} {a b ts ps ps':List Int} {j z:Nat} (h:CI c to l a b ts ps j) (hz:z < a.length) (ht:to.getD j 0=z) (hp:ps'=if (l.getD j default).nil then ps.set z (ps.getD z 0 + 1) else ps)
 (hq:if (l.getD j default).nil then E c.O (c.tm (a.getD z 0)) (c.tm (b.getD j 0)) else Sh c.O (l.getD j default) (c.tm (a.getD z 0)) (c.tm (b.getD j 0))):CI c to l a b (ts.set z (ts.getD z 0 + 1)) ps' (j + 1):=by
 obtain ⟨h1,h2,h3,h4,h5⟩:=h
 refine ⟨by simp [h1],by rw [hp];split <;> simp [h2],fun x hx=>?_,fun x hx=>?_,fun j' vI=>?_⟩
 ·rw [l7 (by omega),dy,ht]
  by_cases e:x=z
  ·subst e;rw [if_pos rfl,if_pos rfl,h3 x hx];omega
  ·rw [if_neg e,if_neg (by omega),h3 x hx];omega
 ·rw [hp,dm,ht]
  by_cases hn:(l.getD j default).nil
  ·rw [if_pos hn,l7 (by omega)]
   by_cases e:x=z
   ·subst e;rw [if_pos rfl,if_pos ⟨rfl,hn⟩,h4 x hx];omega
   ·rw [if_neg e,if_neg (fun h=>by have:=h.1;omega),h4 x hx];omega
  ·rw [if_neg hn,if_neg (fun h=>hn h.2),h4 x hx];omega
 ·by_cases e:j'=j
  ·subst e;rw [ht];exact ⟨by omega,hq⟩
  ·exact h5 j' (by omega)
theorem tA (to:List Int) (x:Int):∀ n,dy to x n≤n
 | 0=>oN _
 | n + 1=>by rw [dy];have:=tA to x n;split <;> omega
theorem JJ (to:List Int) (l:List PP) (x:Int) (n:Nat):dm to l x n≤n:=aa1 (oH n) (tA to x n)
theorem D8 {m n:Nat} (hm:m < 9223372036854775808) (hn:n < 9223372036854775808):IntKind.i64.wrap ((m:Int) + (n:Int))=0↔m=0∧n=0:=by
 rw [IntKind.wrap_i64]
 omega
theorem Ac (n x:Nat):(dP 0 n 0).getD x 0=0:=by
 simp only [dP,List.replicate_zero,List.nil_append,aeM,oM,List.getElem?_replicate]
 split <;> rfl
end Go.aI
end
section
set_option maxRecDepth 100000
namespace Go.aI
open Go Go.Proofs Go.eJ
theorem acZ {c:Cx} {a b:List Int} {va vb:AV} (ha:IL va a) (hb:IL vb b) (la:a.length≤1000000000) (lb:b.length≤1000000000) (p:PP) (hs:∀ x∈a,∀ y∈b,kV c x y) (hh:∀ x∈a,∀ y∈b,∀ q∈p.l,jJ c x y q) {H:List aa} (hD:Du c H) :
 aw Tryz.prog 156 [.ptr c.d 0,va,vb,eC p] H (jf c (JI c p.to p.l a b) H):=by
 refine Xi.2.calls rfl ?_
 simp only [Xi,aJ]
 obtain ⟨a1,a2,a3,a4⟩:=ha.one
 obtain ⟨b1,b2,b3,b4⟩:=hb.one
 obtain ⟨p1,p2,p3,p4,p5,p6,p7,p8,p9⟩:=bf p
 have no:¬ JI c p.to p.l a b→b8 H.length [.t 8] [(8,.bool false)] H (jf c (JI c p.to p.l a b) H):=fun h=>eI rfl ⟨fun h=>by simp at h,fun h'=>absurd h' h⟩ (Up.refl c H) hD
 by_cases h1:p.to.length=b.length
 ·by_cases h2:p.l.length=b.length
  ·have d1:decide ((p.to.length:Int)≠b.length)=false:=decide_eq_false (by omega)
   have d2:decide ((p.l.length:Int)≠b.length)=false:=decide_eq_false (by omega)
   simp +contextual only [a2,b2,p1,Qq,Mq,ha.aL,hb.aL,hb.len (by omega),ay,eO,h1,h2,not_true_eq_false,decide_false,sZ,Nat.reduceEqDiff,Nat.reduceAdd,↓reduceIte,reduceCtorEq]
   intro _
   refine Gp (K1:=fun e G=>get e 0=.ptr c.d 0∧get e 1=va∧get e 2=vb∧get e 7=.ai (eC p)∧∃ x y,get e 9=.aW x 0 a.length a.length∧get e 10=.aW y 0 a.length a.length∧PQ H x y∧CS c H x y (dP 0 a.length 0) (dP 0 a.length 0) G) ?_ ?_
   ·have key:∀ G,G=H++[da (dP 0 a.length 0),da (dP 0 a.length 0)]→CS c H H.length (H.length + 1) (dP 0 a.length 0) (dP 0 a.length 0) G∧CS c H (H.length + 1) H.length (dP 0 a.length 0) (dP 0 a.length 0) G:=by
     rintro G rfl
     exact ⟨⟨hD.ta _,by simp,by simp,by simp,fun j hj _ _=>tK hj⟩,⟨hD.ta _,by simp,by simp,by simp,fun j hj _ _=>tK hj⟩⟩
    have A:=key _ rfl
    simp +contextual only [a2,ha.xo,ha.aL,mkI _ _ _ la,sZ,Nat.reduceEqDiff,Nat.reduceAdd,↓reduceIte,reduceCtorEq]
    refine ⟨⟨_,_,rfl,rfl,⟨by omega,by omega,by omega⟩,?_⟩,⟨_,_,rfl,rfl,⟨by omega,by omega,by omega⟩,?_⟩⟩
    ·exact A.1
    ·exact A.2
   ·rintro e G ⟨e0,e1,e2,e7,x,y,e9,e10,hw,yS⟩
    simp +contextual only [e0,e1,e2,e7,e9,e10,Qq,ay,h1,sZ,Nat.reduceEqDiff,↓reduceIte,reduceCtorEq]
    intro _
    refine aM b.length (fun j (s:List aa×List Int×List Int)=>CS c H x y s.2.1 s.2.2 s.1∧CI c p.to p.l a b s.2.1 s.2.2 j)
     (fun j s=>[(0,.ptr c.d 0),(1,va),(2,vb),(7,.ai (eC p)),(9,.aW x 0 a.length a.length),(10,.aW y 0 a.length a.length),(37,.ap 0 (ints p.to)),(38,.int .i64 b.length),(39,.int .i64 j)])
     (fun j s=>s.1) (G,dP 0 a.length 0,dP 0 a.length 0) ⟨⟨yS,?_⟩,aB _ _ _⟩ fun j s hj hI=>?_
    ·exact ⟨by simp [dP],by simp [dP],fun z _=>by rw [Ac];rfl,fun z _=>by rw [Ac];rfl,fun j h=>by omega⟩
    ·obtain ⟨G,ts,ps⟩:=s
     obtain ⟨yS,GV⟩:=hI
     simp only at yS GV
     by_cases Mt:(j:Int) < b.length
     ·have qO:j < b.length:=by omega
      obtain ⟨to,Cd⟩:∃ to,p.to.getD j 0=to:=⟨_,rfl⟩
      by_cases r1:to < 0
      ·simp +contextual only [Mt,decide_true,a7,tN,Cd,r1,sZ,Nat.reduceEqDiff,↓reduceIte,reduceCtorEq]
       refine ⟨by omega,yS.fin hD ⟨fun h=>by simp at h,fun h=>?_⟩⟩
       have:=(h.2.2.1 j qO).1;omega
      ·by_cases r2:(a.length:Int)≤to
       ·simp +contextual only [Mt,decide_true,decide_false,a2,ha.aL,ha.len (by omega),a7,tN,Cd,r1,r2,sZ,Nat.reduceEqDiff,↓reduceIte,reduceCtorEq]
        refine ⟨by omega,yS.fin hD ⟨fun h=>by simp at h,fun h=>?_⟩⟩
        have:=(h.2.2.1 j qO).1;omega
       ·obtain ⟨z,rfl⟩:=abu (show 0≤to by omega)
        have hz:z < a.length:=by omega
        have gt:=yS.gp
        have gp:=yS.gq
        have lt:=GV.lt
        have lp:=GV.lp
        have Zf:z < ts.length:=by omega
        have V8:z < ps.length:=by omega
        simp +contextual only [Mt,decide_true,decide_false,a2,ha.aL,ha.len (by omega),a7,tN,Cd,r1,r2,lC,gt,BE Zf,Md Zf,sZ,Nat.reduceEqDiff,↓reduceIte,reduceCtorEq]
        have JK:=yS.acX (ts':=ts.set z (IntKind.i64.wrap (ts.getD z 0 + 1))) hD hw
        have tz:=GV.t z hz
        have Ca:=tA p.to z j
        rw [cR _ (by omega)] at JK ⊢
        generalize G.set x (da (ts.set z (ts.getD z 0 + 1)))=G1 at JK ⊢
        have ql:p.l.getD j default∈p.l:=ej (by omega)
        obtain ⟨q,hq⟩:∃ q,p.l.getD j default=q:=⟨_,rfl⟩
        rw [hq] at ql
        obtain ⟨q1,q2,q3,q4,q5,q6,q7,q8,q9⟩:=bf q
        refine ⟨by omega,hz,hz,?_⟩
        simp +contextual only [Mq,BN,sf,sg,hq,tN,q1,q2,q3,D5,EJ,Qq,ay,eO,sZ,Nat.reduceEqDiff,↓reduceIte,reduceCtorEq]
        refine ⟨by omega,fun hr=>⟨fun hi l1 l2=>⟨fun Kj=>?_,fun Kj=>?_⟩,fun hi=>?_⟩,fun hr=>?_⟩
        ·have hwz:=(D8 l1 l2).1 Kj
         have uQ:(p.l.getD j default).nil:=by rw [hq];exact ⟨hr,hi,aaK.1 hwz.1,aaK.1 hwz.2⟩
         have gp1:=JK.gq
         have Qs:=JK.acY (ps':=ps.set z (IntKind.i64.wrap (ps.getD z 0 + 1))) hD hw
         have tp:=GV.p z hz
         have ple:=JJ p.to p.l z j
         simp +contextual only [lC,gp1,BE V8,Md V8,sZ,Nat.reduceEqDiff,↓reduceIte,reduceCtorEq]
         rw [cR _ (by omega)] at Qs ⊢
         generalize G1.set y (da (ps.set z (ps.getD z 0 + 1)))=G2 at Qs ⊢
         refine ⟨hz,hz,?_⟩
         simp +contextual only [a2,b2,ha.lens,hb.lens,ha.idx,hb.idx,tN,sZ,Nat.reduceEqDiff,Nat.reduceAdd,↓reduceIte,reduceCtorEq]
         refine ⟨by omega,by omega,af (hs _ (aP hz) _ (aP qO) G2 Qs.du) ?_⟩
         rintro r G3 ⟨w,rfl,Zg,hU,Mc⟩
         have Mv:=Qs.call hD hw hU Mc
         cases w with
         | false=>
           simp +contextual only [Bool.not_false,sZ,Nat.reduceEqDiff,↓reduceIte,reduceCtorEq]
           refine Mv.fin hD ⟨fun h=>by simp at h,fun h=>?_⟩
           have:=(h.2.2.1 j qO).2
           rw [if_pos uQ,Cd,tN] at this
           exact Zg.2 this
         | true=>
           simp +contextual only [Bool.not_true,sZ,Nat.reduceEqDiff,↓reduceIte,reduceCtorEq]
           refine ⟨j + 1,(G3,_,_),⟨qO,Mv,GV.step hz Cd (by rw [if_pos uQ]) (by rw [if_pos uQ];exact Zg.1 rfl)⟩,by omega,aD (by rw [au j (by omega)]) rfl⟩
        all_goals
         have uQ:¬ (p.l.getD j default).nil:=by
          rw [hq]
          rintro ⟨n1,n2,n3,n4⟩
          first | exact hr n1 | exact hi n2 | exact Kj ((D8 l1 l2).2 ⟨by rw [n3];rfl,by rw [n4];rfl⟩)
         simp +contextual only [a2,b2,q4,ha.lens,hb.lens,ha.idx,hb.idx,tN,sg,sZ,Nat.reduceEqDiff,Nat.reduceAdd,↓reduceIte,reduceCtorEq]
         refine ⟨by omega,by omega,af (hh _ (aP hz) _ (aP qO) q ql G1 JK.du) ?_⟩
         rintro r G3 ⟨w,rfl,Zg,hU,Mc⟩
         have Mv:=JK.call hD hw hU Mc
         cases w with
         | false=>
           simp +contextual only [Bool.not_false,sZ,Nat.reduceEqDiff,↓reduceIte,reduceCtorEq]
           refine Mv.fin hD ⟨fun h=>by simp at h,fun h=>?_⟩
           have:=(h.2.2.1 j qO).2
           rw [if_neg uQ,Cd,hq,tN] at this
           exact Zg.2 this
         | true=>
           simp +contextual only [Bool.not_true,sZ,Nat.reduceEqDiff,↓reduceIte,reduceCtorEq]
           refine ⟨j + 1,(G3,_,_),⟨qO,Mv,GV.step hz Cd (by rw [if_neg uQ]) (by rw [if_neg uQ,hq];exact Zg.1 rfl)⟩,by omega,aD (by rw [au j (by omega)]) rfl⟩
     ·have Zh:j=b.length:=by omega
      subst Zh
      simp +contextual only [Mt,decide_false,a2,ha.aL,ha.len (by omega),sZ,Nat.reduceEqDiff,↓reduceIte,reduceCtorEq]
      refine aM a.length (fun x' (f:Bool)=>(∀ z:Nat,z < x'→0 < dm p.to p.l z b.length→dy p.to z b.length≤1)∧(f=true↔∃ z:Nat,z < x'∧dm p.to p.l z b.length=0))
       (fun x' f=>[(9,.aW x 0 a.length a.length),(10,.aW y 0 a.length a.length),(14,.bool f),(112,.int .i64 a.length),(113,.int .i64 x')]) (fun _ _=>G) false
       ⟨⟨fun z h=>by omega,⟨fun h=>by simp at h,fun ⟨z,h,_⟩=>by omega⟩⟩,aB _ _ _⟩ fun z f hz hI=>?_
      obtain ⟨jN,EF⟩:=hI
      by_cases GR:(z:Int) < a.length
      ·have gC:z < a.length:=by omega
       have gt:=yS.gp
       have gp:=yS.gq
       have lt:=GV.lt
       have lp:=GV.lp
       have Zf:z < ts.length:=by omega
       have V8:z < ps.length:=by omega
       have tz:=GV.t z gC
       have pz:=GV.p z gC
       by_cases k1:dm p.to p.l z b.length=0
       ·have p0:ps.getD z 0=0:=by omega
        cases f <;>
         (simp +contextual only [GR,decide_true,lC,gp,BE V8,p0,Int.lt_irrefl,decide_false,sZ,Nat.reduceEqDiff,↓reduceIte,reduceCtorEq]
          refine ⟨gC,?_⟩
          first
           | refine ⟨gC,z + 1,true,⟨gC,fun z' Gb=>?_,⟨fun _=>⟨z,by omega,k1⟩,fun _=>rfl⟩⟩,by omega,aD (by rw [au z (by omega)]) rfl⟩
           | refine ⟨z + 1,true,⟨gC,fun z' Gb=>?_,⟨fun _=>⟨z,by omega,k1⟩,fun _=>rfl⟩⟩,by omega,aD (by rw [au z (by omega)]) rfl⟩
          by_cases e:z'=z
          ·subst e;intro h;omega
          ·exact jN z' (by omega))
       ·have p0:(0 < ps.getD z 0)=True:=eq_true (by omega)
        have p1':(ps.getD z 0=0)=False:=eq_false (by omega)
        by_cases k2:dy p.to z b.length≤1
        ·have t0:(1 < ts.getD z 0)=False:=eq_false (by omega)
         have nxt:(∀ z':Nat,z' < z + 1→0 < dm p.to p.l z' b.length→dy p.to z' b.length≤1):=by
          intro z' Gb
          by_cases e:z'=z
          ·subst e;intro _;exact k2
          ·exact jN z' (by omega)
         have nfr:(f=true↔∃ z':Nat,z' < z + 1∧dm p.to p.l z' b.length=0):=by
          rw [EF]
          constructor
          ·rintro ⟨z',h1,h2⟩;exact ⟨z',by omega,h2⟩
          ·rintro ⟨z',h1,h2⟩
           have:z'≠z:=fun e=>k1 (e ▸ h2)
           exact ⟨z',by omega,h2⟩
         cases f <;>
          (simp +contextual only [GR,decide_true,lC,gt,gp,BE Zf,BE V8,p0,p1',t0,decide_false,sZ,Nat.reduceEqDiff,↓reduceIte,reduceCtorEq]
           refine ⟨gC,gC,?_⟩
           first
            | exact ⟨gC,z + 1,_,⟨gC,nxt,nfr⟩,by omega,aD (by rw [au z (by omega)]) rfl⟩
            | exact ⟨z + 1,_,⟨gC,nxt,nfr⟩,by omega,aD (by rw [au z (by omega)]) rfl⟩)
        ·have t0:(1 < ts.getD z 0)=True:=eq_true (by omega)
         simp +contextual only [GR,decide_true,lC,gt,gp,BE Zf,BE V8,p0,t0,sZ,Nat.reduceEqDiff,↓reduceIte,reduceCtorEq]
         refine ⟨gC,gC,yS.fin hD ⟨fun h=>by simp at h,fun h=>?_⟩⟩
         exact absurd (h.2.2.2.1 z gC (by omega)) k2
      ·have hze:z=a.length:=by omega
       subst hze
       simp +contextual only [GR,decide_false,sZ,Nat.reduceEqDiff,↓reduceIte,reduceCtorEq]
       refine yS.fin hD ?_
       rw [EF]
       exact ⟨fun h=>⟨h1,h2,GV.ok,jN,h⟩,fun h=>h.2.2.2.2⟩
  ·have d1:decide ((p.to.length:Int)≠b.length)=false:=decide_eq_false (by omega)
   have d2:((p.l.length:Int)=b.length)=False:=eq_false (by omega)
   simp +contextual only [b2,p1,Qq,Mq,hb.aL,hb.len (by omega),ay,eO,h1,d2,not_true_eq_false,not_false_eq_true,decide_false,decide_true,sZ,Nat.reduceEqDiff,Nat.reduceAdd,↓reduceIte,reduceCtorEq]
   intro _ _
   exact no fun h=>h2 h.2.1
 ·have d1:((p.to.length:Int)=b.length)=False:=eq_false (by omega)
  simp +contextual only [b2,p1,Qq,hb.aL,hb.len (by omega),ay,d1,not_false_eq_true,decide_true,sZ,Nat.reduceEqDiff,Nat.reduceAdd,↓reduceIte,reduceCtorEq]
  intro _
  exact no fun h=>h1 h.1
end Go.aI
end
section
set_option maxRecDepth 100000
set_option maxHeartbeats 0
namespace Go.aI
open Go Go.Proofs
noncomputable def yJ:=aJ Tryz.call87 Tryz.func87 Tryz.ntmps87 [(0,0,1),(0,1,1),(0,2,1),(12,7,2000),(13,11,2000),(17,10,2000),(20,36,2000),(23,3,2000),(24,20,2000),(24,27,2000),(26,10,2000)] [(0,[2,4,5,7]),(1,[2,4,5,7,9,10]),(2,[2,4,5,7,9,10,11]),(3,[2,4,5,7,9,10,11,14]),(4,[2,4,5,7,9,10,11,76]),(5,[8]),(6,[2,4,5,7,9,10,11,15,16]),(7,[2,4,5,7,9,10,11,15,16,85]),(8,[2,4,5,7,9,10,11,15,16,85,86]),(9,[2,4,7,9,103]),(10,[8]),(11,[2,4,7,9,107]),(12,[8]),(13,[8]),(14,[2,4,5,7,9,10,11,15,16,85,128]),(15,[2,4,7,11,17]),(16,[7,11,17,20,22]),(17,[8]),(18,[4,7,9,10,11,15,16,85,156]),(19,[4,7,11,15,16,23,24]),(20,[4,7,11,23,24,202]),(21,[8]),(22,[4,7,11,23,24,207]),(23,[8]),(24,[8]),(25,[4,7,9,10,15,16,241]),(26,[8]),(27,[8])] [(1,(.take 0 true (.take 1 true (.take 2 true (.take 3 true (.take 4 true (.take 5 true (.take 6 true (.take 7 true (.take 8 true (.take 9 true (.take 10 true (.take 11 true (.take 12 true (.take 13 true (.take 14 true (.take 15 true (.br 16 (.take 17 true (.br 18 .done .nil)) .nil)))))))))))))))))),(12,(.take 0 true (.take 1 true (.take 2 true (.take 3 true (.take 4 true (.take 5 true (.take 6 true (.br 7 (.take 8 true .done) .nil))))))))),(13,(.take 0 true (.take 1 true (.take 2 true (.take 3 true (.take 4 true (.take 5 true (.take 6 true (.take 7 true (.take 8 true (.take 9 true (.take 10 true (.br 11 (.take 12 true .done) .nil))))))))))))),(19,(.take 0 true (.take 1 true (.take 2 true (.take 3 true (.take 4 true (.take 5 true (.take 6 true (.take 7 true .done))))))))),(20,(.take 0 true (.take 1 true (.take 2 true (.take 3 true (.take 4 true (.take 5 true (.take 6 true (.take 7 true (.take 8 true (.take 9 true (.take 10 true (.take 11 true (.take 12 true (.take 13 true (.take 14 true (.take 15 true (.take 16 true (.take 17 true (.take 18 true (.take 19 true (.take 20 true (.take 21 true (.take 22 true (.take 23 true (.take 24 true (.take 25 true (.take 26 true (.take 27 true (.take 28 true (.take 29 true (.take 30 true (.take 31 true (.take 32 true (.take 33 true (.take 34 true (.take 35 true (.br 36 (.take 37 true (.take 38 true .done)) .nil)))))))))))))))))))))))))))))))))))))),(24,(.take 0 true (.take 1 true (.take 2 true (.take 3 true (.take 4 true (.take 5 true (.take 6 true (.take 7 true (.take 8 true (.take 9 true (.take 10 true (.take 11 true (.take 12 true (.take 13 true (.take 14 true (.take 15 true (.take 16 true (.take 17 true (.take 18 true (.take 19 true (.br 20 (.take 21 true (.take 22 true (.take 23 true (.take 24 true (.take 25 true (.take 26 true (.br 27 (.take 28 true (.take 29 true .done)) .nil))))))) .nil))))))))))))))))))))))]
end Go.aI
end
section
set_option maxRecDepth 100000
namespace Go.aI
open Go Go.Proofs Go.eJ
theorem D9 {O:Od} {p:PP} {a b:T} (h:Sh O p a b):a.k=2:=(qE.1 h).1
theorem Sh1 {O:Od} {p:PP} {a b:T} (hr:p.r=1) (ha:a.k=2):Sh O p a b↔p.to=[]∧(0≤p.i∧p.i < a.l.length)∧((p.l=[]∧E O (a.l.getD p.i.toNat default) b)∨∃ q,p.l=[q]∧Sh O q (a.l.getD p.i.toNat default) b):=by
 rw [qE,Fs];simp [hr,ha]
theorem Sh2 {O:Od} {p:PP} {a b:T} (hr:p.r=2) (ha:a.k=2):Sh O p a b↔p.to=[]∧p.i=0∧b.k=2∧O.pl b.n < O.pl a.n∧me (Sh O) p.l a b.l:=by
 rw [qE,Fs];simp [hr,ha]
theorem Sh3 {O:Od} {p:PP} {a b:T} (hr:p.r=3) (ha:a.k=2):Sh O p a b↔p.to=[]∧b.k=2∧O.pl a.n=O.pl b.n∧O.sp (O.pl a.n)≠3∧D3 (E O) (Sh O) p.i p.l a (side (O.sp (O.pl a.n)) a.l) (side (O.sp (O.pl a.n)) b.l) b.l:=by
 rw [qE,Fs];simp [hr,ha]
theorem Sh4 {O:Od} {p:PP} {a b:T} (hr:p.r=4) (ha:a.k=2):Sh O p a b↔p.i=0∧b.k=2∧O.pl a.n=O.pl b.n∧O.sp (O.pl a.n)=3∧R0 (E O) (Sh O) p.to p.l a.l b.l:=by
 rw [qE,Fs];simp [hr,ha]
theorem Sh0 {O:Od} {p:PP} {a b:T} (h1:p.r≠1) (h2:p.r≠2) (h3:p.r≠3) (h4:p.r≠4):¬ Sh O p a b:=by
 rw [qE,Fs];simp [h1,h2,h3,h4]
theorem slT (l:List Int) (n:Int) (h:0≤n∧n≤l.length) (φ:AV→Prop):bA 1 (.ap 0 (ints l)) none (some (.int .i64 n)) none φ=φ (.ap 0 (ints (l.take n.toNat))):=by
 have er:dn (AV.ap 0 (ints l))=some (ints l):=rfl
 have e2:((ints l).take n.toNat).drop 0=ints (l.take n.toNat):=by rw [List.drop_zero,l8]
 simp only [bA,fm,er,dR,e2,eq_iff_iff]
 constructor
 ·intro h;exact h.2.2.2.2
 ·intro h'
  refine ⟨fun own xs he z hz=>?_,by omega,by omega,by have:=ay l;omega,h'⟩
  cases he
  obtain ⟨y,_,rfl⟩:=aaq.1 hz
  rfl
theorem Zi (x:PP) (r:List PP) (φ:AV→Prop):bA 4 (.ap 0 (eo (x::r))) (some (.int .i64 1)) none none φ=φ (.ap 0 (eo r)):=by
 have er:dn (AV.ap 0 (eo (x::r)))=some (eo (x::r)):=rfl
 have e1:(1:Int).toNat=1:=rfl
 have e2:((eo (x::r)).take (eo (x::r)).length).drop 1=eo r:=by rw [aaC];rfl
 simp only [bA,fm,er,dR,e1,e2,eq_iff_iff]
 constructor
 ·intro h;exact h.2.2.2.2
 ·intro h
  refine ⟨fun own xs he z hz=>of_eq_true (sf 0 (x::r)) own xs he z hz,by omega,by simp [eO],oN _,h⟩
theorem pq {s:Int} {l:List Int} {x:Int}:x∈bp s l↔x∈l:=by unfold bp;split <;> simp
theorem Zj {c:Cx} (hc:c.Ok) {p:PP} {i k:Int} (hi:c.dS i) (hk:c.dS k) (gr:∀ q∈p.l,∀ x y,c.dS x→c.dS y→jJ c x y q) (AL:p.r=1):jJ c i k p:=by
 intro H hD
 refine yJ.2.calls rfl ?_
 simp only [yJ,aJ]
 obtain ⟨p1,p2,p3,p4,p5,p6,p7,p8,p9⟩:=bf p
 have k2:∀ l,(bt l).ab=bt l:=fun l=>(aG l).2.1
 have ki:=hc.kids i hi
 have kk:=hc.kids k hk
 have l1:=hc.kl i hi
 have l2:=hc.kl k hk
 obtain ⟨a1,a2,a3,a4,a5⟩:=aG (c.kd i)
 obtain ⟨b1,b2,b3,b4,b5⟩:=aG (c.kd k)
 have ii:IL (bt (c.kd i)) (c.kd i):=.inl rfl
 have ik:IL (bt (c.kd k)) (c.kd k):=.inl rfl
 have ei:(c.nd.getD i.toNat default).snd=c.kd i:=rfl
 have ek:(c.nd.getD k.toNat default).snd=c.kd k:=rfl
 obtain ⟨m1,m2,m3⟩:=hD.lt
 have nJ:Du c (H++[.cells [bt (c.kd k)]]):=hD.ta _
 have fin:∀ G (b:Bool),Up c (H++[.cells [bt (c.kd k)]]) G→Du c G→(b=true↔Sh c.O p (c.tm i) (c.tm k))→b8 H.length [.t 8] [(8,.bool b)] G (jf c (Sh c.O p (c.tm i) (c.tm k)) H):=by
  intro G b u d hb
  refine ba H.length (oN _) (by rw [aA,if_pos rfl];rfl) ?_
  rw [aA,if_pos rfl]
  exact ⟨b,rfl,hb,u.take,d.take m1 m2 m3⟩
 have fin0:¬ Sh c.O p (c.tm i) (c.tm k)→b8 H.length [.t 8] [(8,.bool false)] (H++[.cells [bt (c.kd k)]]) (jf c (Sh c.O p (c.tm i) (c.tm k)) H):=
  fun h=>fin _ _ (Up.refl c _) nJ ⟨fun h=>by simp at h,fun h'=>absurd h' h⟩
 have spv:∀ x:AV,ah [AV.ag] 0 [x]=[x]:=fun x=>rfl
 simp +contextual only [p1,hD.d,nc,EI,cJ,b7,k2,ei,ek,b1,b3,b4,b5,List.map_cons,List.map_nil,spv,List.all_cons,List.all_nil,abv,bM,cZ,sZ,Nat.reduceEqDiff,Nat.reduceAdd,Nat.reduceLT,↓reduceIte,reduceCtorEq]
 refine ⟨hi,hk,af (qz hc hi nJ) ?_⟩
 rintro r H2 ⟨rfl,rfl⟩
 cases hb:sr c i with
 | false=>
   have ki2:¬ (c.tm i).k=2:=of_decide_eq_false hb
   simp +contextual only [dF,fN,fO,fP,hb,Bool.not_false,sZ,Nat.reduceEqDiff,↓reduceIte,reduceCtorEq]
   exact fin0 fun h=>ki2 (D9 h)
 | true=>
 have ki2:(c.tm i).k=2:=of_decide_eq_true hb
 have Vj:∀ (j:Int),(0≤j∧j < (c.kd i).length)→(c.tm i).l.getD j.toNat default=c.tm ((c.kd i).getD j.toNat 0):=fun j hj=>by rw [← ki.1,cr (by omega)]
 have klen:(c.tm i).l.length=(c.kd i).length:=by rw [← ki.1];simp
 have kn:∀ (j:Int),(0≤j∧j < (c.kd i).length)→c.dS ((c.kd i).getD j.toNat 0):=fun j hj=>ki.2 _ (aP (by omega))
 have lvun:(AV.tuple [.int .i64 (dE c i),.bool (uZ c i k)]).ab=.tuple [.int .i64 (dE c i),.bool (uZ c i k)]:=rfl
 have hS:=Sh1 (O:=c.O) (b:=c.tm k) AL ki2
 rw [klen] at hS
 simp +contextual only [dF,fN,fO,fP,hb,Bool.not_true,D5,Qq,AL,not_true_eq_false,not_false_eq_true,decide_true,decide_false,ay,sZ,Nat.reduceEqDiff,Nat.reduceAdd,↓reduceIte,reduceCtorEq,Int.reduceEq]
 refine fun _=>⟨fun h0=>?_,fun h0=>fin0 fun h=>?_⟩
 ·have Cd:p.to=[]:=aaK.1 (by omega)
  refine af (Ga hc hi hk nJ) ?_
  rintro r H2 ⟨rfl,rfl⟩
  by_cases hI:0≤p.i∧p.i < (c.kd i).length
  ·have n1:(p.i < 0)=False:=eq_false (by omega)
   have n2:(((c.kd i).length:Int)≤p.i)=False:=eq_false (by omega)
   have hkn:=kn p.i hI
   rw [Vj p.i hI] at hS
   by_cases hL:p.l.length≤1
   ·have n3:(1 < (p.l.length:Int))=False:=eq_false (by omega)
    by_cases hL0:p.l.length=0
    ·have n4:((p.l.length:Int)=0)=True:=eq_true (by omega)
     simp +contextual only [k2,ii.aL,ii.len (by omega),ii.lens,ii.idx,D5,EJ,Mq,eO,lvun,decide_true,decide_false,AL,n1,n2,n3,n4,sZ,Nat.reduceEqDiff,Nat.reduceAdd,Nat.reduceLT,↓reduceIte,reduceCtorEq]
     refine fun _=>⟨hI,af (kD hc hkn hk _ nJ) ?_⟩
     rintro r G ⟨x,rfl,hx,hU,jQ⟩
     simp +contextual only [sZ,↓reduceIte,reduceCtorEq]
     refine fin G x hU jQ ?_
     rw [hx,hS]
     have:p.l=[]:=aaK.1 hL0
     simp [Cd,hI,this]
    ·have n4:((p.l.length:Int)=0)=False:=eq_false (by omega)
     have hm:p.l.getD 0 default∈p.l:=ej (by omega)
     obtain ⟨q1,q2,q3,q4,q5,q6,q7,q8,q9⟩:=bf (p.l.getD 0 default)
     have t0:(0:Int).toNat=0:=rfl
     simp +contextual only [k2,ii.aL,ii.len (by omega),ii.lens,ii.idx,D5,EJ,Mq,BN,sf,sg,eO,lvun,decide_true,decide_false,AL,n1,n2,n3,n4,t0,q4,sZ,Nat.reduceEqDiff,Nat.reduceAdd,Nat.reduceLT,↓reduceIte,reduceCtorEq]
     refine fun _=>⟨hI,⟨by omega,by omega⟩,af (gr _ hm _ _ hkn hk _ nJ) ?_⟩
     rintro r G ⟨x,rfl,hx,hU,jQ⟩
     simp +contextual only [sZ,↓reduceIte,reduceCtorEq]
     refine fin G x hU jQ ?_
     rw [hx,hS]
     obtain ⟨q,hq⟩:∃ q,p.l=[q]:=List.length_eq_one_iff.1 (by omega)
     simp [Cd,hI,hq]
   ·have n3:(1 < (p.l.length:Int))=True:=eq_true (by omega)
    simp +contextual only [k2,ii.aL,ii.len (by omega),D5,EJ,Mq,eO,lvun,decide_true,decide_false,AL,n1,n2,n3,sZ,Nat.reduceEqDiff,Nat.reduceAdd,Nat.reduceLT,↓reduceIte,reduceCtorEq]
    refine fun _=>fin0 fun h=>?_
    rcases (hS.1 h).2.2 with h | ⟨q,h,_⟩
    ·rw [h.1] at hL;simp at hL
    ·rw [h] at hL;simp at hL
  ·by_cases hI0:p.i < 0
   ·simp +contextual only [D5,EJ,lvun,decide_true,AL,hI0,sZ,Nat.reduceEqDiff,Nat.reduceAdd,Nat.reduceLT,↓reduceIte,reduceCtorEq]
    exact fin0 fun h=>hI (hS.1 h).2.1
   ·have n2:(((c.kd i).length:Int)≤p.i)=True:=eq_true (by omega)
    simp +contextual only [k2,ii.aL,ii.len (by omega),D5,EJ,lvun,decide_true,decide_false,AL,hI0,n2,sZ,Nat.reduceEqDiff,Nat.reduceAdd,Nat.reduceLT,↓reduceIte,reduceCtorEq]
    exact fin0 fun h=>hI (hS.1 h).2.1
 ·rw [(hS.1 h).1] at h0;simp at h0
theorem Zk {c:Cx} (hc:c.Ok) {p:PP} {i k:Int} (hi:c.dS i) (hk:c.dS k) (gr:∀ q∈p.l,∀ x y,c.dS x→c.dS y→jJ c x y q) (sE:p.r=2):jJ c i k p:=by
 intro H hD
 refine yJ.2.calls rfl ?_
 simp only [yJ,aJ]
 obtain ⟨p1,p2,p3,p4,p5,p6,p7,p8,p9⟩:=bf p
 have k2:∀ l,(bt l).ab=bt l:=fun l=>(aG l).2.1
 have ki:=hc.kids i hi
 have kk:=hc.kids k hk
 have l1:=hc.kl i hi
 have l2:=hc.kl k hk
 obtain ⟨a1,a2,a3,a4,a5⟩:=aG (c.kd i)
 obtain ⟨b1,b2,b3,b4,b5⟩:=aG (c.kd k)
 have ii:IL (bt (c.kd i)) (c.kd i):=.inl rfl
 have ik:IL (bt (c.kd k)) (c.kd k):=.inl rfl
 have ei:(c.nd.getD i.toNat default).snd=c.kd i:=rfl
 have ek:(c.nd.getD k.toNat default).snd=c.kd k:=rfl
 obtain ⟨m1,m2,m3⟩:=hD.lt
 have nJ:Du c (H++[.cells [bt (c.kd k)]]):=hD.ta _
 have fin:∀ G (b:Bool),Up c (H++[.cells [bt (c.kd k)]]) G→Du c G→(b=true↔Sh c.O p (c.tm i) (c.tm k))→b8 H.length [.t 8] [(8,.bool b)] G (jf c (Sh c.O p (c.tm i) (c.tm k)) H):=by
  intro G b u d hb
  refine ba H.length (oN _) (by rw [aA,if_pos rfl];rfl) ?_
  rw [aA,if_pos rfl]
  exact ⟨b,rfl,hb,u.take,d.take m1 m2 m3⟩
 have fin0:¬ Sh c.O p (c.tm i) (c.tm k)→b8 H.length [.t 8] [(8,.bool false)] (H++[.cells [bt (c.kd k)]]) (jf c (Sh c.O p (c.tm i) (c.tm k)) H):=
  fun h=>fin _ _ (Up.refl c _) nJ ⟨fun h=>by simp at h,fun h'=>absurd h' h⟩
 have spv:∀ x:AV,ah [AV.ag] 0 [x]=[x]:=fun x=>rfl
 simp +contextual only [p1,hD.d,nc,EI,cJ,b7,k2,ei,ek,b1,b3,b4,b5,List.map_cons,List.map_nil,spv,List.all_cons,List.all_nil,abv,bM,cZ,sZ,Nat.reduceEqDiff,Nat.reduceAdd,Nat.reduceLT,↓reduceIte,reduceCtorEq]
 refine ⟨hi,hk,af (qz hc hi nJ) ?_⟩
 rintro r H2 ⟨rfl,rfl⟩
 cases hb:sr c i with
 | false=>
   have ki2:¬ (c.tm i).k=2:=of_decide_eq_false hb
   simp +contextual only [dF,fN,fO,fP,hb,Bool.not_false,sZ,Nat.reduceEqDiff,↓reduceIte,reduceCtorEq]
   exact fin0 fun h=>ki2 (D9 h)
 | true=>
 have ki2:(c.tm i).k=2:=of_decide_eq_true hb
 have Vj:∀ (j:Int),(0≤j∧j < (c.kd i).length)→(c.tm i).l.getD j.toNat default=c.tm ((c.kd i).getD j.toNat 0):=fun j hj=>by rw [← ki.1,cr (by omega)]
 have klen:(c.tm i).l.length=(c.kd i).length:=by rw [← ki.1];simp
 have kn:∀ (j:Int),(0≤j∧j < (c.kd i).length)→c.dS ((c.kd i).getD j.toNat 0):=fun j hj=>ki.2 _ (aP (by omega))
 have lvun:(AV.tuple [.int .i64 (dE c i),.bool (uZ c i k)]).ab=.tuple [.int .i64 (dE c i),.bool (uZ c i k)]:=rfl
 have hS:=Sh2 (O:=c.O) (b:=c.tm k) sE ki2
 have e1:((2:Int)=1)=False:=by simp
 simp +contextual only [dF,fN,fO,fP,hb,Bool.not_true,D5,EJ,Qq,sE,not_true_eq_false,not_false_eq_true,decide_true,decide_false,ay,sZ,Nat.reduceEqDiff,Nat.reduceAdd,↓reduceIte,reduceCtorEq,Int.reduceEq]
 have fAll:∀ (G:List aa) (Q:Prop) (b0:Bool),True:=fun _ _ _=>trivial
 have hAS:me (Sh c.O) p.l (c.tm i) ((c.kd k).map c.tm)↔me (Sh c.O) p.l (c.tm i) (c.tm k).l:=by rw [kk.1]
 refine fun _=>⟨fun h0=>⟨fun vq=>fin0 fun h=>vq (hS.1 h).2.1,fun vq=>?_⟩,fun h0=>fin0 fun h=>?_⟩
 ·have Cd:p.to=[]:=aaK.1 (by omega)
  refine af (Ga hc hi hk nJ) ?_
  rintro r H2 ⟨rfl,rfl⟩
  simp +contextual only [D5,lvun,decide_true,decide_false,sE,e1,sZ,Nat.reduceEqDiff,Nat.reduceAdd,Nat.reduceLT,↓reduceIte]
  refine af (qz hc hi nJ) ?_
  rintro r H2 ⟨rfl,rfl⟩
  simp +contextual only [dF,fN,fO,fP,sZ,Nat.reduceEqDiff,Nat.reduceAdd,↓reduceIte]
  refine af (qz hc hk nJ) ?_
  rintro r H2 ⟨rfl,rfl⟩
  have opi:qy c i=c.O.pl (c.tm i).n:=by rw [qy,if_pos ki2]
  cases Ge:sr c k with
  | false=>
    have kk2:¬ (c.tm k).k=2:=of_decide_eq_false Ge
    simp +contextual only [dF,fN,fO,fP,Ge,sZ,Nat.reduceEqDiff,↓reduceIte,reduceCtorEq]
    exact fin0 fun h=>kk2 (hS.1 h).2.2.1
  | true=>
    have kk2:(c.tm k).k=2:=of_decide_eq_true Ge
    have opk:qy c k=c.O.pl (c.tm k).n:=by rw [qy,if_pos kk2]
    by_cases aX:qy c k < qy c i
    ·simp +contextual only [Mq,decide_true,dF,fN,fO,fP,Ge,aX,sZ,Nat.reduceEqDiff,Nat.reduceAdd,↓reduceIte,reduceCtorEq]
     refine af (Vi ik (by omega) (q:=H.length) ⟨by omega,by omega⟩ (fun j h1 h2=>gr _ (ej h2) _ _ hi (kk.2 _ (aP h1))) nJ (by simp)) ?_
     rintro r G ⟨x,rfl,hx,hU,jQ⟩
     simp +contextual only [sZ,Nat.reduceEqDiff,↓reduceIte,reduceCtorEq]
     refine fin G x hU jQ ?_
     rw [hx,hS,hAS]
     rw [opi,opk] at aX
     simp [Cd,vq,kk2,aX]
    ·simp +contextual only [decide_false,dF,fN,fO,fP,Ge,aX,sZ,Nat.reduceEqDiff,↓reduceIte,reduceCtorEq]
     refine fin0 fun h=>aX ?_
     rw [opi,opk]
     exact (hS.1 h).2.2.2.1
 ·rw [(hS.1 h).1] at h0;simp at h0
theorem Zl {c:Cx} (hc:c.Ok) {p:PP} {i k:Int} (hi:c.dS i) (hk:c.dS k) (gr:∀ q∈p.l,∀ x y,c.dS x→c.dS y→jJ c x y q) (Qt:p.r=4):jJ c i k p:=by
 intro H hD
 refine yJ.2.calls rfl ?_
 simp only [yJ,aJ]
 obtain ⟨p1,p2,p3,p4,p5,p6,p7,p8,p9⟩:=bf p
 have k2:∀ l,(bt l).ab=bt l:=fun l=>(aG l).2.1
 have ki:=hc.kids i hi
 have kk:=hc.kids k hk
 have l1:=hc.kl i hi
 have l2:=hc.kl k hk
 obtain ⟨a1,a2,a3,a4,a5⟩:=aG (c.kd i)
 obtain ⟨b1,b2,b3,b4,b5⟩:=aG (c.kd k)
 have ii:IL (bt (c.kd i)) (c.kd i):=.inl rfl
 have ik:IL (bt (c.kd k)) (c.kd k):=.inl rfl
 have ei:(c.nd.getD i.toNat default).snd=c.kd i:=rfl
 have ek:(c.nd.getD k.toNat default).snd=c.kd k:=rfl
 obtain ⟨m1,m2,m3⟩:=hD.lt
 have nJ:Du c (H++[.cells [bt (c.kd k)]]):=hD.ta _
 have fin:∀ G (b:Bool),Up c (H++[.cells [bt (c.kd k)]]) G→Du c G→(b=true↔Sh c.O p (c.tm i) (c.tm k))→b8 H.length [.t 8] [(8,.bool b)] G (jf c (Sh c.O p (c.tm i) (c.tm k)) H):=by
  intro G b u d hb
  refine ba H.length (oN _) (by rw [aA,if_pos rfl];rfl) ?_
  rw [aA,if_pos rfl]
  exact ⟨b,rfl,hb,u.take,d.take m1 m2 m3⟩
 have fin0:¬ Sh c.O p (c.tm i) (c.tm k)→b8 H.length [.t 8] [(8,.bool false)] (H++[.cells [bt (c.kd k)]]) (jf c (Sh c.O p (c.tm i) (c.tm k)) H):=
  fun h=>fin _ _ (Up.refl c _) nJ ⟨fun h=>by simp at h,fun h'=>absurd h' h⟩
 have spv:∀ x:AV,ah [AV.ag] 0 [x]=[x]:=fun x=>rfl
 simp +contextual only [p1,hD.d,nc,EI,cJ,b7,k2,ei,ek,b1,b3,b4,b5,List.map_cons,List.map_nil,spv,List.all_cons,List.all_nil,abv,bM,cZ,sZ,Nat.reduceEqDiff,Nat.reduceAdd,Nat.reduceLT,↓reduceIte,reduceCtorEq]
 refine ⟨hi,hk,af (qz hc hi nJ) ?_⟩
 rintro r H2 ⟨rfl,rfl⟩
 cases hb:sr c i with
 | false=>
   have ki2:¬ (c.tm i).k=2:=of_decide_eq_false hb
   simp +contextual only [dF,fN,fO,fP,hb,Bool.not_false,sZ,Nat.reduceEqDiff,↓reduceIte,reduceCtorEq]
   exact fin0 fun h=>ki2 (D9 h)
 | true=>
 have ki2:(c.tm i).k=2:=of_decide_eq_true hb
 have Vj:∀ (j:Int),(0≤j∧j < (c.kd i).length)→(c.tm i).l.getD j.toNat default=c.tm ((c.kd i).getD j.toNat 0):=fun j hj=>by rw [← ki.1,cr (by omega)]
 have klen:(c.tm i).l.length=(c.kd i).length:=by rw [← ki.1];simp
 have kn:∀ (j:Int),(0≤j∧j < (c.kd i).length)→c.dS ((c.kd i).getD j.toNat 0):=fun j hj=>ki.2 _ (aP (by omega))
 have lvun:(AV.tuple [.int .i64 (dE c i),.bool (uZ c i k)]).ab=.tuple [.int .i64 (dE c i),.bool (uZ c i k)]:=rfl
 have hS:=Sh4 (O:=c.O) (b:=c.tm k) Qt ki2
 have e1:((4:Int)=1)=False:=by simp
 simp +contextual only [dF,fN,fO,fP,hb,Bool.not_true,D5,EJ,Qt,not_true_eq_false,not_false_eq_true,decide_true,decide_false,sZ,Nat.reduceEqDiff,Nat.reduceAdd,↓reduceIte,reduceCtorEq,Int.reduceEq]
 refine ⟨fun vq=>fin0 fun h=>vq (hS.1 h).1,fun vq=>?_⟩
 refine af (Ga hc hi hk nJ) ?_
 rintro r H2 ⟨rfl,rfl⟩
 have opi:qy c i=c.O.pl (c.tm i).n:=by rw [qy,if_pos ki2]
 have osi:dE c i=c.O.sp (c.O.pl (c.tm i).n):=by rw [dE,if_pos ki2]
 cases hl:uZ c i k with
 | false=>
   simp +contextual only [D5,decide_true,decide_false,Qt,e1,sZ,Nat.reduceEqDiff,Nat.reduceAdd,Nat.reduceLT,↓reduceIte,reduceCtorEq,Int.reduceEq]
   exact fin0 fun h=>by
    have:=hS.1 h
    rw [kW.2 ⟨ki2,this.2.1,this.2.2.1⟩] at hl
    cases hl
 | true=>
   have Mw:=kW.1 hl
   by_cases BQ:dE c i=3
   ·simp +contextual only [p4,k2,D5,sg,decide_true,decide_false,Qt,e1,BQ,sZ,Nat.reduceEqDiff,Nat.reduceAdd,Nat.reduceLT,↓reduceIte,reduceCtorEq,Int.reduceEq]
    refine af (acZ ii ik (by omega) (by omega) p (fun x hx y hy=>kD hc (ki.2 x hx) (kk.2 y hy)) (fun x hx y hy q hq=>gr q hq _ _ (ki.2 x hx) (kk.2 y hy)) nJ) ?_
    rintro r G ⟨x,rfl,hx,hU,jQ⟩
    simp +contextual only [sZ,Nat.reduceEqDiff,↓reduceIte,reduceCtorEq]
    refine fin G x hU jQ ?_
    rw [hx,hS,D7,ki.1,kk.1]
    rw [osi] at BQ
    exact ⟨fun h=>⟨vq,Mw.2.1,Mw.2.2,BQ,h⟩,fun h=>h.2.2.2.2⟩
   ·have JL:(dE c i=3)=False:=eq_false BQ
    simp +contextual only [D5,decide_true,decide_false,Qt,e1,JL,sZ,Nat.reduceEqDiff,Nat.reduceAdd,Nat.reduceLT,↓reduceIte,reduceCtorEq,Int.reduceEq]
    refine fin0 fun h=>BQ ?_
    rw [osi];exact (hS.1 h).2.2.2.1
theorem Zm {c:Cx} (hc:c.Ok) {p:PP} {i k:Int} (hi:c.dS i) (hk:c.dS k) (gr:∀ q∈p.l,∀ x y,c.dS x→c.dS y→jJ c x y q) (AL:p.r≠1) (sE:p.r≠2) (Nv:p.r≠3) (Qt:p.r≠4):jJ c i k p:=by
 intro H hD
 refine yJ.2.calls rfl ?_
 simp only [yJ,aJ]
 obtain ⟨p1,p2,p3,p4,p5,p6,p7,p8,p9⟩:=bf p
 have k2:∀ l,(bt l).ab=bt l:=fun l=>(aG l).2.1
 have ki:=hc.kids i hi
 have kk:=hc.kids k hk
 have l1:=hc.kl i hi
 have l2:=hc.kl k hk
 obtain ⟨a1,a2,a3,a4,a5⟩:=aG (c.kd i)
 obtain ⟨b1,b2,b3,b4,b5⟩:=aG (c.kd k)
 have ii:IL (bt (c.kd i)) (c.kd i):=.inl rfl
 have ik:IL (bt (c.kd k)) (c.kd k):=.inl rfl
 have ei:(c.nd.getD i.toNat default).snd=c.kd i:=rfl
 have ek:(c.nd.getD k.toNat default).snd=c.kd k:=rfl
 obtain ⟨m1,m2,m3⟩:=hD.lt
 have nJ:Du c (H++[.cells [bt (c.kd k)]]):=hD.ta _
 have fin:∀ G (b:Bool),Up c (H++[.cells [bt (c.kd k)]]) G→Du c G→(b=true↔Sh c.O p (c.tm i) (c.tm k))→b8 H.length [.t 8] [(8,.bool b)] G (jf c (Sh c.O p (c.tm i) (c.tm k)) H):=by
  intro G b u d hb
  refine ba H.length (oN _) (by rw [aA,if_pos rfl];rfl) ?_
  rw [aA,if_pos rfl]
  exact ⟨b,rfl,hb,u.take,d.take m1 m2 m3⟩
 have fin0:¬ Sh c.O p (c.tm i) (c.tm k)→b8 H.length [.t 8] [(8,.bool false)] (H++[.cells [bt (c.kd k)]]) (jf c (Sh c.O p (c.tm i) (c.tm k)) H):=
  fun h=>fin _ _ (Up.refl c _) nJ ⟨fun h=>by simp at h,fun h'=>absurd h' h⟩
 have spv:∀ x:AV,ah [AV.ag] 0 [x]=[x]:=fun x=>rfl
 simp +contextual only [p1,hD.d,nc,EI,cJ,b7,k2,ei,ek,b1,b3,b4,b5,List.map_cons,List.map_nil,spv,List.all_cons,List.all_nil,abv,bM,cZ,sZ,Nat.reduceEqDiff,Nat.reduceAdd,Nat.reduceLT,↓reduceIte,reduceCtorEq]
 refine ⟨hi,hk,af (qz hc hi nJ) ?_⟩
 rintro r H2 ⟨rfl,rfl⟩
 cases hb:sr c i with
 | false=>
   have ki2:¬ (c.tm i).k=2:=of_decide_eq_false hb
   simp +contextual only [dF,fN,fO,fP,hb,Bool.not_false,sZ,Nat.reduceEqDiff,↓reduceIte,reduceCtorEq]
   exact fin0 fun h=>ki2 (D9 h)
 | true=>
 have ki2:(c.tm i).k=2:=of_decide_eq_true hb
 have Vj:∀ (j:Int),(0≤j∧j < (c.kd i).length)→(c.tm i).l.getD j.toNat default=c.tm ((c.kd i).getD j.toNat 0):=fun j hj=>by rw [← ki.1,cr (by omega)]
 have klen:(c.tm i).l.length=(c.kd i).length:=by rw [← ki.1];simp
 have kn:∀ (j:Int),(0≤j∧j < (c.kd i).length)→c.dS ((c.kd i).getD j.toNat 0):=fun j hj=>ki.2 _ (aP (by omega))
 have lvun:(AV.tuple [.int .i64 (dE c i),.bool (uZ c i k)]).ab=.tuple [.int .i64 (dE c i),.bool (uZ c i k)]:=rfl
 have hS:=Sh0 (O:=c.O) (a:=c.tm i) (b:=c.tm k) AL sE Nv Qt
 simp +contextual only [dF,fN,fO,fP,hb,Bool.not_true,D5,EJ,Qq,AL,Nv,Qt,not_true_eq_false,not_false_eq_true,decide_true,decide_false,ay,sZ,Nat.reduceEqDiff,Nat.reduceAdd,↓reduceIte,reduceCtorEq]
 refine fun _=>⟨fun h0=>⟨fun vq=>fin0 hS,fun vq=>?_⟩,fun h0=>fin0 hS⟩
 refine af (Ga hc hi hk nJ) ?_
 rintro r H2 ⟨rfl,rfl⟩
 simp +contextual only [D5,lvun,decide_false,AL,sE,Nv,Qt,sZ,Nat.reduceEqDiff,Nat.reduceAdd,Nat.reduceLT,↓reduceIte,reduceCtorEq]
 exact fin0 hS
end Go.aI
end
section
set_option maxRecDepth 100000
namespace Go.aI
open Go Go.Proofs Go.eJ
theorem Zn {O:Od} {f:Int→T} {at':Int} {l:List PP} {a:T} {x y kd:List Int} {bl:List T} (hb:kd.map f=bl):D3 (E O) (Sh O) at' l a (x.map f) (y.map f) bl ↔
 (0≤at'∧at' < x.length∧at'≤y.length)∧(∀ j,j < at'.toNat→E O (f (x.getD j 0)) (f (y.getD j 0)))∧
 (if at'=y.length then me (Sh O) l a (kd.map f) else ∃ q r,l=q::r∧Sh O q (f (x.getD at'.toNat 0)) (f (y.getD at'.toNat 0))∧me (Sh O) r a (kd.map f)):=by
 unfold D3
 rw [hb]
 simp only [abx]
 refine and_congr_right fun h=>?_
 have e:∀ j,j < at'.toNat→((x.map f).getD j default=f (x.getD j 0)∧(y.map f).getD j default=f (y.getD j 0)):=fun j hj=>⟨cr (by omega),cr (by omega)⟩
 refine and_congr ⟨fun k j hj=>?_,fun k j hj=>?_⟩ ?_
 ·have:=k j hj;rwa [(e j hj).1,(e j hj).2] at this
 ·rw [(e j hj).1,(e j hj).2];exact k j hj
 ·split
  ·exact Iff.rfl
  ·rw [cr (by omega),cr (by omega)]
theorem Zo {c:Cx} (hc:c.Ok) {p:PP} {i k:Int} (hi:c.dS i) (hk:c.dS k) (gr:∀ q∈p.l,∀ x y,c.dS x→c.dS y→jJ c x y q) (Nv:p.r=3):jJ c i k p:=by
 intro H hD
 refine yJ.2.calls rfl ?_
 simp only [yJ,aJ]
 obtain ⟨p1,p2,p3,p4,p5,p6,p7,p8,p9⟩:=bf p
 have k2:∀ l,(bt l).ab=bt l:=fun l=>(aG l).2.1
 have ki:=hc.kids i hi
 have kk:=hc.kids k hk
 have l1:=hc.kl i hi
 have l2:=hc.kl k hk
 obtain ⟨a1,a2,a3,a4,a5⟩:=aG (c.kd i)
 obtain ⟨b1,b2,b3,b4,b5⟩:=aG (c.kd k)
 have ii:IL (bt (c.kd i)) (c.kd i):=.inl rfl
 have ik:IL (bt (c.kd k)) (c.kd k):=.inl rfl
 have ei:(c.nd.getD i.toNat default).snd=c.kd i:=rfl
 have ek:(c.nd.getD k.toNat default).snd=c.kd k:=rfl
 obtain ⟨m1,m2,m3⟩:=hD.lt
 have nJ:Du c (H++[.cells [bt (c.kd k)]]):=hD.ta _
 have fin:∀ G (b:Bool),Up c (H++[.cells [bt (c.kd k)]]) G→Du c G→(b=true↔Sh c.O p (c.tm i) (c.tm k))→b8 H.length [.t 8] [(8,.bool b)] G (jf c (Sh c.O p (c.tm i) (c.tm k)) H):=by
  intro G b u d hb
  refine ba H.length (oN _) (by rw [aA,if_pos rfl];rfl) ?_
  rw [aA,if_pos rfl]
  exact ⟨b,rfl,hb,u.take,d.take m1 m2 m3⟩
 have fin0:¬ Sh c.O p (c.tm i) (c.tm k)→b8 H.length [.t 8] [(8,.bool false)] (H++[.cells [bt (c.kd k)]]) (jf c (Sh c.O p (c.tm i) (c.tm k)) H):=
  fun h=>fin _ _ (Up.refl c _) nJ ⟨fun h=>by simp at h,fun h'=>absurd h' h⟩
 have spv:∀ x:AV,ah [AV.ag] 0 [x]=[x]:=fun x=>rfl
 simp +contextual only [p1,hD.d,nc,EI,cJ,b7,k2,ei,ek,b1,b3,b4,b5,List.map_cons,List.map_nil,spv,List.all_cons,List.all_nil,abv,bM,cZ,sZ,Nat.reduceEqDiff,Nat.reduceAdd,Nat.reduceLT,↓reduceIte,reduceCtorEq]
 refine ⟨hi,hk,af (qz hc hi nJ) ?_⟩
 rintro r H2 ⟨rfl,rfl⟩
 cases hb:sr c i with
 | false=>
   have ki2:¬ (c.tm i).k=2:=of_decide_eq_false hb
   simp +contextual only [dF,fN,fO,fP,hb,Bool.not_false,sZ,Nat.reduceEqDiff,↓reduceIte,reduceCtorEq]
   exact fin0 fun h=>ki2 (D9 h)
 | true=>
 have ki2:(c.tm i).k=2:=of_decide_eq_true hb
 have Vj:∀ (j:Int),(0≤j∧j < (c.kd i).length)→(c.tm i).l.getD j.toNat default=c.tm ((c.kd i).getD j.toNat 0):=fun j hj=>by rw [← ki.1,cr (by omega)]
 have klen:(c.tm i).l.length=(c.kd i).length:=by rw [← ki.1];simp
 have kn:∀ (j:Int),(0≤j∧j < (c.kd i).length)→c.dS ((c.kd i).getD j.toNat 0):=fun j hj=>ki.2 _ (aP (by omega))
 have lvun:(AV.tuple [.int .i64 (dE c i),.bool (uZ c i k)]).ab=.tuple [.int .i64 (dE c i),.bool (uZ c i k)]:=rfl
 have hS:=Sh3 (O:=c.O) (b:=c.tm k) Nv ki2
 have e1:((3:Int)=1)=False:=by simp
 simp +contextual only [dF,fN,fO,fP,hb,Bool.not_true,D5,Qq,Nv,not_true_eq_false,not_false_eq_true,decide_true,decide_false,ay,sZ,Nat.reduceEqDiff,Nat.reduceAdd,↓reduceIte,reduceCtorEq,Int.reduceEq]
 refine fun _=>⟨fun h0=>?_,fun h0=>fin0 fun h=>?_⟩
 ·have Cd:p.to=[]:=aaK.1 (by omega)
  refine af (Ga hc hi hk nJ) ?_
  rintro r H2 ⟨rfl,rfl⟩
  simp +contextual only [k2,D5,lvun,decide_true,decide_false,Nv,e1,sZ,Nat.reduceEqDiff,Nat.reduceAdd,Nat.reduceLT,↓reduceIte,Int.reduceEq]
  refine aE (Jy (c.kd i) (dE c i) (by omega)) ?_
  simp +contextual only [k2,sZ,Nat.reduceEqDiff,Nat.reduceAdd,Nat.reduceLT,↓reduceIte]
  refine aE (Jy (c.kd k) (dE c i) (by omega)) ?_
  have opi:qy c i=c.O.pl (c.tm i).n:=by rw [qy,if_pos ki2]
  have osi:dE c i=c.O.sp (c.O.pl (c.tm i).n):=by rw [dE,if_pos ki2]
  have hx:side (c.O.sp (c.O.pl (c.tm i).n)) (c.tm i).l=(bp (dE c i) (c.kd i)).map c.tm:=by rw [← osi,← ki.1,gR]
  have hy:side (c.O.sp (c.O.pl (c.tm i).n)) (c.tm k).l=(bp (dE c i) (c.kd k)).map c.tm:=by rw [← osi,← kk.1,gR]
  rw [hx,hy,Zn (kd:=c.kd k) kk.1] at hS
  have lx:(bp (dE c i) (c.kd i)).length=(c.kd i).length:=gP
  have ly:(bp (dE c i) (c.kd k)).length=(c.kd k).length:=gP
  have nx:∀ z∈bp (dE c i) (c.kd i),c.dS z:=fun z hz=>ki.2 z (pq.1 hz)
  have ny:∀ z∈bp (dE c i) (c.kd k),c.dS z:=fun z hz=>kk.2 z (pq.1 hz)
  generalize bp (dE c i) (c.kd i)=x at *
  generalize bp (dE c i) (c.kd k)=y at *
  have ix:IL (.ap 0 (ints x)) x:=.inr rfl
  have iy:IL (.ap 0 (ints y)) y:=.inr rfl
  cases hl:uZ c i k with
  | false=>
    simp +contextual only [Bool.not_false,sZ,Nat.reduceEqDiff,↓reduceIte,reduceCtorEq]
    exact fin0 fun h=>by
     have:=hS.1 h
     rw [kW.2 ⟨ki2,this.2.1,this.2.2.1⟩] at hl
     cases hl
  | true=>
  have Mw:=kW.1 hl
  by_cases BQ:dE c i=3
  ·have ac2:(dE c i=3)=True:=eq_true BQ
   simp +contextual only [decide_true,Bool.not_true,ac2,sZ,Nat.reduceEqDiff,↓reduceIte,reduceCtorEq]
   refine fin0 fun h=>(hS.1 h).2.2.2.1 ?_
   rw [← osi];exact BQ
  ·have JL:(dE c i=3)=False:=eq_false BQ
   have lvun':True:=trivial
   by_cases hI:0≤p.i∧p.i < x.length∧p.i≤y.length
   ·have n1:(p.i < 0)=False:=eq_false (by omega)
    have n2:((x.length:Int)≤p.i)=False:=eq_false (by omega)
    have n3:((y.length:Int) < p.i)=False:=eq_false (by omega)
    simp +contextual only [Option.map_some,Option.map_none,EJ,decide_false,Bool.not_true,JL,n1,n2,n3,ix.aL,iy.aL,ix.xo,iy.xo,slT x p.i ⟨hI.1,by omega⟩,slT y p.i ⟨hI.1,by omega⟩,sZ,Nat.reduceEqDiff,Nat.reduceAdd,↓reduceIte,reduceCtorEq]
    refine af (YQ (SD.BC c _) (.inr rfl:IL (.ap 0 (ints (x.take p.i.toNat))) (x.take p.i.toNat)) (.inr rfl:IL (.ap 0 (ints (y.take p.i.toNat))) (y.take p.i.toNat)) (by rw [aa3];omega) (by rw [aa3];omega) 79 [.ptr c.d 0] [] rfl rfl (Q:=fun x y=>E c.O (c.tm x) (c.tm y))
     (fun u hu v hv G hG=>(kD hc (nx u (abA hu)) (ny v (abA hv)) G hG.1).mono fun r H' hr=>hr.sb hG) ⟨nJ,Up.refl c _⟩) ?_
    rintro r G ⟨z,rfl,hz,hG⟩
    have Gb:z=true↔∀ j,j < p.i.toNat→E c.O (c.tm (x.getD j 0)) (c.tm (y.getD j 0)):=by
     rw [hz]
     have lt1:(x.take p.i.toNat).length=p.i.toNat:=by rw [aa3];omega
     have lt2:(y.take p.i.toNat).length=p.i.toNat:=by rw [aa3];omega
     rw [lt1,lt2]
     have et:∀ (l:List Int) j,j < p.i.toNat→(l.take p.i.toNat).getD j 0=l.getD j 0:=fun l j hj=>by simp [oM,hj]
     constructor
     ·rintro ⟨_,h⟩ j hj;have:=h j hj;rwa [et _ _ hj,et _ _ hj] at this
     ·intro h;exact ⟨rfl,fun j hj=>by rw [et _ _ hj,et _ _ hj];exact h j hj⟩
    have finG:∀ G' (b:Bool),Up c G G'→Du c G'→(b=true↔Sh c.O p (c.tm i) (c.tm k))→b8 H.length [.t 8] [(8,.bool b)] G' (jf c (Sh c.O p (c.tm i) (c.tm k)) H):=fun G' b u d hb=>fin G' b (hG.2.trans u) d hb
    have finG0:¬ Sh c.O p (c.tm i) (c.tm k)→b8 H.length [.t 8] [(8,.bool false)] G (jf c (Sh c.O p (c.tm i) (c.tm k)) H):=
     fun h=>finG _ _ (Up.refl c _) hG.1 ⟨fun h=>by simp at h,fun h'=>absurd h' h⟩
    have gq:G[H.length]?=some (.cells [bt (c.kd k)]):=by rw [hG.2.get H.length (by omega) (by omega)];simp
    cases z with
    | false=>
      simp +contextual only [Bool.not_false,sZ,Nat.reduceEqDiff,↓reduceIte,reduceCtorEq]
      exact finG0 fun h=>absurd (Gb.2 (hS.1 h).2.2.2.2.2.1) (by simp)
    | true=>
      have hz1:=Gb.1 rfl
      by_cases he:p.i=y.length
      ·have n4:(p.i=(y.length:Int))=True:=eq_true he
       simp +contextual only [EJ,Mq,decide_true,Bool.not_true,iy.len (by omega),iy.aL,n4,sZ,Nat.reduceEqDiff,Nat.reduceAdd,↓reduceIte,reduceCtorEq]
       refine af (Vi ik (by omega) (q:=H.length) ⟨by omega,by omega⟩ (fun j h1 h2=>gr _ (ej h2) _ _ hi (kk.2 _ (aP h1))) hG.1 gq) ?_
       rintro r G' ⟨w,rfl,hw,hU,jQ⟩
       simp +contextual only [sZ,↓reduceIte,reduceCtorEq]
       refine finG G' w hU jQ ?_
       rw [hw,hS]
       rw [if_pos he]
       rw [osi] at BQ
       exact ⟨fun h=>⟨Cd,Mw.2.1,Mw.2.2,BQ,hI,hz1,h⟩,fun h=>h.2.2.2.2.2.2⟩
      ·have n4:(p.i=(y.length:Int))=False:=eq_false he
       rw [if_neg he] at hS
       cases vi:p.l with
       | nil=>
         have n5:(0 < ((0:Nat):Int))=False:=eq_false (by simp)
         simp +contextual only [EJ,Mq,eO,decide_false,Bool.not_true,iy.len (by omega),iy.aL,n4,vi,lU,n5,sZ,Nat.reduceEqDiff,↓reduceIte,reduceCtorEq]
         exact finG0 fun h=>by
          obtain ⟨q,r,e,_⟩:=(hS.1 h).2.2.2.2.2.2
          rw [vi] at e;cases e
       | cons q r=>
         have n5:(0 < ((r.length + 1:Nat):Int))=True:=eq_true (by omega)
         have n6:(q::r).getD (0:Int).toNat default=q:=rfl
         obtain ⟨q1,q2,q3,q4,q5,q6,q7,q8,q9⟩:=bf q
         simp only [vi] at hS gr
         simp +contextual only [EJ,Mq,BN,sf,sg,eO,decide_true,decide_false,Bool.not_true,iy.len (by omega),iy.aL,n4,vi,lU,n5,n6,ix.idx,iy.idx,ix.lens,iy.lens,q4,sZ,Nat.reduceEqDiff,Nat.reduceAdd,↓reduceIte,reduceCtorEq]
         refine ⟨by omega,by omega,by omega,af (gr q aaB _ _ (nx _ (aP (by omega))) (ny _ (aP (by omega))) G hG.1) ?_⟩
         rintro r' G2 ⟨w,rfl,hw,hU,Cb⟩
         cases w with
         | false=>
           simp +contextual only [sZ,Nat.reduceEqDiff,↓reduceIte,reduceCtorEq]
           refine finG G2 false hU Cb ⟨fun h=>by simp at h,fun h=>?_⟩
           obtain ⟨q',r',e,h',_⟩:=(hS.1 h).2.2.2.2.2.2
           cases e
           exact hw.2 h'
         | true=>
           have gq2:G2[H.length]?=some (.cells [bt (c.kd k)]):=by rw [hU.get H.length (by omega) (by omega),gq]
           simp +contextual only [Option.map_some,Option.map_none,Mq,Zi,vi,sZ,Nat.reduceEqDiff,Nat.reduceAdd,↓reduceIte,reduceCtorEq]
           refine af (Vi ik (by omega) (q:=H.length) ⟨by omega,by omega⟩ (fun j h1 h2=>gr _ (aay _ (ej h2)) _ _ hi (kk.2 _ (aP h1))) Cb gq2) ?_
           rintro r' G3 ⟨v,rfl,hv,YW,Mc⟩
           simp +contextual only [sZ,Nat.reduceEqDiff,↓reduceIte,reduceCtorEq]
           refine finG G3 v (hU.trans YW) Mc ?_
           rw [hv,hS]
           rw [osi] at BQ
           constructor
           ·exact fun h=>⟨Cd,Mw.2.1,Mw.2.2,BQ,hI,hz1,q,r,rfl,hw.1 rfl,h⟩
           ·rintro ⟨_,_,_,_,_,_,q',r',e,_,h⟩
            cases e
            exact h
   ·have bad:¬ Sh c.O p (c.tm i) (c.tm k):=fun h=>hI (hS.1 h).2.2.2.2.1
    by_cases m1':p.i < 0
    ·have n1:(p.i < 0)=True:=eq_true m1'
     simp +contextual only [EJ,decide_true,decide_false,Bool.not_true,JL,n1,sZ,Nat.reduceEqDiff,↓reduceIte,reduceCtorEq]
     exact fin0 bad
    ·have n1:(p.i < 0)=False:=eq_false m1'
     by_cases m2':(x.length:Int)≤p.i
     ·have n2:((x.length:Int)≤p.i)=True:=eq_true m2'
      simp +contextual only [EJ,decide_true,decide_false,Bool.not_true,JL,n1,n2,ix.aL,ix.xo,sZ,Nat.reduceEqDiff,↓reduceIte,reduceCtorEq]
      exact fin0 bad
     ·have n2:((x.length:Int)≤p.i)=False:=eq_false m2'
      have n3:((y.length:Int) < p.i)=True:=eq_true (by omega)
      simp +contextual only [EJ,decide_true,decide_false,Bool.not_true,JL,n1,n2,n3,ix.aL,iy.aL,ix.xo,iy.xo,sZ,Nat.reduceEqDiff,↓reduceIte,reduceCtorEq]
      exact fin0 bad
 ·rw [(hS.1 h).1] at h0;simp at h0
end Go.aI
end
section
set_option maxRecDepth 100000
namespace Go.aI
open Go Go.Proofs Go.eJ
theorem c87 {c:Cx} (hc:c.Ok):∀ (N:Nat) (p:PP) (i k:Int),pz p≤N→c.dS i→c.dS k→jJ c i k p:=by
 intro N
 induction N with
 | zero=>intro p i k h;have:=BL p;omega
 | succ N ih=>
 intro p i k hN hi hk
 have gr:∀ q∈p.l,∀ x y,c.dS x→c.dS y→jJ c x y q:=fun q hq x y hx hy=>ih q x y (by have:=BM hq;omega) hx hy
 by_cases h1:p.r=1
 ·exact Zj hc hi hk gr h1
 by_cases h2:p.r=2
 ·exact Zk hc hi hk gr h2
 by_cases h3:p.r=3
 ·exact Zo hc hi hk gr h3
 by_cases h4:p.r=4
 ·exact Zl hc hi hk gr h4
 exact Zm hc hi hk gr h1 h2 h3 h4
theorem Vk {c:Cx} (hc:c.Ok) {p:PP} {i k:Int} (hi:c.dS i) (hk:c.dS k):jJ c i k p:=c87 hc _ p i k (oN _) hi hk
open Classical in
noncomputable def Ea (s:Sg) (ps ss:List Int) (a b:T) (p:PP):Int:=if eN s ps ss [a,b]=0 then (if Sh (iW ps ss) p a b then 0 else 61) else eN s ps ss [a,b]
theorem c28 (s:Sg) (ps ss:List Int) (a b:T) (p:PP):Pure Tryz.prog 28 [s.av,eD ps ss,a.av,b.av,eC p] (.int .i64 (Ea s ps ss a b p)):=by
 refine fun H=>k28.2.calls rfl ?_
 simp only [k28,aJ]
 obtain ⟨q1,q2,q3,q4,q5,q6⟩:=aS ps ss
 obtain ⟨p1,p2,p3,p4,p5,p6,p7,p8,p9⟩:=bf p
 simp +contextual only [aF,q1,q4,p1,bX,sZ,Nat.reduceEqDiff,Nat.reduceAdd,↓reduceIte,reduceCtorEq]
 refine ae (Zb s ps ss [a,b]) ?_
 by_cases h0:eN s ps ss [a,b]=0
 ·have hr:=pn h0
  have hw:=kX hr.tree
  have hc:=hr.cx (by simp) (by simp) H.length
  have hd:=z3 ps ss (ts:=[a,b]) (by simp) H
  simp +contextual only [q4,bX,h0,sZ,Nat.reduceEqDiff,Nat.reduceAdd,↓reduceIte]
  refine af (YL ps ss [a,b] H (by simp at hw;omega)) ?_
  rintro r G ⟨rfl,rfl⟩
  have a0:=uE (ps:=ps) (ss:=ss) (ts:=[a,b]) (n:=H.length) (j:=0) (by simp)
  have a1:=uE (ps:=ps) (ss:=ss) (ts:=[a,b]) (n:=H.length) (j:=1) (by simp)
  have hl:=cI [a,b] 0
  rw [Qm]
  generalize aZ [a,b] 0=ks at a0 a1 hl ⊢
  have oU:ks.length=2:=hl
  simp +contextual only [a7,oU,dJ,sg,p4,sZ,Nat.reduceEqDiff,Nat.reduceAdd,Nat.reduceLT,↓reduceIte,reduceCtorEq]
  refine ⟨by decide,by decide,af (Vk hc a0.1 a1.1 _ hd) ?_⟩
  rintro r G ⟨x,rfl,hx,hU,hD⟩
  rw [a0.2,a1.2] at hx
  have qN:x=true↔Sh (iW ps ss) p a b:=hx
  have Zp:=hU.low (by simp [gU]) (by simp [gU])
  cases x with
  | true=>
    simp +contextual only [Bool.not_true,sZ,↓reduceIte,reduceCtorEq]
    exact P1 Zp rfl rfl ⟨by rw [Ea,if_pos h0,if_pos (qN.1 rfl)],rfl⟩
  | false=>
    simp +contextual only [Bool.not_false,sZ,↓reduceIte,reduceCtorEq]
    exact P1 Zp rfl rfl ⟨by rw [Ea,if_pos h0,if_neg (fun h=>absurd (qN.2 h) (by simp))],rfl⟩
 ·simp +contextual only [h0,sZ,Nat.reduceEqDiff,↓reduceIte,reduceCtorEq]
  exact bc rfl (by rw [Ea,if_neg h0])
end Go.aI
end
section
set_option maxRecDepth 100000
set_option maxHeartbeats 0
namespace Go.aI
open Go Go.Proofs
noncomputable def Eb:=aJ Tryz.call86 Tryz.func86 Tryz.ntmps86 [(0,0,1),(0,1,1),(3,6,2000),(8,2,2000),(9,7,2000),(10,7,2000),(10,8,1),(10,10,1),(13,3,2000),(16,3,1000),(19,3,2000),(20,9,2000),(21,1,1),(21,6,1),(21,11,1),(21,13,1),(27,3,2000),(29,1,1),(29,13,2000),(29,17,1),(33,1,1),(33,5,2000),(33,9,1)] [(0,[1,3,5,6]),(1,[1,3,5,6,7,8]),(2,[1,3,5,6,7,8,9]),(3,[1,3,5,6,7,8,9,47]),(4,[1,3,5,6,7,8,9]),(5,[1,3,5,6,7,8,9,10]),(6,[1,3,5,6,7,8,10,52]),(7,[1,3,5,6,7,8,10,52,53]),(8,[3,5,6,7,10]),(9,[3,5,6,7,10,67]),(10,[6,10]),(11,[6]),(12,[1,3,6,7,8,10,52,79]),(13,[3,6,7,8,10,11,13]),(14,[3,6,7,8,10,11,89,90,91]),(15,[3,6,7,8,10,11,89,90,91,92]),(16,[3,6,7,8,10,11,14,15,89,90,91]),(17,[3,6,7,8,10,11,14,15,16,89,90,91]),(18,[3,6,7,8,10,11,14,15,16,89,90,91,97]),(19,[3,6,7,8,10,11,14,15,16,89,90,91]),(20,[3,6,7,8,10,11,15,16,89,90,91]),(21,[3,6,7,8,10,11,89,90,91]),(22,[3,6,7,8,10,11,89,90,91]),(23,[6]),(24,[1,3,6,7,8,10,128]),(25,[1,3,6,7,8,10,18]),(26,[1,3,6,8,10,20,21]),(27,[1,3,6,8,10,20,21]),(28,[1,3,6,8,10,20,21,152]),(29,[1,3,6,8,10]),(30,[1,3,6,10,170,171,172]),(31,[1,3,6,10,170,171,172,173]),(32,[1,3,6,10,23,170,171,172]),(33,[1,3,6,10,170,171,172]),(34,[1,3,6,10,170,171,172]),(35,[6])] [(1,(.take 0 true (.take 1 true (.take 2 true (.take 3 true (.take 4 true (.take 5 true (.take 6 true (.take 7 true (.take 8 false (.take 9 false (.take 10 false (.take 12 false (.br 11 (.take 13 false (.take 14 false (.take 15 false (.br 16 (.br 17 (.br 18 (.br 19 .done .nil) .nil) .nil) (.br 17 (.br 16 (.br 18 (.br 19 .done .nil) .nil) .nil) .nil))))) (.br 16 (.br 11 (.take 13 false (.take 14 false (.take 15 false (.br 17 (.br 18 (.br 19 .done .nil) .nil) .nil)))) (.br 17 (.br 11 (.take 13 false (.take 14 false (.take 15 false (.br 18 (.br 19 .done .nil) .nil)))) (.br 18 (.take 11 true (.take 13 true (.take 14 true (.take 15 true (.br 19 .done .nil))))) .nil)) .nil)) (.br 17 (.br 11 (.take 13 false (.take 14 false (.take 15 false (.br 16 (.br 18 (.br 19 .done .nil) .nil) .nil)))) (.br 16 (.br 11 (.take 13 false (.take 14 false (.take 15 false (.br 18 (.br 19 .done .nil) .nil)))) (.br 18 (.take 11 true (.take 13 true (.take 14 true (.take 15 true (.br 19 .done .nil))))) .nil)) .nil)) .nil)))))))))))))))),(3,(.take 0 true (.take 1 true (.take 2 true (.take 3 true (.take 4 true (.take 5 true (.br 6 (.take 7 true .done) .nil)))))))),(9,(.take 0 true (.take 1 true (.take 2 true (.take 3 true (.take 4 true (.take 5 true (.take 6 true (.br 7 (.take 8 true .done) .nil))))))))),(10,(.take 0 true (.take 1 true (.take 2 true (.take 3 true (.take 4 true (.take 5 true (.take 6 true (.br 7 (.take 8 true (.take 9 true (.br 10 .done .nil))) .nil))))))))),(20,(.take 0 true (.take 1 true (.take 2 true (.take 3 true (.take 4 true (.take 5 true (.take 6 true (.take 7 true (.take 8 true (.br 9 (.br 10 .done .nil) .nil))))))))))),(21,(.take 0 false (.take 2 false (.take 3 false (.take 5 false (.br 1 (.br 4 (.br 6 (.take 7 true (.take 8 true (.take 10 true (.br 9 (.br 11 (.take 12 true (.br 13 .done .nil)) .nil) .nil)))) (.br 7 (.take 8 false (.br 6 (.take 10 true (.br 9 (.br 11 (.take 12 true (.br 13 .done .nil)) .nil) .nil)) .nil)) .nil)) (.br 6 (.take 7 true (.take 8 true (.br 4 (.take 10 true (.br 9 (.br 11 (.take 12 true (.br 13 .done .nil)) .nil) .nil)) .nil))) (.br 7 (.take 8 false (.br 4 (.br 6 (.take 10 true (.br 9 (.br 11 (.take 12 true (.br 13 .done .nil)) .nil) .nil)) .nil) (.br 6 (.br 4 (.take 10 true (.br 9 (.br 11 (.take 12 true (.br 13 .done .nil)) .nil) .nil)) .nil) .nil))) .nil))) (.br 6 (.br 1 (.take 7 true (.take 8 true (.br 4 (.take 10 true (.br 9 (.br 11 (.take 12 true (.br 13 .done .nil)) .nil) .nil)) .nil))) (.br 7 (.take 8 false (.br 1 (.br 4 (.take 10 true (.br 9 (.br 11 (.take 12 true (.br 13 .done .nil)) .nil) .nil)) .nil) .nil)) .nil)) (.br 7 (.take 8 false (.br 1 (.br 4 (.br 6 (.take 10 true (.br 9 (.br 11 (.take 12 true (.br 13 .done .nil)) .nil) .nil)) .nil) (.br 6 (.br 4 (.take 10 true (.br 9 (.br 11 (.take 12 true (.br 13 .done .nil)) .nil) .nil)) .nil) .nil)) (.br 6 (.br 1 (.br 4 (.take 10 true (.br 9 (.br 11 (.take 12 true (.br 13 .done .nil)) .nil) .nil)) .nil) .nil) .nil))) .nil)))))))),(26,(.take 0 true (.take 1 true (.take 2 true (.take 3 true (.take 4 true (.take 5 true (.take 6 true (.take 7 true .done))))))))),(29,(.take 0 false (.take 2 false (.take 3 false (.take 4 false (.take 8 false (.take 9 false (.br 1 (.take 5 true (.take 6 true (.take 7 true (.take 10 true (.take 11 true (.take 12 true (.br 13 (.take 14 true (.br 15 (.take 16 true (.br 17 .done .nil)) .nil)) .nil))))))) (.br 5 (.take 6 false (.take 7 false (.br 1 (.take 10 true (.take 11 true (.take 12 true (.br 13 (.take 14 true (.br 15 (.take 16 true (.br 17 .done .nil)) .nil)) .nil)))) (.br 10 (.take 11 false (.take 12 false (.br 1 (.br 13 (.take 14 true (.br 15 (.take 16 true (.br 17 .done .nil)) .nil)) .nil) (.br 13 (.take 14 false (.br 1 (.br 15 (.take 16 true (.br 17 .done .nil)) .nil) .nil)) .nil)))) .nil)))) (.br 10 (.take 11 false (.take 12 false (.br 1 (.take 5 true (.take 6 true (.take 7 true (.br 13 (.take 14 true (.br 15 (.take 16 true (.br 17 .done .nil)) .nil)) .nil)))) (.br 5 (.take 6 false (.take 7 false (.br 1 (.br 13 (.take 14 true (.br 15 (.take 16 true (.br 17 .done .nil)) .nil)) .nil) (.br 13 (.take 14 false (.br 1 (.br 15 (.take 16 true (.br 17 .done .nil)) .nil) .nil)) .nil)))) .nil)))) .nil)))))))))),(33,(.take 0 false (.take 2 false (.take 3 false (.take 4 false (.br 1 (.br 5 (.take 6 true (.br 7 (.take 8 true (.br 9 .done .nil)) .nil)) .nil) (.br 5 (.take 6 false (.br 1 (.br 7 (.take 8 true (.br 9 .done .nil)) .nil) .nil)) .nil)))))))]
end Go.aI
end
section
set_option maxRecDepth 100000
namespace Go.aI
open Go Go.Proofs Go.eJ
def pF (l:List PP):AV:=match l with | []=>.ag | _::_=>.ap 4 (eo l)
def uG (l:List Int):AV:=match l with | []=>.ag | _::_=>.ap 1 (ints l)
theorem iY (l:List PP):(pF l).val=true∧(pF l).cells=[pF l]∧(pF l).one=true∧(∀ n,(pF l).a9 n=true)∧(pF l).drop=.ap 0 (eo l)∧∀ n,(pF l).ab.a9 n=true:=by
 cases l with
 | nil=>exact ⟨rfl,rfl,rfl,fun _=>rfl,rfl,fun _=>rfl⟩
 | cons x r=>exact ⟨rfl,rfl,rfl,fun n=>by rw [pF,cc];exact jm _ _,rfl,fun n=>by rw [pF,wX,cc];exact jm _ _⟩
theorem mg (l:List Int):(uG l).val=true∧(uG l).cells=[uG l]∧(uG l).one=true∧(∀ n,(uG l).a9 n=true)∧(uG l).drop=.ap 0 (ints l)∧∀ n,(uG l).ab.a9 n=true:=by
 cases l with
 | nil=>exact ⟨rfl,rfl,rfl,fun _=>rfl,rfl,fun _=>rfl⟩
 | cons x r=>exact ⟨rfl,rfl,rfl,fun n=>by rw [uG,cc];exact bb _ _,rfl,fun n=>by rw [uG,wX,cc];exact bb _ _⟩
theorem Mx (a b:List PP):eo (a++b)=eo a++eo b:=by simp [mf]
theorem Ec (l:List PP) (q:PP) (h:l.length < 1000000000) (o:Nat) (ψ:List AV→Prop):bE 4 64 (pF l) (.ap o [eC q]) ψ=ψ (eo (l++[q])):=by
 have jt:qP 4 [eC q]:=of_eq_true (Vg [q])
 rw [Mx]
 cases l with
 | nil=>rw [pF,mT];simp [jt,eo]
 | cons x r=>
   rw [pF,mU,eO]
   have e:eo [q]=[eC q]:=rfl
   rw [e]
   simp only [jt,List.length_cons,List.length_nil,true_and,eq_iff_iff]
   simp only [List.length_cons] at h
   exact ⟨fun h=>h.2,fun k=>⟨by omega,k⟩⟩
theorem R4 (l:List Int) (q:Int) (h:l.length < 1000000000) (o:Nat) (ψ:List AV→Prop):bE 1 8 (uG l) (.ap o [.int .i64 q]) ψ=ψ (ints (l++[q])):=by
 have jt:qP 1 [AV.int .i64 q]:=of_eq_true (mX [q])
 have e:ints [q]=[AV.int .i64 q]:=rfl
 cases l with
 | nil=>rw [uG,mT];simp [jt,ints]
 | cons x r=>
   rw [uG,mU,ay,← l9,e]
   simp only [jt,List.length_cons,List.length_nil,true_and,eq_iff_iff]
   simp only [List.length_cons] at h
   exact ⟨fun h=>h.2,fun k=>⟨by omega,k⟩⟩
theorem j3 (q:PP):aV (eC q)=eC q:=by rw [oI];rfl
theorem si (l:List PP) (q:PP):AV.ap 4 (eo (l++[q]))=pF (l++[q]):=by cases l <;> rfl
theorem Ed (l:List Int) (q:Int):AV.ap 1 (ints (l++[q]))=uG (l++[q]):=by cases l <;> rfl
theorem d3 {α:Type} (x y z u d:α) (r:List α):(x::y::z::u::r).getD 3 d=u:=by simp
theorem s3 {α:Type} (x y z w u:α) (r:List α):(x::y::z::w::r).set 3 u=x::y::z::u::r:=by simp
theorem Vl (a b c d y:AV):ah [a,b,c,d] 1 [y]=[a,y,c,d]:=by simp [ah]
theorem JM (a b c d x y z u:AV):ah [a,b,c,d] 0 [x,y,z,u]=[x,y,z,u]:=by simp [ah]
theorem R5 (r i:Int) (to:List Int) (l:List PP) (φ:AV→Prop):cV (some (.cells [.int .i64 r,.int .i64 i,uG to,pF l])) (some 4) 0 φ=φ (eC (.mk r i to l)):=by
 have e:List.map AV.drop [AV.int .i64 r,.int .i64 i,uG to,pF l]=[.int .i64 r,.int .i64 i,.ap 0 (ints to),.ap 0 (eo l)]:=by
  simp only [List.map_cons,List.map_nil,(iY l).2.2.2.2.1,(mg to).2.2.2.2.1];rfl
 simp only [cV,List.drop_zero,List.length_cons,List.length_nil,List.take_succ_cons,List.take_zero,e,eC]
 simp
def Zq (c:Cx) (i k:Int) (H:List aa) (r:AV) (H':List aa):Prop:=∃ p,r=eC p∧Sh c.O p (c.tm i) (c.tm k)∧Up c H H'∧Du c H'
def pG (c:Cx) (i k:Int):Prop:=∀ H,Du c H→aw Tryz.prog 86 [.ptr c.d 0,.int .i64 i,.int .i64 k] H (Zq c i k H)
structure PB (c:Cx) (H:List aa) (x y:Nat) (i k:Int) (es:List AV) (G:List aa):Prop where
 du:Du c G
 gx:G[x]?=some (.cells [bt (c.kd i)])
 gy:G[y]?=some (.cells [bt (c.kd k)])
 g6:G[H.length]?=some (.cells [.int .i64 0,.int .i64 0,.ag,.ag])
 gp:G[H.length + 3]?=some (.cells es)
 len:G.length=H.length + 4
 up:∀ j,j < H.length→j≠c.e→j≠c.g→G[j]?=H[j]?
structure XY (H:List aa) (x y:Nat):Prop where
 x1:H.length < x
 x2:x < H.length + 3
 y1:H.length < y
 y2:y < H.length + 3
theorem PB.call {c:Cx} {H G G':List aa} {x y:Nat} {i k:Int} {es:List AV} (hD:Du c H) (w:XY H x y) (h:PB c H x y i k es G) (hU:Up c G G') (jQ:Du c G'):PB c H x y i k es G':=by
 obtain ⟨l1,l2,l3⟩:=hD.lt
 obtain ⟨w1,w2,w3,w4⟩:=w
 exact ⟨jQ,by rw [hU.get x (by omega) (by omega),h.gx],by rw [hU.get y (by omega) (by omega),h.gy],by rw [hU.get _ (by omega) (by omega),h.g6],by rw [hU.get _ (by omega) (by omega),h.gp],by rw [hU.len,h.len],fun j h1 h2 h3=>by rw [hU.get j h2 h3,h.up j h1 h2 h3]⟩
theorem PB.set {c:Cx} {H G:List aa} {x y:Nat} {i k:Int} {es es':List AV} (hD:Du c H) (w:XY H x y) (h:PB c H x y i k es G):PB c H x y i k es' (G.set (H.length + 3) (.cells es')):=by
 obtain ⟨l1,l2,l3⟩:=hD.lt
 obtain ⟨w1,w2,w3,w4⟩:=w
 have hp:=aO h.gp
 exact ⟨h.du.set (by omega) (by omega) (by omega),by rw [tL (by omega),h.gx],by rw [tL (by omega),h.gy],by rw [tL (by omega),h.g6],by rw [tO hp],by rw [abw,h.len],fun j h1 h2 h3=>by rw [tL (by omega),h.up j h1 h2 h3]⟩
theorem ac3 {c:Cx} {k x:Int} (h1:kV c x k) (h2:iP c x k) {H:List aa} (hD:Du c H):aw Tryz.prog 147 [.int .i64 x,.ai (.ptr c.d 0),.ai (.int .i64 k)] H (jf c (E c.O (c.tm x) (c.tm k)∨R c.O (c.tm x) (c.tm k)) H):=by
 refine Xa.2.calls rfl ?_
 simp only [Xa,aJ]
 simp +contextual only [sZ,Nat.reduceEqDiff,Nat.reduceAdd,↓reduceIte,reduceCtorEq]
 refine af (h1 H hD) ?_
 rintro r H' ⟨b,rfl,hb,hU,jQ⟩
 cases b with
 | true=>
   simp +contextual only [sZ,Nat.reduceEqDiff,↓reduceIte,reduceCtorEq]
   exact eI rfl ⟨fun _=>.inl (hb.1 rfl),fun _=>rfl⟩ hU jQ
 | false=>
   simp +contextual only [sZ,Nat.reduceEqDiff,Nat.reduceAdd,↓reduceIte,reduceCtorEq]
   refine af (h2 H' jQ) ?_
   rintro r H2 ⟨z,rfl,hz,RU,Cb⟩
   simp +contextual only [sZ,Nat.reduceEqDiff,↓reduceIte,reduceCtorEq]
   refine eI rfl ⟨fun h=>.inr (hz.1 h),fun h=>hz.2 (h.resolve_left fun h=>absurd (hb.2 h) (by simp))⟩ (hU.trans RU) Cb
theorem ac4 {c:Cx} {a b:List Int} {va vb:AV} (ha:IL va a) (hb:IL vb b) {p q:Nat} {x y:Int} (hx:0≤x∧x < a.length) (hy:0≤y∧y < b.length) (h:iP c (a.getD x.toNat 0) (b.getD y.toNat 0)) {G:List aa} (hD:Du c G) (gp:G[p]?=some (.cells [va])) (gq:G[q]?=some (.cells [vb])) :
 aw Tryz.prog 148 [.int .i64 x,.ai (.ptr c.d 0),.ptr p 0,.ptr q 0,.ai (.int .i64 y)] G (jf c (R c.O (c.tm (a.getD x.toNat 0)) (c.tm (b.getD y.toNat 0))) G):=by
 refine Xb.2.calls rfl ?_
 simp only [Xb,aJ]
 obtain ⟨a1,a2,a3,a4⟩:=ha.one
 obtain ⟨b1,b2,b3,b4⟩:=hb.one
 simp +contextual only [gp,gq,a2,b2,ha.lens,hb.lens,ha.idx,hb.idx,sZ,Nat.reduceEqDiff,Nat.reduceAdd,Nat.reduceLT,↓reduceIte,reduceCtorEq]
 refine ⟨hx,hy,af (h G hD) ?_⟩
 rintro r G' ⟨z,rfl,hz,hU,jQ⟩
 simp +contextual only [sZ,↓reduceIte,reduceCtorEq]
 exact eI rfl hz hU jQ
def R6:IR:=(.loop (.seq (.region [⟨none,some 173,(.bin .lss (.t 172) (.t 171))⟩] (.some [1,3,6,10,170,171,172,173])) (.seq (.cond (.t 173) .skip (.exit 5)) (.seq (.block 6 (.seq (.region [⟨none,some 174,(.indexAddr 1 (.t 170) (.t 172))⟩,⟨none,some 175,(.load .none (.t 174))⟩,⟨none,some 23,(.set (.t 175) false)⟩] (.some [1,3,6,10,23,170,171,172])) (.draw (.take .false ⟨none,some 176,(.fieldAddr 3 .none (.t 10))⟩ (.take .false ⟨none,some 178,(.load .none (.t 3))⟩ (.take .false ⟨none,some 179,(.set (.t 1) false)⟩ (.take .false ⟨none,some 180,(.set (.t 23) false)⟩ (.br ⟨none,some 177,(.eK (.t 176))⟩ (.br ⟨none,some 181,(.call (.c (.fn (.func 86) [] [])) [(.t 178),(.t 179),(.t 180)] (.some 1999))⟩ (.take .true ⟨none,some 182,(.buildSlice 0 4 (.agg [(.int .i64 0),(.int .i64 0),.ag,.ag]) 1 [(0,(.t 181))])⟩ (.br ⟨none,some 183,(.append 4 64 (.t 177) (.t 182))⟩ (.take .true ⟨none,some 184,(.fieldAddr 3 .none (.t 10))⟩ (.br ⟨none,none,(.fA (.t 184) 183)⟩ .done .nil)) .nil)) .nil) (.br ⟨none,some 181,(.call (.c (.fn (.func 86) [] [])) [(.t 178),(.t 179),(.t 180)] (.some 1999))⟩ (.take .false ⟨none,some 182,(.buildSlice 0 4 (.agg [(.int .i64 0),(.int .i64 0),.ag,.ag]) 1 [(0,(.t 181))])⟩ (.br ⟨none,some 177,(.eK (.t 176))⟩ (.br ⟨none,some 183,(.append 4 64 (.t 177) (.t 182))⟩ (.take .true ⟨none,some 184,(.fieldAddr 3 .none (.t 10))⟩ (.br ⟨none,none,(.fA (.t 184) 183)⟩ .done .nil)) .nil) .nil)) .nil)))))) (.some [1,3,6,10,170,171,172])))) (.region [⟨none,some 185,(.bin .add (.t 172) (.c (.int .i64 1)))⟩,⟨none,some 172,(.set (.t 185) false)⟩] (.some [1,3,6,10,170,171,172]))))))
theorem Gq {c:Cx} {H:List aa} (hD:Du c H) {x y:Nat} (w:XY H x y) {i k:Int} {rl at':Int} {l0:List PP} (Co:l0.length≤1) {b:List Int} {vb:AV} (hb:IL vb b) (lb:b.length≤100000000) (hp:∀ z∈b,pG c i z) {G:List aa} (h:PB c H x y i k [.int .i64 rl,.int .i64 at',.ag,pF l0] G) :
 lT ⟨Tryz.prog,none⟩ H.length R6 [(1,.int .i64 i),(3,.ai (.ptr c.d 0)),(6,.ptr H.length 0),(10,.ptr (H.length + 3) 0),(170,vb),(171,.int .i64 b.length),(172,.int .i64 0)] G fun e aH G'=>
  e=.exit 5∧get aH 6=.ptr H.length 0∧get aH 10=.ptr (H.length + 3) 0∧∃ qs,me (Sh c.O) qs (c.tm i) (b.map c.tm)∧PB c H x y i k [.int .i64 rl,.int .i64 at',.ag,pF (l0++qs)] G':=by
 obtain ⟨b1,b2,b3,b4⟩:=hb.one
 unfold R6
 refine aM b.length (fun j (s:List aa×List PP)=>PB c H x y i k [.int .i64 rl,.int .i64 at',.ag,pF (l0++s.2)] s.1∧s.2.length=j∧∀ j',j' < j→Sh c.O (s.2.getD j' default) (c.tm i) (c.tm (b.getD j' 0)))
  (fun j s=>[(1,.int .i64 i),(3,.ai (.ptr c.d 0)),(6,.ptr H.length 0),(10,.ptr (H.length + 3) 0),(170,vb),(171,.int .i64 b.length),(172,.int .i64 j)]) (fun j s=>s.1) (G,[]) ⟨⟨by rw [aaV];exact h,rfl,fun j h=>by omega⟩,aB _ _ _⟩ fun j s hj hI=>?_
 obtain ⟨G,qs⟩:=s
 obtain ⟨lB,hlen,Ss⟩:=hI
 simp only at lB hlen Ss
 by_cases Mt:(j:Int) < b.length
 ·have qO:j < b.length:=by omega
  have gp:=lB.gp
  have hl:(l0++qs).length < 1000000000:=by rw [aap];omega
  have nK:=fun es=>lB.set (es':=es) hD w
  simp +contextual only [Mt,decide_true,hb.lens,hb.idx,tN,gp,d3,s3,sZ,Nat.reduceEqDiff,Nat.reduceAdd,Nat.reduceLT,↓reduceIte,reduceCtorEq]
  have fin:∀ (q:PP) (G':List aa),Sh c.O q (c.tm i) (c.tm (b.getD j 0))→PB c H x y i k [.int .i64 rl,.int .i64 at',.ag,pF (l0++(qs++[q]))] G'→∃ (j':Nat) (t:List aa×List PP),(j'≤b.length∧PB c H x y i k [.int .i64 rl,.int .i64 at',.ag,pF (l0++t.2)] t.1∧t.2.length=j'∧∀ j'',j'' < j'→Sh c.O (t.2.getD j'' default) (c.tm i) (c.tm (b.getD j'' 0)))∧b.length - j' < b.length - j∧
   sle H.length [(1,.int .i64 i),(3,.ai (.ptr c.d 0)),(6,.ptr H.length 0),(10,.ptr (H.length + 3) 0),(170,vb),(171,.int .i64 b.length),(172,.int .i64 (IntKind.i64.wrap (j + 1)))] G' [(1,.int .i64 i),(3,.ai (.ptr c.d 0)),(6,.ptr H.length 0),(10,.ptr (H.length + 3) 0),(170,vb),(171,.int .i64 b.length),(172,.int .i64 j')] t.1:=by
   intro q G' hq ac5
   refine ⟨j + 1,(G',qs++[q]),⟨qO,ac5,by simp [hlen],fun j'' ahy=>?_⟩,by omega,aD (by rw [au j (by omega)]) rfl⟩
   by_cases e:j''=j
   ·subst e
    have:(qs++[q]).getD j'' default=q:=by rw [← hlen];simp
    rw [this];exact hq
   ·have:(qs++[q]).getD j'' default=qs.getD j'' default:=by
     rw [oM,oM,tK (by omega)]
    rw [this];exact Ss j'' (by omega)
  refine ⟨by omega,?_,?_⟩
  ·refine af (hp _ (aP qO) _ (nK _).du) ?_
   rintro r G2 ⟨q,rfl,hq,hU,Cb⟩
   have My:=(nK _).call hD w hU Cb
   have gp2:=My.gp
   have BR:=fun es=>My.set (es':=es) hD w
   obtain ⟨q1,q2,q3,q4,q5,q6,q7,q8,q9⟩:=bf q
   obtain ⟨v1,v2,v3,v4,v5,v6⟩:=iY (l0++(qs++[q]))
   simp +contextual only [q1,q2,j3,Ec _ _ hl,gp2,s3,aaD,sZ,Nat.reduceEqDiff,Nat.reduceAdd,Nat.reduceLT,↓reduceIte]
   have el:AV.ap 4 (eo (l0++(qs++[q])))=pF (l0++(qs++[q])):=by rw [← aaD];exact si _ _
   rw [el]
   exact ⟨jm _ _,fin q _ hq (BR _)⟩
  ·refine af (hp _ (aP qO) _ lB.du) ?_
   rintro r G2 ⟨q,rfl,hq,hU,Cb⟩
   have My:=lB.call hD w hU Cb
   have gp2:=My.gp
   have BR:=fun es=>My.set (es':=es) hD w
   have gp3:=fun es=>(BR es).gp
   have xE:=fun es es'=>(BR es).set (es':=es') hD w
   obtain ⟨q1,q2,q3,q4,q5,q6,q7,q8,q9⟩:=bf q
   obtain ⟨v1,v2,v3,v4,v5,v6⟩:=iY (l0++(qs++[q]))
   simp +contextual only [q1,q2,j3,Ec _ _ hl,gp2,gp3,d3,s3,aaD,sZ,Nat.reduceEqDiff,Nat.reduceAdd,Nat.reduceLT,↓reduceIte]
   have el:AV.ap 4 (eo (l0++(qs++[q])))=pF (l0++(qs++[q])):=by rw [← aaD];exact si _ _
   rw [el]
   exact ⟨jm _ _,fin q _ hq (xE _ _)⟩
 ·have e:j=b.length:=by omega
  simp +contextual only [Mt,decide_false,sZ,Nat.reduceEqDiff,↓reduceIte]
  refine ⟨qs,⟨by rw [hlen,e,abx],fun j' vI=>?_⟩,lB⟩
  rw [abx] at vI
  rw [cr vI];exact Ss j' (by omega)
end Go.aI
end
section
set_option maxRecDepth 100000
namespace Go.aI
open Go Go.Proofs Go.eJ
structure PA (c:Cx) (H:List aa) (x y:Nat) (i k:Int) (G:List aa):Prop where
 du:Du c G
 gx:G[x]?=some (.cells [bt (c.kd i)])
 gy:G[y]?=some (.cells [bt (c.kd k)])
 g6:G[H.length]?=some (.cells [.int .i64 0,.int .i64 0,.ag,.ag])
 len:G.length=H.length + 3
 up:∀ j,j < H.length→j≠c.e→j≠c.g→G[j]?=H[j]?
theorem PA.call {c:Cx} {H G G':List aa} {x y:Nat} {i k:Int} (hD:Du c H) (w:XY H x y) (h:PA c H x y i k G) (hU:Up c G G') (jQ:Du c G'):PA c H x y i k G':=by
 obtain ⟨l1,l2,l3⟩:=hD.lt
 obtain ⟨w1,w2,w3,w4⟩:=w
 exact ⟨jQ,by rw [hU.get x (by omega) (by omega),h.gx],by rw [hU.get y (by omega) (by omega),h.gy],by rw [hU.get _ (by omega) (by omega),h.g6],by rw [hU.len,h.len],fun j h1 h2 h3=>by rw [hU.get j h2 h3,h.up j h1 h2 h3]⟩
theorem PA.ta {c:Cx} {H G:List aa} {x y:Nat} {i k:Int} (w:XY H x y) (h:PA c H x y i k G) (es:List AV):PB c H x y i k es (G++[.cells es]):=by
 obtain ⟨w1,w2,w3,w4⟩:=w
 have hl:=h.len
 exact ⟨h.du.ta _,by rw [tK (by omega),h.gx],by rw [tK (by omega),h.gy],by rw [tK (by omega),h.g6],by rw [← hl];simp,by simp [hl],fun j h1 h2 h3=>by rw [tK (by omega),h.up j h1 h2 h3]⟩
theorem bdP (r:Int) (φ:AV→Prop):cw [.int .i64 0,.int .i64 0,.ag,.ag] [(0,1,.int .i64 r)] φ=φ (.agg [.int .i64 r,.int .i64 0,.ag,.ag]):=by
 simp only [cw,gZ,eq_iff_iff]
 constructor
 ·rintro ⟨_,_,_,h⟩;exact h
 ·exact fun h=>⟨rfl,rfl,by simp,h⟩
theorem PB.fin {c:Cx} {H G:List aa} {x y:Nat} {i k:Int} {r i':Int} {to:List Int} {l:List PP} (hD:Du c H) (h:PB c H x y i k [.int .i64 r,.int .i64 i',uG to,pF l] G) (hs:Sh c.O (.mk r i' to l) (c.tm i) (c.tm k)) :
 zC H.length (eC (.mk r i' to l)) (G.set H.length (.cells (eC (.mk r i' to l)).cells)) (Zq c i k H):=by
 obtain ⟨l1,l2,l3⟩:=hD.lt
 refine RF (G:=(G.set H.length (.cells (eC (.mk r i' to l)).cells)).take H.length) rfl (gk _ _) rfl ⟨_,rfl,hs,⟨?_,fun j h1 h2=>?_⟩,?_⟩
 ·have:=h.len;simp;omega
 ·rw [aax]
  split
  ·rename_i hj;rw [tL (by omega),h.up j hj h1 h2]
  ·rename_i hj;rw [aaS (by omega)]
 ·exact (h.du.set (by omega) (by omega) (by omega)).take l1 l2 l3
theorem Ee (p:PP) (φ:AV→Prop):cV (some (.cells (eC p).cells)) (some 4) 0 φ=φ (eC p):=by
 obtain ⟨_,h2,_,_,_,_,h7,h8,_⟩:=bf p
 simp only [cV,List.drop_zero,h2,aaw (Nat.le_of_eq h2),h8,h7]
 simp
theorem R7 (p:PP):ah [AV.int .i64 0,.int .i64 0,.ag,.ag] 0 (eC p).cells=(eC p).cells:=by rw [oI];rfl
theorem vL {c:Cx} (hc:c.Ok) {i k:Int} (hi:c.dS i) (hk:c.dS k):HI c i k:=by
 have ki:=hc.kids i hi
 have kk:=hc.kids k hk
 exact ⟨fun H hD=>YR hc hi (fun x hx=>kD hc (ki.2 x hx) hk) (fun x hx=>kF hc (ki.2 x hx) hk) hD,fun H hD=>YT hc hi hk (fun y hy=>kF hc hi (kk.2 y hy)) hD,
  fun H hD=>YV hc hi hk (fun y hy=>kF hc hi (kk.2 y hy)) (fun x hx y hy=>kD hc (ki.2 x hx) (kk.2 y hy)) (fun x hx y hy=>kF hc (ki.2 x hx) (kk.2 y hy)) hD,
  fun H hD=>Y1 hc hi hk (fun x hx y hy=>kD hc (ki.2 x hx) (kk.2 y hy)) (fun x hx y hy=>kF hc (ki.2 x hx) (kk.2 y hy)) hD⟩
theorem Zr {c:Cx} (hc:c.Ok) {i k:Int} (hi:c.dS i) (hk:c.dS k) (hR:R c.O (c.tm i) (c.tm k)) (hr:iF c i k 1) (jN:∀ m,m < 1→¬ iF c i k m) (hp:∀ x∈c.kd i,R c.O (c.tm x) (c.tm k)→pG c x k):pG c i k:=by
 intro H hD
 refine Eb.2.calls rfl ?_
 simp only [Eb,aJ]
 have k2:∀ l,(bt l).ab=bt l:=fun l=>(aG l).2.1
 have ki:=hc.kids i hi
 have kk:=hc.kids k hk
 have l1:=hc.kl i hi
 have l2:=hc.kl k hk
 obtain ⟨a1,a2,a3,a4,a5⟩:=aG (c.kd i)
 obtain ⟨b1,b2,b3,b4,b5⟩:=aG (c.kd k)
 have ii:IL (bt (c.kd i)) (c.kd i):=.inl rfl
 have ik:IL (bt (c.kd k)) (c.kd k):=.inl rfl
 have ei:(c.nd.getD i.toNat default).snd=c.kd i:=rfl
 have ek:(c.nd.getD k.toNat default).snd=c.kd k:=rfl
 obtain ⟨m1,m2,m3⟩:=hD.lt
 have ed:∀ X:List aa,(H++X)[c.d]?=H[c.d]?:=fun X=>tK m1
 have spv:∀ x:AV,ah [AV.ag] 0 [x]=[x]:=fun x=>rfl
 have spq:ah [AV.int .i64 0,.int .i64 0,.ag,.ag] 0 [AV.int .i64 0,.int .i64 0,.ag,.ag]=[AV.int .i64 0,.int .i64 0,.ag,.ag]:=rfl
 simp +contextual only [sZ,Nat.reduceEqDiff,Nat.reduceAdd,↓reduceIte,reduceCtorEq]
 refine mb (K1:=fun e G=>get e 1=.int .i64 i∧get e 3=.ai (.ptr c.d 0)∧get e 5=.ai (.int .i64 k)∧get e 6=.ptr H.length 0∧∃ x y,get e 7=.ptr x 0∧get e 8=.ptr y 0∧XY H x y∧PA c H x y i k G) ?_ ?_
 ·have P0:aa:=.cells [.int .i64 0,.int .i64 0,.ag,.ag]
  have A:∃ x y,AV.ptr (H.length + 1) 0=.ptr x 0∧AV.ptr (H.length + 2) 0=.ptr y 0∧XY H x y∧PA c H x y i k (H++[.cells [.int .i64 0,.int .i64 0,.ag,.ag],.cells [bt (c.kd i)],.cells [bt (c.kd k)]]):=
   ⟨_,_,rfl,rfl,⟨by omega,by omega,by omega,by omega⟩,⟨hD.ta _,by simp,by simp,by simp,by simp,fun j hj _ _=>tK hj⟩⟩
  have B:∃ x y,AV.ptr (H.length + 2) 0=.ptr x 0∧AV.ptr (H.length + 1) 0=.ptr y 0∧XY H x y∧PA c H x y i k (H++[.cells [.int .i64 0,.int .i64 0,.ag,.ag],.cells [bt (c.kd k)],.cells [bt (c.kd i)]]):=
   ⟨_,_,rfl,rfl,⟨by omega,by omega,by omega,by omega⟩,⟨hD.ta _,by simp,by simp,by simp,by simp,fun j hj _ _=>tK hj⟩⟩
  simp +contextual only [ed,hD.d,nc,EI,cJ,b7,k2,ei,ek,a1,a3,a4,a5,b1,b3,b4,b5,List.map_cons,List.map_nil,spv,List.all_cons,List.all_nil,abv,bM,cZ,sZ,Nat.reduceEqDiff,Nat.reduceAdd,Nat.reduceLT,↓reduceIte]
  refine ⟨hi,?_⟩
  repeat' apply hV
  all_goals first | exact hk.1 | exact hk.2 | exact A | exact B
 ·rintro e G ⟨e1,e3,e5,e6,x,y,e7,e8,w,BS⟩
  simp +contextual only [e1,e3,e5,e6,e7,e8,sZ,Nat.reduceEqDiff,↓reduceIte]
  refine aM 0 (fun m (G:List aa)=>PA c H x y i k G)
   (fun m G=>[(1,.int .i64 i),(3,.ai (.ptr c.d 0)),(5,.ai (.int .i64 k)),(6,.ptr H.length 0),(7,.ptr x 0),(8,.ptr y 0),(9,.int .i64 ((m + 1:Nat):Int))]) (fun m G=>G) G ⟨BS,aB _ _ _⟩ fun m G hm BS=>?_
  have hf:eh.cells[m + 1]?=some (.fn (.func (182 + (m + 1))) [] []):=by
   have:m=0∨m=1∨m=2∨m=3:=by omega
   rcases this with rfl | rfl | rfl | rfl <;> rfl
  have en:=V7 (m + 1) _ hf (by omega)
  simp +contextual only [sZ]
  refine aE Mf ?_
  simp +contextual only [mV,en _ rfl,sZ,Nat.reduceEqDiff,Nat.reduceAdd,↓reduceIte,reduceCtorEq]
  refine af ((vL hc hi hk).at (n:=m + 1) (by omega) (by omega) BS.du) ?_
  rintro r G1 ⟨z,rfl,hz,hU,nJ⟩
  have qF:=BS.call hD w hU nJ
  by_cases RM:m=0
  rotate_left
  ·have:z=false:=by
    cases z with
    | false=>rfl
    | true=>exact absurd (hz.1 rfl) (jN (m + 1) (by omega))
   subst this
   simp +contextual only [Bool.not_false,sZ,Nat.reduceEqDiff,↓reduceIte]
   exact ⟨m + 1,G1,⟨by omega,qF⟩,by omega,aD (by rw [au (m + 1) (by omega)]) rfl⟩
  subst RM
  have:z=true:=hz.2 hr
  subst this
  have qT:=qF.len
  have lB:=fun es=>qF.ta w es
  have Vm:=fun es=>(lB es).gp
  have Qa:=fun es=>(lB es).gx
  have Zs:=fun es=>(lB es).gy
  have bS:∀ (o o':aa),(G1++[o]).set (H.length + 3) o'=G1++[o']:=fun o o'=>by rw [← qT];simp
  have ec:((1:Nat):Int)=1:=rfl
  have zf:List.map AV.ab [AV.int .i64 (1:Int),.int .i64 0,.ag,.ag]=[.int .i64 (1:Int),.int .i64 0,.ag,.ag]:=rfl
  have zf0:List.map AV.ab [AV.int .i64 0,.int .i64 0,.ag,.ag]=[.int .i64 0,.int .i64 0,.ag,.ag]:=rfl
  have e86:∀ a b:Int,decide (a=b)=decide (a=b):=fun _ _=>rfl
  simp +contextual only [k2,decide_true,Bool.not_true,Bool.not_true,bdP,qT,Vm,bS,ec,zf,zf0,JM,Qa,sZ,Nat.reduceEqDiff,Nat.reduceAdd,Nat.reduceLT,↓reduceIte,reduceCtorEq]
  have nj:=lB [.int .i64 1,.int .i64 0,.ag,.ag]
  generalize G1++[aa.cells [AV.int .i64 1,.int .i64 0,.ag,.ag]]=G2 at nj ⊢
  have gr:∃ z∈c.kd i,E c.O (c.tm z) (c.tm k)∨R c.O (c.tm z) (c.tm k):=by
   rcases hr with h | h | h | h
   ·exact h.2
   all_goals (exact absurd h.1 (by decide))
  refine af (Mb (SD.BC c G2) ii (by omega) 147 [] [.ai (.ptr c.d 0),.ai (.int .i64 k)] rfl rfl (Q:=fun z=>E c.O (c.tm z) (c.tm k)∨R c.O (c.tm z) (c.tm k))
   (fun z hz G hG=>(ac3 (kD hc (ki.2 z hz) hk) (kF hc (ki.2 z hz) hk) hG.1).mono fun r H' hr=>hr.sb hG) ⟨nj.du,Up.refl c _⟩) ?_
  rintro r G3 ⟨hG3,uX⟩
  rcases uX with ⟨_,uX⟩ | ⟨q,rfl,hq,hQ,_⟩
  ·obtain ⟨z,hz,h⟩:=gr
   exact absurd h (uX z hz)
  have BR:=nj.call hD w hG3.2 hG3.1
  have qS:=fun es=>BR.set (es':=es) hD w
  have gp3:=BR.gp
  have gps:=fun es=>(qS es).gp
  have gxs:=fun es=>(qS es).gx
  have g6s:=fun es=>(qS es).g6
  have jv:(c.kd i).getD q 0∈c.kd i:=aP hq
  have un1:List.map AV.ab [AV.int .i64 (q:Int)]=[.int .i64 (q:Int)]:=rfl
  simp +contextual only [k2,ii.lens,ii.idx,gp3,Vl,un1,gps,gxs,tN,sZ,Nat.reduceEqDiff,Nat.reduceAdd,Nat.reduceLT,Nat.reduceLeDiff,↓reduceIte,reduceCtorEq]
  refine ⟨by omega,?_⟩
  refine af (kD hc (ki.2 _ jv) hk _ (qS _).du) ?_
  rintro r G4 ⟨v,rfl,hv,V4,V5⟩
  have xE:=(qS _).call hD w V4 V5
  have gp4:=xE.gp
  have gx4:=xE.gx
  have g64:=xE.g6
  have cod:∀ l:List PP,((c.tm i).l.getD q default)=c.tm ((c.kd i).getD q 0):=fun _=>by rw [← ki.1,cr hq]
  have klen:(c.tm i).l.length=(c.kd i).length:=by rw [← ki.1];simp
  have ki2:(c.tm i).k=2:=by
   have:=(tq hc hi hk).1
   have hh:=(pU.1 (show R c.O (c.tm i) (c.tm k) from hR)).1
   exact hh
  cases v with
  | true=>
    have hs:Sh c.O (.mk 1 q [] []) (c.tm i) (c.tm k):=by
     rw [Sh1 rfl ki2]
     refine ⟨rfl,⟨by show (0:Int)≤q;omega,by show (q:Int) < _;omega⟩,.inl ⟨rfl,?_⟩⟩
     show E c.O ((c.tm i).l.getD (q:Int).toNat default) (c.tm k)
     rw [tN,cod []];exact hv.1 rfl
    have e4:(AV.int .i64 (q:Int))=AV.int .i64 (q:Int):=rfl
    have lp:=R5 1 q [] []
    obtain ⟨q1,q2,q3,q4,q5,q6,q7,q8,q9⟩:=bf (.mk 1 q [] [])
    have lp2:=Ee (.mk 1 q [] [])
    have Mz:(G4.set H.length (.cells (eC (.mk 1 q [] [])).cells))[H.length]?=some (.cells (eC (.mk 1 q [] [])).cells):=by rw [tO (aO g64)]
    change ∀ φ,cV (some (.cells [.int .i64 1,.int .i64 (q:Int),.ag,.ag])) (some 4) 0 φ=φ (eC (.mk 1 q [] [])) at lp
    simp +contextual only [Bool.not_true,gp4,lp,g64,q1,q2,q3,q9,R7,Mz,lp2,sZ,Nat.reduceEqDiff,Nat.reduceAdd,↓reduceIte,reduceCtorEq]
    refine ⟨by first | exact cB (gk _ _) | omega,xE.fin hD hs⟩
  | false=>
    have hRx:R c.O (c.tm ((c.kd i).getD q 0)) (c.tm k):=hQ.resolve_left fun h=>absurd (hv.2 h) (by simp)
    simp +contextual only [k2,ii.lens,ii.idx,Bool.not_false,gp4,gx4,tN,sZ,Nat.reduceEqDiff,Nat.reduceAdd,Nat.reduceLT,↓reduceIte,reduceCtorEq]
    refine ⟨by omega,af (hp _ jv hRx _ xE.du) ?_⟩
    rintro r G5 ⟨u,rfl,hu,Zt,Zu⟩
    have MA:=xE.call hD w Zt Zu
    have gp5:=MA.gp
    have Gs:=fun es=>MA.set (es':=es) hD w
    have gp6:=fun es=>(Gs es).gp
    have g66:=fun es=>(Gs es).g6
    have hs:Sh c.O (.mk 1 q [] [u]) (c.tm i) (c.tm k):=by
     rw [Sh1 rfl ki2]
     refine ⟨rfl,⟨by show (0:Int)≤q;omega,by show (q:Int) < _;omega⟩,.inr ⟨u,rfl,?_⟩⟩
     show Sh c.O u ((c.tm i).l.getD (q:Int).toNat default) (c.tm k)
     rw [tN,cod []];exact hu
    have lp:=R5 1 q [] [u]
    change ∀ φ,cV (some (.cells [.int .i64 1,.int .i64 (q:Int),.ag,.ap 4 [eC u]])) (some 4) 0 φ=φ (eC (.mk 1 q [] [u])) at lp
    obtain ⟨q1,q2,q3,q4,q5,q6,q7,q8,q9⟩:=bf (.mk 1 q [] [u])
    obtain ⟨u1,u2,u3,u4,u5,u6,u7,u8,u9⟩:=bf u
    have lp2:=Ee (.mk 1 q [] [u])
    have Mz:=fun es=>tO (a:=aa.cells (eC (.mk 1 q [] [u])).cells) (aO (g66 es))
    simp +contextual only [gp5,gp6,g66,lp,q1,q2,q3,q9,R7,Mz,lp2,u1,u2,u6,j3,s3,sZ,Nat.reduceEqDiff,Nat.reduceAdd,Nat.reduceLT,↓reduceIte,reduceCtorEq]
    refine ⟨by first | exact cB (gk _ _) | omega,?_⟩
    exact PB.fin (to:=[]) (l:=[u]) hD (Gs _) hs
end Go.aI
end
section
set_option maxRecDepth 100000
namespace Go.aI
open Go Go.Proofs Go.eJ
theorem Zv {c:Cx} (hc:c.Ok) {i k:Int} (hi:c.dS i) (hk:c.dS k) (hR:R c.O (c.tm i) (c.tm k)) (hr:iF c i k 2) (jN:∀ m,m < 2→¬ iF c i k m) (hp:∀ y∈c.kd k,R c.O (c.tm i) (c.tm y)→pG c i y):pG c i k:=by
 intro H hD
 refine Eb.2.calls rfl ?_
 simp only [Eb,aJ]
 have k2:∀ l,(bt l).ab=bt l:=fun l=>(aG l).2.1
 have ki:=hc.kids i hi
 have kk:=hc.kids k hk
 have l1:=hc.kl i hi
 have l2:=hc.kl k hk
 obtain ⟨a1,a2,a3,a4,a5⟩:=aG (c.kd i)
 obtain ⟨b1,b2,b3,b4,b5⟩:=aG (c.kd k)
 have ii:IL (bt (c.kd i)) (c.kd i):=.inl rfl
 have ik:IL (bt (c.kd k)) (c.kd k):=.inl rfl
 have ei:(c.nd.getD i.toNat default).snd=c.kd i:=rfl
 have ek:(c.nd.getD k.toNat default).snd=c.kd k:=rfl
 obtain ⟨m1,m2,m3⟩:=hD.lt
 have ed:∀ X:List aa,(H++X)[c.d]?=H[c.d]?:=fun X=>tK m1
 have spv:∀ x:AV,ah [AV.ag] 0 [x]=[x]:=fun x=>rfl
 have spq:ah [AV.int .i64 0,.int .i64 0,.ag,.ag] 0 [AV.int .i64 0,.int .i64 0,.ag,.ag]=[AV.int .i64 0,.int .i64 0,.ag,.ag]:=rfl
 simp +contextual only [sZ,Nat.reduceEqDiff,Nat.reduceAdd,↓reduceIte,reduceCtorEq]
 refine mb (K1:=fun e G=>get e 1=.int .i64 i∧get e 3=.ai (.ptr c.d 0)∧get e 5=.ai (.int .i64 k)∧get e 6=.ptr H.length 0∧∃ x y,get e 7=.ptr x 0∧get e 8=.ptr y 0∧XY H x y∧PA c H x y i k G) ?_ ?_
 ·have P0:aa:=.cells [.int .i64 0,.int .i64 0,.ag,.ag]
  have A:∃ x y,AV.ptr (H.length + 1) 0=.ptr x 0∧AV.ptr (H.length + 2) 0=.ptr y 0∧XY H x y∧PA c H x y i k (H++[.cells [.int .i64 0,.int .i64 0,.ag,.ag],.cells [bt (c.kd i)],.cells [bt (c.kd k)]]):=
   ⟨_,_,rfl,rfl,⟨by omega,by omega,by omega,by omega⟩,⟨hD.ta _,by simp,by simp,by simp,by simp,fun j hj _ _=>tK hj⟩⟩
  have B:∃ x y,AV.ptr (H.length + 2) 0=.ptr x 0∧AV.ptr (H.length + 1) 0=.ptr y 0∧XY H x y∧PA c H x y i k (H++[.cells [.int .i64 0,.int .i64 0,.ag,.ag],.cells [bt (c.kd k)],.cells [bt (c.kd i)]]):=
   ⟨_,_,rfl,rfl,⟨by omega,by omega,by omega,by omega⟩,⟨hD.ta _,by simp,by simp,by simp,by simp,fun j hj _ _=>tK hj⟩⟩
  simp +contextual only [ed,hD.d,nc,EI,cJ,b7,k2,ei,ek,a1,a3,a4,a5,b1,b3,b4,b5,List.map_cons,List.map_nil,spv,List.all_cons,List.all_nil,abv,bM,cZ,sZ,Nat.reduceEqDiff,Nat.reduceAdd,Nat.reduceLT,↓reduceIte]
  refine ⟨hi,?_⟩
  repeat' apply hV
  all_goals first | exact hk.1 | exact hk.2 | exact A | exact B
 ·rintro e G ⟨e1,e3,e5,e6,x,y,e7,e8,w,BS⟩
  simp +contextual only [e1,e3,e5,e6,e7,e8,sZ,Nat.reduceEqDiff,↓reduceIte]
  refine aM 1 (fun m (G:List aa)=>PA c H x y i k G)
   (fun m G=>[(1,.int .i64 i),(3,.ai (.ptr c.d 0)),(5,.ai (.int .i64 k)),(6,.ptr H.length 0),(7,.ptr x 0),(8,.ptr y 0),(9,.int .i64 ((m + 1:Nat):Int))]) (fun m G=>G) G ⟨BS,aB _ _ _⟩ fun m G hm BS=>?_
  have hf:eh.cells[m + 1]?=some (.fn (.func (182 + (m + 1))) [] []):=by
   have:m=0∨m=1∨m=2∨m=3:=by omega
   rcases this with rfl | rfl | rfl | rfl <;> rfl
  have en:=V7 (m + 1) _ hf (by omega)
  simp +contextual only [sZ]
  refine aE Mf ?_
  simp +contextual only [mV,en _ rfl,sZ,Nat.reduceEqDiff,Nat.reduceAdd,↓reduceIte,reduceCtorEq]
  refine af ((vL hc hi hk).at (n:=m + 1) (by omega) (by omega) BS.du) ?_
  rintro r G1 ⟨z,rfl,hz,hU,nJ⟩
  have qF:=BS.call hD w hU nJ
  by_cases RM:m=1
  rotate_left
  ·have:z=false:=by
    cases z with
    | false=>rfl
    | true=>exact absurd (hz.1 rfl) (jN (m + 1) (by omega))
   subst this
   simp +contextual only [Bool.not_false,sZ,Nat.reduceEqDiff,↓reduceIte]
   exact ⟨m + 1,G1,⟨by omega,qF⟩,by omega,aD (by rw [au (m + 1) (by omega)]) rfl⟩
  subst RM
  have:z=true:=hz.2 hr
  subst this
  have qT:=qF.len
  have lB:=fun es=>qF.ta w es
  have Vm:=fun es=>(lB es).gp
  have Qa:=fun es=>(lB es).gx
  have Zs:=fun es=>(lB es).gy
  have bS:∀ (o o':aa),(G1++[o]).set (H.length + 3) o'=G1++[o']:=fun o o'=>by rw [← qT];simp
  have ec:((2:Nat):Int)=2:=rfl
  have zf:List.map AV.ab [AV.int .i64 (2:Int),.int .i64 0,.ag,.ag]=[.int .i64 (2:Int),.int .i64 0,.ag,.ag]:=rfl
  have zf0:List.map AV.ab [AV.int .i64 0,.int .i64 0,.ag,.ag]=[.int .i64 0,.int .i64 0,.ag,.ag]:=rfl
  have e86:∀ a b:Int,decide (a=b)=decide (a=b):=fun _ _=>rfl
  simp +contextual only [k2,ik.aL,ik.len (by omega),decide_false,Bool.not_true,Bool.not_true,bdP,qT,Vm,bS,ec,zf,zf0,JM,Zs,sZ,Nat.reduceEqDiff,Nat.reduceAdd,Nat.reduceLT,↓reduceIte,Int.reduceEq]
  have nj:=lB [.int .i64 2,.int .i64 0,.ag,.ag]
  generalize G1++[aa.cells [AV.int .i64 2,.int .i64 0,.ag,.ag]]=G2 at nj ⊢
  have ki2:(c.tm i).k=2:=(pU.1 hR).1
  have vi:tn c i k:=by
   rcases hr with h | h | h | h
   ·exact absurd h.1 (by decide)
   ·exact h.2
   all_goals (exact absurd h.1 (by decide))
  obtain ⟨Ge,aX,hall0⟩:=vi
  have kk2:(c.tm k).k=2:=of_decide_eq_true Ge
  have Vn:∀ qs,me (Sh c.O) qs (c.tm i) ((c.kd k).map c.tm)→Sh c.O (.mk 2 0 [] qs) (c.tm i) (c.tm k):=by
   intro qs hq
   rw [Sh2 rfl ki2]
   rw [kk.1] at hq
   refine ⟨rfl,rfl,kk2,?_,hq⟩
   rw [qy,if_pos kk2,qy,if_pos ki2] at aX;exact aX
  refine lV (Gq hD w (l0:=[]) (by simp) ik l2 (fun z hz=>hp z hz (hall0 z hz)) nj) ?_
  rintro e1 e G6 ⟨rfl,f6,f10,qs,iJ,oJ⟩
  replace oJ:PB c H x y i k [.int .i64 2,.int .i64 0,.ag,pF qs] G6:=oJ
  have gp6:=oJ.gp
  have g66:=oJ.g6
  have lp:=R5 2 0 [] qs
  have tv0:uG []=AV.ag:=rfl
  rw [tv0] at lp
  have hs:Sh c.O (.mk 2 0 [] qs) (c.tm i) (c.tm k):=Vn qs iJ
  obtain ⟨q1,q2,q3,q4,q5,q6,q7,q8,q9⟩:=bf (.mk 2 0 [] qs)
  have lp2:=Ee (.mk 2 0 [] qs)
  have Mz:=tO (a:=aa.cells (eC (.mk 2 0 [] qs)).cells) (aO g66)
  have Qu:aj (H.length + 1) (eC (.mk 2 0 [] qs)).cells=true:=cB (gk _ _)
  have lQ:=PB.fin (to:=[]) (l:=qs) hD oJ hs
  simp +contextual only [f6,f10,gp6,g66,lp,q1,q2,q3,q9,R7,Mz,lp2,Qu,sZ,Nat.reduceEqDiff,Nat.reduceAdd,↓reduceIte,reduceCtorEq]
  first | exact lQ | exact ⟨by omega,lQ⟩ | exact ⟨trivial,lQ⟩
end Go.aI
end
