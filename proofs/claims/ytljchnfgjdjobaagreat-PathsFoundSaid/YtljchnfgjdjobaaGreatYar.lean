/- Part 18 of 19 of the proof. -/
import Derived.Test.YtljchnfgjdjobaaGreatYaq
import Derived.Test.YtljchnfgjdjobaaGreatYag
import Derived.KernelRfl
import Derived.Test.YtljchnfgjdjobaaGreatYap
import Derived.Test.YtljchnfgjdjobaaGreatProg
import Derived.Test.YtljchnfgjdjobaaGreatYaf
import Derived.Test.YtljchnfgjdjobaaGreatYak
import Derived.Test.YtljchnfgjdjobaaGreatYan
import Derived.Test.YtljchnfgjdjobaaGreatYao
import Derived.Test.YtljchnfgjdjobaaGreatRows
import Derived.ProofKit
set_option linter.unusedVariables false
set_option linter.unusedSimpArgs false
set_option linter.defProp false
set_option linter.unusedSectionVars false
section
set_option maxRecDepth 100000
namespace Go.aJ
open Go Go.Proofs Go.eN
theorem xB {vals:List Int}:∀ {n:Nat} {l:List Int},l.length=n→(∀ x∈l,x∈vals)→l∈eZ vals n
 | 0,[],_,_=>by simp [eZ]
 | n + 1,x::r,h,hm=>by
   rw [eZ,adh]
   exact ⟨x,hm x (by simp),aag.2 ⟨r,xB (by simpa using h) (fun y hy=>hm y (by simp [hy])),rfl⟩⟩
theorem HA (t:Ty) (ops pl:List Int):∀ (a:List (List Int)),((dJ (c8 t ops pl) a none).1=none→∀ l∈a,kI t ops pl l=false)∧∀ P S,(dJ (c8 t ops pl) a none).1=some (P,S)→∃ l∈a,kI t ops pl l=true∧P=iY t.s.ops.length ops pl∧S=iZ t.s.ops.length ops l
 | []=>⟨fun _ l hl=>(by cases hl),fun P S h=>by cases h⟩
 | l::r=>by
   obtain ⟨i1,i2⟩:=HA t ops pl r
   rw [dJ]
   by_cases ht:kI t ops pl l=true
   ·have e:c8 t ops pl none l=(some (iY t.s.ops.length ops pl,iZ t.s.ops.length ops l),false):=if_pos ht
    rw [e]
    refine ⟨fun h=>(by cases h),fun P S h=>⟨l,by simp,ht,?_⟩⟩
    cases h;exact ⟨rfl,rfl⟩
   ·have e:c8 t ops pl none l=(none,true):=if_neg ht
    rw [e,if_pos rfl]
    refine ⟨fun h x hx=>?_,fun P S h=>?_⟩
    ·rcases UQ.1 hx with rfl | hx
     ·simpa using ht
     ·exact i1 h x hx
    ·obtain ⟨x,h1,h2⟩:=i2 P S h
     exact ⟨x,by simp [h1],h2⟩
theorem BH (t:Ty) (ops:List Int):∀ (a:List (List Int)),((dJ (eo t ops) a none).1=none→∀ pl∈a,jt pl=true→∀ l∈eZ (cM 1 3) ops.length,kI t ops pl l=false)∧∀ P S,(dJ (eo t ops) a none).1=some (P,S)→∃ pl l,kI t ops pl l=true∧P=iY t.s.ops.length ops pl∧S=iZ t.s.ops.length ops l
 | []=>⟨fun _ l hl=>(by cases hl),fun P S h=>by cases h⟩
 | pl::r=>by
   obtain ⟨i1,i2⟩:=BH t ops r
   rw [dJ]
   by_cases hd:jt pl=true
   ·have e:eo t ops none pl=dJ (c8 t ops pl) (eZ (cM 1 3) ops.length) none:=if_pos hd
    rw [e,vu t ops pl _ none rfl]
    obtain ⟨j1,j2⟩:=HA t ops pl (eZ (cM 1 3) ops.length)
    cases hx:(dJ (c8 t ops pl) (eZ (cM 1 3) ops.length) none).1 with
    | none=>
      rw [Option.isNone_none,if_pos rfl]
      refine ⟨fun h x qp ZT=>?_,fun P S h=>i2 P S h⟩
      rcases UQ.1 qp with rfl | qp
      ·exact j1 hx
      ·exact i1 h x qp ZT
    | some q=>
      rw [Option.isNone_some,if_neg (by simp)]
      refine ⟨fun h=>(by cases h),fun P S h=>?_⟩
      cases h
      obtain ⟨l,_,h2⟩:=j2 P S hx
      exact ⟨pl,l,h2⟩
   ·have e:eo t ops none pl=(none,true):=if_neg hd
    rw [e,if_pos rfl]
    refine ⟨fun h x hx ZT=>?_,fun P S h=>i2 P S h⟩
    rcases UQ.1 hx with rfl | hx
    ·exact absurd ZT hd
    ·exact i1 h x hx ZT
def vz (S:Int→Bool):Nat→Nat
 | 0=>0
 | m + 1=>vz S m + if S m=true then 1 else 0
theorem rX {S:Int→Bool} {a:Nat}:∀ {b:Nat},a≤b→vz S a≤vz S b
 | 0,h=>by
   have:a=0:=by omega
   subst this;exact yo _
 | b + 1,h=>by
   by_cases e:a=b + 1
   ·subst e;exact yo _
   ·have:=rX (S:=S) (show a≤b by omega);rw [vz];omega
theorem MA {S:Int→Bool} {a b:Nat} (hS:S a=true) (h:a < b):vz S a < vz S b:=by
 have:=rX (S:=S) (show a + 1≤b by omega)
 rw [vz,if_pos hS] at this;omega
theorem HB {S:Int→Bool} {v:Nat}:∀ {b:Nat},v < vz S b→∃ a,a < b∧S a=true∧vz S a=v
 | 0,h=>by cases h
 | b + 1,h=>by
   rw [vz] at h
   by_cases h1:v < vz S b
   ·obtain ⟨a,h2,h3⟩:=HB h1;exact ⟨a,by omega,h3⟩
   ·split at h
    ·rename_i hb;exact ⟨b,by omega,hb,by omega⟩
    ·omega
theorem Eh (x:Int) (r:List Int):∀ m:Nat,vz (fun q=>decide (q∈x::r)) m≤vz (fun q=>decide (q∈r)) m + if x < m then 1 else 0
 | 0=>by simp [vz]
 | m + 1=>by
   have ih:=Eh x r m
   rw [vz,vz]
   by_cases h:(m:Int)∈r
   ·rw [if_pos (by simp [h]),if_pos (by simp [h])]
    split at ih <;> split <;> omega
   ·rw [if_neg (show ¬ decide ((m:Int)∈r)=true by simp [h])]
    by_cases e:(m:Int)=x
    ·subst e
     rw [if_pos (by simp),if_pos (by omega)]
     rw [if_neg (by omega)] at ih;omega
    ·rw [if_neg (by simp [h,e])]
     split at ih <;> split <;> omega
theorem HC:∀ (l:List Int) (m:Nat),vz (fun q=>decide (q∈l)) m≤l.length
 | [],m=>by
   have:∀ m,vz (fun q=>decide (q∈([]:List Int))) m=0:=fun m=>by
    induction m with
    | zero=>rfl
    | succ m ih=>rw [vz,ih];simp
   rw [this];exact yo _
 | x::r,m=>by
   have h1:=Eh x r m
   have h2:=HC r m
   rw [List.length_cons]
   split at h1 <;> omega
theorem oC (f:Int→Int):∀ (ops l:List Int),(∀ i∈ops,0≤i∧i < l.length)→∀ x:Nat,(dG l ops (ops.map f)).getD x 0=if (x:Int)∈ops then f x else l.getD x 0
 | [],l,_,x=>by cases l <;> simp [dG]
 | i::r,l,h,x=>by
   rw [List.map_cons,dG,oC f r _ (fun j hj=>by rw [acD];exact h j (by simp [hj]))]
   obtain ⟨h0,h1⟩:=h i (by simp)
   by_cases hx:(x:Int)∈r
   ·rw [if_pos hx,if_pos (by simp [hx])]
   ·rw [if_neg hx]
    by_cases e:(x:Int)=i
    ·rw [if_pos (by simp [e])]
     have:i.toNat=x:=by omega
     rw [this,sc,Rx (by omega)];simp [e]
    ·rw [if_neg (by simp [hx,e]),sc,yq (by omega),← sc]
theorem MB {x:Int} {t y:T} (h:y∈t.l) (hx:rT x y=true):rT x t=true:=by
 cases t with
 | mk k n l=>rw [rT,ab0];exact .inr (rV.2 ⟨y,h,hx⟩)
theorem HD {p q:Int→Prop}:∀ {t:T},(∀ x,rT x t=true→q x→p x)→nE q t→nE p t
 | .mk k n l,h,ha=>.mk _ _ _ (fun hk=>h n (by rw [rT,ab0,decide_eq_true_eq];exact .inl ⟨hk,rfl⟩) (ha.op hk)) (fun x hx=>HD (fun y hy hq=>h y (MB (t:=.mk k n l) hx hy) hq) (ha.mem hx))
termination_by t=>SizeOf.sizeOf t
decreasing_by exact T.lt (show _∈(T.mk k n l).l from hx)
theorem MC {l:List Int} {j:Nat} (h:(j:Int)≤yj l):∃ x∈l,(j:Int)≤x:=by
 refine Classical.byContradiction fun hn=>?_
 have:=foldl_max l (-1) ((j:Int) - 1) (by omega) (fun y hy=>by
  refine Classical.byContradiction fun UT=>hn ⟨y,hy,by omega⟩)
 unfold yj at h
 omega
theorem MD {t:Ty} (hT:rW t=0) (h4:(sg t).length≤4) (hN:nB t (sg t)=none) {ps ss:List Int} (hO:eT t.s ps ss=0) (hB:¬ 0≤ej t ps ss):False:=by
 have hr:∀ i∈sg t,0≤i∧i < t.s.ops.length:=fun i hi=>by
  have:=pf.1 hi;exact ⟨this.1,this.2.1⟩
 obtain ⟨ops,tE⟩:∃ ops,sg t=ops:=⟨_,rfl⟩
 rw [tE] at hr hN h4
 obtain ⟨hs,hlp,hls,hU⟩:=lO.1 hO
 let f:Int→Int:=fun i=>ps.getD i.toNat 0
 let S:Int→Bool:=fun q=>decide (q∈ops.map f)
 let g:Int→Int:=fun i=>(vz S (f i).toNat:Int)
 let h:Int→Int:=fun i=>ss.getD i.toNat 0
 have hf:∀ i∈ops,0≤f i∧f i≤255∧1≤h i∧h i≤3:=fun i hi=>hU.Qj i.toNat (by have:=hr i hi;omega)
 have hS:∀ i∈ops,S ((f i).toNat:Int)=true:=fun i hi=>by
  have:=(hf i hi).1
  have e:((f i).toNat:Int)=f i:=by omega
  rw [e];exact decide_eq_true (aag.2 ⟨i,hi,rfl⟩)
 have hk:vz S 256≤ops.length:=by have:=HC (ops.map f) 256;rwa [acW] at this
 have uN:ops.map g∈eZ (cM 0 ops.length) ops.length:=xB (by simp) fun x hx=>by
  obtain ⟨i,hi,rfl⟩:=aag.1 hx
  have h1:=hf i hi
  have:=MA (hS i hi) (show (f i).toNat < 256 by omega)
  exact pc.2 ⟨by simp only [g];omega,by simp only [g];omega⟩
 have bP:ops.map h∈eZ (cM 1 3) ops.length:=xB (by simp) fun x hx=>by
  obtain ⟨i,hi,rfl⟩:=aag.1 hx
  have h1:=hf i hi
  exact pc.2 ⟨by omega,by omega⟩
 have hd:jt (ops.map g)=true:=by
  unfold jt
  rw [aaL]
  intro j hj
  rw [abq] at hj
  obtain ⟨x,hx,hjx⟩:=MC (l:=ops.map g) (j:=j) (by omega)
  obtain ⟨i,hi,rfl⟩:=aag.1 hx
  refine decide_eq_true ?_
  by_cases e:(j:Int)=g i
  ·rw [e];exact hx
  ·obtain ⟨a,h1,h2,h3⟩:=HB (S:=S) (v:=j) (b:=(f i).toNat) (by simp only [g] at e hjx;omega)
   obtain ⟨i',l9,e'⟩:=aag.1 (of_decide_eq_true h2)
   refine aag.2 ⟨i',l9,?_⟩
   simp only [g]
   rw [e',aaa,h3]
 have hF:=(BH t ops _).1 hN _ uN hd _ bP
 have hP:∀ x:Nat,x < t.s.ops.length→(iY t.s.ops.length ops (ops.map g)).getD x 0=if (x:Int)∈ops then g x else 255:=fun x hx=>by
  unfold iY
  rw [oC g ops _ (fun i hi=>by rw [ab4];exact hr i hi)]
  congr 1
  simp [hx]
 have hQ:∀ x:Nat,x < t.s.ops.length→(iZ t.s.ops.length ops (ops.map h)).getD x 0=if (x:Int)∈ops then h x else 1:=fun x hx=>by
  unfold iZ
  rw [oC h ops _ (fun i hi=>by rw [ab4];exact hr i hi)]
  congr 1
  simp [hx]
 have lP:=xt t.s.ops.length ops (ops.map g)
 have lQ:=L9 t.s.ops.length ops (ops.map h)
 unfold kI at hF
 generalize iY t.s.ops.length ops (ops.map g)=P at *
 generalize iZ t.s.ops.length ops (ops.map h)=Q at *
 have glt:∀ i∈ops,∀ j∈ops,(f i < f j↔g i < g j):=fun i hi j hj=>by
  have h1:=hf i hi
  have h2:=hf j hj
  simp only [g]
  constructor
  ·intro aS
   have:=MA (hS i hi) (show (f i).toNat < (f j).toNat by omega);omega
  ·intro aS
   refine Classical.byContradiction fun hn=>?_
   have:=rX (S:=S) (show (f j).toNat≤(f i).toNat by omega);omega
 have gb:∀ i∈ops,0≤g i∧g i≤4:=fun i hi=>by
  have h1:=hf i hi
  have h2:=rX (S:=S) (show (f i).toNat≤256 by omega)
  simp only [g];omega
 have hOk:kG t.s P Q:=by
  refine ⟨lP,lQ,⟨fun j hj=>?_,fun j k hj hk e=>?_⟩⟩
  ·rw [lP] at hj
   rw [hP j hj,hQ j hj]
   split
   ·rename_i hm
    have h1:=gb _ hm
    have h2:=hf _ hm
    omega
   ·omega
  ·rw [lP] at hj hk
   rw [hP j hj,hP k hk] at e
   rw [hQ j hj,hQ k hk]
   by_cases hm:(j:Int)∈ops <;> by_cases BW:(k:Int)∈ops
   ·rw [if_pos hm,if_pos BW] at *
    have h1:=glt _ hm _ BW
    have h2:=glt _ BW _ hm
    exact hU.st j k (by omega) (by omega) (by simp only [f,aaa] at h1 h2;omega)
   ·rw [if_pos hm,if_neg BW] at e
    have:=gb _ hm;omega
   ·rw [if_neg hm,if_pos BW] at e
    have:=gb _ BW;omega
   ·rw [if_neg hm,if_neg BW]
 have ZM:=(lO.1 hO).2.va
 have hvb:=hOk.va
 have Vj:Go.eN.Alike (ko ps ss) (ko P Q) (fun x=>x∈ops):=by
  refine ⟨fun i j hi hj=>?_,fun i hi=>?_⟩
  ·have h1:=hr i hi
   have h2:=hr j hj
   have e1:=hP i.toNat (by omega)
   have e2:=hP j.toNat (by omega)
   rw [show ((i.toNat:Nat):Int)=i by omega,if_pos hi] at e1
   rw [show ((j.toNat:Nat):Int)=j by omega,if_pos hj] at e2
   show ps.getD i.toNat 0 < ps.getD j.toNat 0↔P.getD i.toNat 0 < P.getD j.toNat 0
   rw [e1,e2]
   exact glt i hi j hj
  ·have h1:=hr i hi
   have e1:=hQ i.toNat (by omega)
   rw [show ((i.toNat:Nat):Int)=i by omega,if_pos hi] at e1
   show Lz ps ss (ps.getD i.toNat 0)=Lz P Q (P.getD i.toNat 0)
   rw [ZM.sp (by omega),hvb.sp (by omega),e1]
 have hD:∀ e∈t.es,Jh P Q e:=fun e he y hy=>by
  have hq:rN ps ss e=true:=by
   unfold ej at hB
   rw [rO] at hB
   cases hc:rN ps ss e with
   | true=>rfl
   | false=>exact absurd ⟨e,he,by rw [hc];rfl⟩ hB
  have hq:Jh ps ss e:=by simpa [rN] using hq
  have jv:=(uA hT).eq e he (List.replicate t.s.ops.length 0) (by simp)
  have ha:∀ u∈e.a::e.rest,nE (fun x=>x∈ops) u:=fun u hu=>HD (fun x hx hq=>by
   rw [ab4] at hq
   rw [← tE]
   exact pf.2 ⟨hq.1,hq.2,e,he,u,hu,hx⟩) (jv.ops u hu)
  exact (PI Vj (ha e.a (by simp)) (ha y (by simp [hy]))).1 (hq y hy)
 have pr:ej t P Q < 0:=by
  refine Int.not_le.1 fun hc=>?_
  unfold ej at hc
  rw [rO] at hc
  obtain ⟨e,he,hx⟩:=hc
  have:=hD e he
  simp [rN,this] at hx
 simp [lO.2 ⟨hs,hOk⟩,pr] at hF
theorem BI {t:Ty} {ps ss:List Int} (h:rW t=0):yn (rW t) t ps ss=0↔eT t.s ps ss=0∧¬ 0≤ej t ps ss:=by
 by_cases ho:eT t.s ps ss=0
 ·have hb:mV (rW t) t ps ss=(max (ej t ps ss) 0,decide (0≤ej t ps ss),0):=by
   unfold mV;rw [if_neg (by omega),if_neg (by omega)]
  unfold yn
  rw [hb]
  by_cases hb:0≤ej t ps ss <;> simp [hb,ho]
 ·have hb:mV (rW t) t ps ss=(0,false,eT t.s ps ss):=by
   unfold mV;rw [if_neg (by omega),if_pos ho]
  unfold yn
  rw [hb]
  simp [ho]
theorem ME {t:Ty} (hT:rW t=0) {P S:List Int} (h:nB t (sg t)=some (P,S)):yn (rW t) t P S=0:=by
 obtain ⟨pl,l,h1,rfl,rfl⟩:=(BH t (sg t) _).2 P S h
 unfold kI at h1
 have:=of_decide_eq_true h1
 exact (BI hT).2 ⟨this.1,by omega⟩
end Go.aJ
end
section
set_option maxRecDepth 100000
set_option maxHeartbeats 0
namespace Go.aJ
open Go Go.Proofs
end Go.aJ
end
section
set_option maxRecDepth 100000
set_option maxHeartbeats 1000000
namespace Go.aJ
open Go Go.Proofs Go.eN
section
variable {e id i n cap:Nat}
end
end Go.aJ
end
section
set_option maxRecDepth 100000
set_option maxHeartbeats 1000000
namespace Go.aJ
open Go Go.Proofs Go.eN
theorem rY (b:Nat) (vs:List T) (n m:T) (o:Nat) (ψ:List AV→Prop):bw 3 b (sY vs) (.al o [n.av,m.av]) ψ=((vs.length + 2) * b≤140737488355328∧ψ (bS (vs++[n,m]))):=by
 have jv:sq 3 [n.av,m.av]=True:=FG [n,m]
 cases vs with
 | nil=>simp only [sY,mE,jv];simp [bS]
 | cons v r=>
   show bw 3 b (.al 3 (bS (v::r))) _ ψ=_
   rw [kZ,jv,rn,show bS (v::r)++[n.av,m.av]=bS ((v::r)++[n,m]) from (Bp (v::r) [n,m]).symm]
   simp
theorem HE (vs:List T) (n m:T):AV.al 3 (bS (vs++[n,m]))=sY (vs++[n,m]):=by cases vs <;> rfl
theorem c30 (t:Ty) (H:List aa):aw Tryz.prog 30 [t.av] H fun r H'=>(∃ b,r=.bool b)∧H'=H:=by
 refine k30.2.calls rfl ?_
 simp only [k30,aK]
 obtain ⟨e1,e2,e3,e4,e5,e6⟩:=Ty.facts t
 have fin (G:List aa) (hG:G.take H.length=H) (b:Bool):bV H.length [.t 2] [(2,.bool b)] G fun r H'=>(∃ b,r=.bool b)∧H'=H:=
  aX H.length (yo _) (by rw [aA,if_pos rfl];rfl) ⟨⟨b,by rw [aA,if_pos rfl]⟩,hG⟩
 by_cases h1:(30:Int) < t.es.length
 ·have f:((30:Int) < t.es.length)=True:=eq_true h1
  simp +contextual only [e1,Rk,hJ,f,sZ,Nat.reduceEqDiff,Nat.reduceAdd,↓reduceIte,reduceCtorEq]
  exact fun _=>fin _ (by simp) _
 have f:((30:Int) < t.es.length)=False:=eq_false h1
 simp +contextual only [e1,Rk,hJ,f,sZ,Nat.reduceEqDiff,Nat.reduceAdd,↓reduceIte]
 refine fun _=>aB t.es.length (fun i (l:List T)=>l.length≤42 * i) (fun i l=>[(1,.aj t.av),(3,sY l),(13,.al 0 (jr t.es)),(14,.int .i64 t.es.length),(15,.int .i64 i)]) (fun _ _=>H) [] ⟨by simp,aD _ _ _⟩ fun i l hi hI=>?_
 by_cases hl:i < t.es.length
 rotate_left
 ·have f1:((i:Int) < t.es.length)=False:=eq_false (by omega)
  simp +contextual only [aZ,zO,f1,sZ,Nat.reduceEqDiff,Nat.reduceAdd,↓reduceIte]
  refine CQ (c18 t.s [] [] H) (ys:=[t.s.av,fa [] []]) ⟨.inl rfl,.inr (.inr (.inr (.inr ⟨_,rfl,rfl⟩))),trivial⟩ ?_
  rintro r G ⟨⟨b,rfl,_⟩,rfl⟩
  cases b with
  | false=>simp +contextual only [sZ,Nat.reduceEqDiff,↓reduceIte,reduceCtorEq];exact fin _ (by simp) _
  | true=>
    have e7:(sY l).ae.ae.le (.al 0 (bS l)):=by cases l with | nil=>exact .inr (.inr (.inr (.inl ⟨rfl,0,rfl⟩))) | cons x r=>exact .inl rfl
    simp +contextual only [sZ,Nat.reduceEqDiff,Nat.reduceAdd,↓reduceIte]
    refine CQ (c19 600 l G) (ys:=[.int .i64 600,.al 0 (bS l)]) ⟨.inl rfl,e7,trivial⟩ ?_
    rintro r G2 ⟨⟨b,rfl⟩,rfl⟩
    simp +contextual only [sZ,Nat.reduceEqDiff,↓reduceIte,reduceCtorEq]
    exact fin _ (by simp) _
 have f1:((i:Int) < t.es.length)=True:=eq_true (by omega)
 obtain ⟨q,hq⟩:∃ q,t.es.getD i default=q:=⟨_,rfl⟩
 obtain ⟨g1,g2,g3,g4,g5,g6⟩:=q.facts
 by_cases h2:(20:Int) < q.cs.length
 ·have f2:((20:Int) < q.cs.length)=True:=eq_true h2
  simp +contextual only [g1,g2,g3,kH,idx_eq,rM,Jg,PU,Na,hq,f1,f2,hl,fX,rY,HE,decide_true,sZ,Nat.reduceEqDiff,↓reduceIte,reduceCtorEq]
  exact ⟨by omega,fun _=>fin _ (by simp) _⟩
 have f2:((20:Int) < q.cs.length)=False:=eq_false h2
 by_cases h3:(100:Int) < q.vs.length
 ·have f3:((100:Int) < q.vs.length)=True:=eq_true h3
  simp +contextual only [g1,g2,g3,kH,idx_eq,rM,Jg,PU,Na,Ru,hq,f1,f2,f3,hl,ax,fX,rY,HE,decide_true,decide_false,sZ,Nat.reduceEqDiff,↓reduceIte,reduceCtorEq]
  exact ⟨by omega,fun _ _=>fin _ (by simp) _⟩
 have f3:((100:Int) < q.vs.length)=False:=eq_false h3
 simp +contextual only [g1,g2,g3,kH,idx_eq,rM,Jg,PU,Na,Ru,hq,f1,f2,f3,hl,ax,fX,rY,HE,decide_false,sZ,Nat.reduceEqDiff,↓reduceIte]
 refine ⟨by omega,fun _ _=>aB q.cs.length (fun k (m:List T)=>m.length≤42 * i + 2 + 2 * k) (fun k m=>[(1,.aj t.av),(3,sY m),(13,.al 0 (jr t.es)),(14,.int .i64 t.es.length),(15,.int .i64 i),(37,.al 0 (nw q.cs)),(38,.int .i64 q.cs.length),(39,.int .i64 k)]) (fun _ _=>H) (l++[q.a,q.b]) ⟨by rw [aab];show l.length + 2≤_;omega,aD _ _ _⟩ fun k m hk hK=>?_⟩
 by_cases Cg:k < q.cs.length
 ·have f4:((k:Int) < q.cs.length)=True:=eq_true (by omega)
  obtain ⟨c1,c2,c3,c4,c5,c6⟩:=(q.cs.getD k default).facts
  simp +contextual only [c1,c2,c3,X2,X3,Bo,vn,Hj,f4,Cg,rY,HE,sZ,Nat.reduceEqDiff,↓reduceIte]
  exact ⟨by omega,k + 1,m++[(q.cs.getD k default).a,(q.cs.getD k default).b],⟨Cg,by rw [aab];show m.length + 2≤_;omega⟩,by omega,aE (by rw [ay k (by omega)]) rfl⟩
 ·have f4:((k:Int) < q.cs.length)=False:=eq_false (by omega)
  simp +contextual only [f4,sZ,Nat.reduceEqDiff,↓reduceIte]
  exact ⟨i + 1,m,⟨hl,by omega⟩,by omega,aE (by rw [ay i (by omega)]) rfl⟩
end Go.aJ
end
section
set_option maxRecDepth 100000
set_option maxHeartbeats 0
namespace Go.aJ
open Go Go.Proofs
noncomputable def k14:=aK Tryz.call14 Tryz.func14 Tryz.ntmps14 [(0,0,1),(0,1,1),(5,6,1000),(6,6,1000)] [(0,[2,3]),(1,[2,3,12]),(2,[4]),(3,[2,3,22]),(4,[4]),(5,[2,3,5,6,7]),(6,[2,3,5,6,7,8,9,10]),(7,[2,3,6,7,9,10,58]),(8,[4]),(9,[2,3,6,7,9,10,60]),(10,[4]),(11,[4])] []
end Go.aJ
end
section
set_option maxRecDepth 100000
set_option maxHeartbeats 4000000
namespace Go.aJ
open Go Go.Proofs Go.eN
theorem c14 (t:Ty) (ps ss:List Int):Pure Tryz.prog 14 [t.av,fa ps ss] (.bool true):=by
 refine fun H=>k14.2.calls rfl ?_
 simp only [k14,aK]
 obtain ⟨q1,q2,q3,q4,q5,q6⟩:=bi ps ss
 obtain ⟨e1,e2,e3,e4,e5,e6⟩:=Ty.facts t
 simp +contextual only [q1,e1,sZ,Nat.reduceEqDiff,Nat.reduceAdd,↓reduceIte,reduceCtorEq]
 refine af c17 ?_
 have fin:∀ (G:List aa),G.take H.length=H→bV H.length [.t 4] [(4,.bool true)] G fun r H'=>r=.bool true∧H'=H:=fun G hG=>
  aX H.length (yo _) (by rw [aA,if_pos rfl];rfl) ⟨by rw [aA,if_pos rfl],hG⟩
 simp +contextual only [e4,dq,sZ,Nat.reduceEqDiff,Nat.reduceAdd,↓reduceIte]
 refine ag (c30 t H) ?_
 rintro r G ⟨⟨b1,rfl⟩,rfl⟩
 cases b1 with
 | false=>simp +contextual only [sZ,Nat.reduceEqDiff,↓reduceIte,reduceCtorEq];exact fin _ (by simp)
 | true=>
 simp +contextual only [aZ,q4,cW,zO,sZ,Nat.reduceEqDiff,Nat.reduceAdd,↓reduceIte]
 refine ag (c18 t.s ps ss _) ?_
 rintro r G' ⟨⟨b2,rfl,hb⟩,rfl⟩
 cases b2 with
 | false=>simp +contextual only [sZ,Nat.reduceEqDiff,↓reduceIte,reduceCtorEq];exact fin _ (by simp)
 | true=>
 have Vh:=hb rfl
 have hn:t.s.ops.length≤1000000:=by have:=Vh.h1;omega
 have RE:(sg t).length≤1000000:=abY lU hn
 have hr:∀ i∈sg t,0≤i∧i < t.s.ops.length:=fun i hi=>by
  have:=pf.1 hi;exact ⟨this.1,this.2.1⟩
 have c35t:=c35 (c62 t) (fun _=>c92 t hn) uA (fun _=>hr) RE
 have c33t (P S:List Int):=c33 (c62 t) uA P S
 obtain ⟨P1,S1,ef⟩:=tB (BP (rW t) t (sg t)).1
 obtain ⟨v1,v2,v3,v4,v5,v6⟩:=bi P1 S1
 by_cases hT:rW t=0
 rotate_left
 ·have hf:BP (rW t) t (sg t)=(none,rW t):=by unfold BP;rw [if_pos hT]
  rw [hf] at c35t ef
  have ef:Uy none=fa P1 S1:=ef
  rw [ef] at c35t
  have f1:(rW t=0)=False:=eq_false hT
  simp +contextual only [e4,dq,sZ,Nat.reduceEqDiff,Nat.reduceAdd,↓reduceIte]
  refine af c35t ?_
  simp +contextual only [e4,dq,v1,v2,v3,v4,adj,sZ,Nat.reduceEqDiff,Nat.reduceAdd,Nat.reduceLT,↓reduceIte]
  refine ag (c52 t (fun _=>hn) _) ?_
  rintro r G ⟨rfl,hG⟩
  rcases hG with ⟨_,rfl⟩ | ⟨h,_⟩ | ⟨h,_⟩
  ·obtain ⟨w1,w2,w3,w4,w5,w6⟩:=bi [] []
   simp +contextual only [w1,w2,w3,w4,f1,decide_false,decide_true,not_false_eq_true,sZ,Nat.reduceEqDiff,Nat.reduceAdd,Nat.reduceLT,↓reduceIte,reduceCtorEq]
   exact fin _ (by simp)
  ·exact absurd h hT
  ·exact absurd h hT
 by_cases h4:4 < (sg t).length
 ·have hf:BP (rW t) t (sg t)=(none,2):=by unfold BP;rw [if_neg (by omega),if_pos h4]
  rw [hf] at c35t ef
  have ef:Uy none=fa P1 S1:=ef
  rw [ef] at c35t
  simp +contextual only [e4,dq,sZ,Nat.reduceEqDiff,Nat.reduceAdd,↓reduceIte]
  refine af c35t ?_
  simp +contextual only [e4,dq,v1,v2,v3,v4,adj,sZ,Nat.reduceEqDiff,Nat.reduceAdd,Nat.reduceLT,↓reduceIte]
  refine ag (c52 t (fun _=>hn) _) ?_
  rintro r G ⟨rfl,hG⟩
  rcases hG with ⟨h,_⟩ | ⟨_,h,_⟩ | ⟨_,_,P,S,b,rfl,hb⟩
  ·exact absurd hT h
  ·omega
  ·obtain ⟨w1,w2,w3,w4,w5,w6⟩:=bi P S
   cases b with
   | false=>
     simp +contextual only [w1,w2,w3,w4,decide_false,decide_true,not_false_eq_true,sZ,Nat.reduceEqDiff,Nat.reduceAdd,Nat.reduceLT,↓reduceIte,reduceCtorEq,Int.reduceEq]
     exact fin _ (by simp)
   | true=>
     have hc:=c33t P S
     rw [(BI hT).2 (hb rfl)] at hc
     simp +contextual only [w1,w2,w3,w4,cW,dq,e4,decide_false,decide_true,sZ,Nat.reduceEqDiff,Nat.reduceAdd,Nat.reduceLT,↓reduceIte,Int.reduceEq]
     refine af hc ?_
     simp +contextual only [decide_false,not_true_eq_false,decide_true,not_false_eq_true,sZ,Nat.reduceEqDiff,↓reduceIte,reduceCtorEq,Int.reduceEq]
     exact fin _ (by simp)
 have hf:BP (rW t) t (sg t)=(nB t (sg t),0):=by unfold BP;rw [if_neg (by omega),if_neg h4]
 rw [hf] at c35t ef
 have ef:Uy (nB t (sg t))=fa P1 S1:=ef
 rw [ef] at c35t
 simp +contextual only [e4,dq,sZ,Nat.reduceEqDiff,Nat.reduceAdd,↓reduceIte]
 refine af c35t ?_
 simp +contextual only [e4,dq,v1,v2,v3,v4,sZ,Nat.reduceEqDiff,Nat.reduceAdd,Nat.reduceLT,↓reduceIte]
 refine ag (c52 t (fun _=>hn) _) ?_
 rintro r G ⟨rfl,hG⟩
 rcases hG with ⟨h,_⟩ | ⟨_,_,rfl⟩ | ⟨_,h,_⟩
 ·exact absurd hT h
 rotate_left
 ·omega
 rw [ef]
 cases hF:nB t (sg t) with
 | none=>
   have hc:=c33t ps ss
   have eU:yn (rW t) t ps ss≠0:=fun h=>by
    have:=(BI hT).1 h
    exact MD hT (by omega) hF this.1 this.2
   have f1:(yn (rW t) t ps ss=0)=False:=eq_false eU
   simp +contextual only [v1,v2,v3,v4,cW,dq,e4,adj,decide_false,decide_true,q4,sZ,Nat.reduceEqDiff,Nat.reduceAdd,Nat.reduceLT,↓reduceIte]
   refine af hc ?_
   simp +contextual only [f1,decide_true,not_false_eq_true,sZ,Nat.reduceEqDiff,↓reduceIte,reduceCtorEq]
   exact fin _ (by simp)
 | some q=>
   obtain ⟨P,S⟩:=q
   have hc:=c33t P S
   rw [ME hT hF] at hc
   rw [hF] at ef
   have ef:fa P S=fa P1 S1:=ef
   rw [ef] at hc
   simp +contextual only [v1,v2,v3,v4,cW,dq,e4,adU,decide_true,sZ,Nat.reduceEqDiff,Nat.reduceAdd,Nat.reduceLT,↓reduceIte]
   refine af hc ?_
   simp +contextual only [v4,cW,dq,e4,decide_false,not_true_eq_false,decide_true,sZ,Nat.reduceEqDiff,Nat.reduceAdd,↓reduceIte]
   refine af hc ?_
   simp +contextual only [decide_false,not_true_eq_false,decide_true,sZ,Nat.reduceEqDiff,↓reduceIte,reduceCtorEq]
   exact fin _ (by simp)
end Go.aJ
end
section
set_option maxRecDepth 100000
namespace Go.aJ
open Go Go.RowKit Go.eN
section
variable {H:Type} {enc:TypeId×Value→H} {P:Program} {w:World} {base:Nat} {sp:Nat→Bool} {held:Bool}
def Rd {H:Type} (enc:TypeId×Value→H) (P:Program) (w:World) (base:Nat) (sp:Nat→Bool) (held:Bool) {α:Type} (t:TypeId) (g:α→AV) (R:DataW H→α→Prop):Prop:=
 ∀ (fuel:Nat) (cs:List Value) (x:DataW H×List MemPlace),DataW.trod enc P w base sp held fuel t cs=some x→∃ a,aI (dY w) [] cs (g a).cells∧R x.1 a
theorem MF {ti:TypeId} (h:P.underlying ti=some (.int .i64)):Rd enc P w base sp held ti (fun n:Int=>.int .i64 n) (fun _ _=>True):=by
 intro fuel cs x hx
 obtain ⟨k,rfl,_,_⟩:=DataW.trod_int h hx
 exact ⟨k,.cons _ _ _ _ (.int _ _) .nil,trivial⟩
theorem MG {ti:TypeId} (h:P.underlying ti=some .string):Rd enc P w base sp held ti (fun s:ByteArray=>.str s) (fun _ _=>True):=by
 intro fuel cs x hx
 obtain ⟨k,rfl,_,_⟩:=DataW.trod_string h hx
 exact ⟨k,.cons _ _ _ _ (.str _) .nil,trivial⟩
def xC {α:Type} (d:DataW H) (l:List α):Prop:=match d with | .slice es _=>l.length=es.length | _=>l=[]
theorem oD {α:Type} [Inhabited α] {te tl:TypeId} {g:α→AV} {R:DataW H→α→Prop} {e:Nat} (hl:P.underlying tl=some (.slice te)) (hc:P.cellsOf te=e) (he:0 < e) (h:Rd enc P w base sp held te g R) :
 Rd enc P w base sp held tl (fun l:List α=>.al 0 (l.map g)) xC:=by
 intro fuel cs x hx
 rcases DataW.trod_slice hl hx with ⟨rfl,rfl⟩ | ⟨a,len,cap,elems,rest,m,hm,rfl,rfl,hb,hle,cA,UW,jJ,_,_⟩
 ·exact ⟨[],.cons _ _ _ _ aT.ah.drop .nil,rfl⟩
 ·rw [hc] at jJ
  have hex:∀ i,i < len→∃ t:α,∃ cs',w.cells? base (a.add (i * e)) e=some cs'∧aI (dY w) [] cs' (g t).cells:=by
   intro i hi
   have:=jJ i hi
   rw [aap (by omega)] at this
   obtain ⟨cs',k1,k2⟩:=Option.bind_eq_some_iff.1 this
   obtain ⟨t,ht,_⟩:=h _ _ _ k2
   exact ⟨t,cs',k1,ht⟩
  have hf:∃ f:Nat→α,∀ i,i < len→∃ cs',w.cells? base (a.add (i * e)) e=some cs'∧aI (dY w) [] cs' (g (f i)).cells:=by
   refine ⟨fun i=>if hi:i < len then Classical.choose (hex i hi) else default,fun i hi=>?_⟩
   simp only [dif_pos hi]
   exact Classical.choose_spec (hex i hi)
  obtain ⟨f,hf⟩:=hf
  refine ⟨(List.range len).map f,.cons _ _ _ _ ?_ .nil,by simp [xC,UW]⟩
  show aT (dY w) [] _ (.al 0 (((List.range len).map f).map g))
  rw [adp]
  refine zc (e:=e) (base:=base) he hle cA (fun i=>if hi:i < len then Classical.choose (hf i hi) else []) _ fun i hi=>?_
  simp only [dif_pos hi]
  exact Classical.choose_spec (hf i hi)
structure nk (P:Program) (ti ts tis tss top tops tsig:TypeId):Prop where
 int:P.underlying ti=some (.int .i64)
 str:P.underlying ts=some .string
 ints:P.underlying tis=some (.slice ti)
 strs:P.underlying tss=some (.slice ts)
 op:∃ f0 f1 f2:Field,P.underlying top=some (.struct #[f0,f1,f2])∧f0.type=ts∧f0.offset=0∧f1.type=tis∧f1.offset=1∧f2.type=ti∧f2.offset=2
 ops:P.underlying tops=some (.slice top)
 sig:∃ f0 f1:Field,P.underlying tsig=some (.struct #[f0,f1])∧f0.type=tss∧f0.offset=0∧f1.type=tops∧f1.offset=1
 c:P.cellsOf ti=1∧P.cellsOf ts=1∧P.cellsOf tis=1∧P.cellsOf tss=1∧P.cellsOf top=3∧P.cellsOf tops=1∧P.cellsOf tsig=2
variable {ti ts tis tss top tops tsig:TypeId}
theorem km {v:List Value} {x:AV} (h:aI (dY w) [] v [x]):∃ u,v=[u]∧aT (dY w) [] u x:=by
 cases h with
 | cons v x vs xs h t=>cases t;exact ⟨_,rfl,h⟩
theorem vA (S:nk P ti ts tis tss top tops tsig):Rd enc P w base sp held tis (fun l:List Int=>.al 0 (ints l)) xC:=oD S.ints S.c.1 (by decide) (MF S.int)
theorem Qb (S:nk P ti ts tis tss top tops tsig):Rd enc P w base sp held tss (fun l:List ByteArray=>.al 0 (strs l)) xC:=oD S.strs S.c.2.1 (by decide) (MG S.str)
theorem Zc (S:nk P ti ts tis tss top tops tsig):Rd enc P w base sp held top jq.av (fun _ _=>True):=by
 intro fuel cs x h
 obtain ⟨f0,f1,f2,hu,h0,o0,h1,o1,h2,o2⟩:=S.op
 obtain ⟨c1,c2,c3,c4,c5,c6,c7⟩:=S.c
 obtain ⟨xs,m,rfl,rfl,hlen,ew,hf⟩:=DataW.trod_struct hu h
 have g0:=hf 0 f0 rfl
 have g1:=hf 1 f1 rfl
 have g2:=hf 2 f2 rfl
 rw [h0,o0,c2] at g0
 rw [h1,o1,c3] at g1
 rw [h2,o2,c1] at g2
 simp at ew
 rw [c5] at hlen
 match cs,hlen with
 | [a,b,c],_=>
   have e0:xs[0]?=some xs[0]:=by simp [ew]
   have e1:xs[1]?=some xs[1]:=by simp [ew]
   have e2:xs[2]?=some xs[2]:=by simp [ew]
   rw [e0] at g0;rw [e1] at g1;rw [e2] at g2
   obtain ⟨nm,r0,_⟩:=MG S.str _ _ _ g0
   obtain ⟨ar,r1,_⟩:=vA S _ _ _ g1
   obtain ⟨re,r2,_⟩:=MF S.int _ _ _ g2
   obtain ⟨_,q0,r0⟩:=km r0
   obtain ⟨_,q1,r1⟩:=km r1
   obtain ⟨_,q2,r2⟩:=km r2
   simp at q0 q1 q2
   subst q0 q1 q2
   exact ⟨⟨nm,ar,re⟩,.cons _ _ _ _ r0 (.cons _ _ _ _ r1 (.cons _ _ _ _ r2 .nil)),trivial⟩
theorem UJ (S:nk P ti ts tis tss top tops tsig):Rd enc P w base sp held tops (fun l:List jq=>.al 0 (oq l)) xC:=oD S.ops S.c.2.2.2.2.1 (by decide) (Zc S)
theorem UK (S:nk P ti ts tis tss top tops tsig):Rd enc P w base sp held tsig Sg.av (fun _ _=>True):=by
 intro fuel cs x h
 obtain ⟨f0,f1,hu,h0,o0,h1,o1⟩:=S.sig
 obtain ⟨c1,c2,c3,c4,c5,c6,c7⟩:=S.c
 obtain ⟨xs,m,rfl,rfl,hlen,ew,hf⟩:=DataW.trod_struct hu h
 have g0:=hf 0 f0 rfl
 have g1:=hf 1 f1 rfl
 rw [h0,o0,c4] at g0
 rw [h1,o1,c6] at g1
 simp at ew
 rw [c7] at hlen
 match cs,hlen with
 | [a,b],_=>
   have e0:xs[0]?=some xs[0]:=by simp [ew]
   have e1:xs[1]?=some xs[1]:=by simp [ew]
   rw [e0] at g0;rw [e1] at g1
   obtain ⟨nm,r0,_⟩:=Qb S _ _ _ g0
   obtain ⟨ar,r1,_⟩:=UJ S _ _ _ g1
   obtain ⟨_,q0,r0⟩:=km r0
   obtain ⟨_,q1,r1⟩:=km r1
   simp at q0 q1
   subst q0 q1
   exact ⟨⟨nm,ar⟩,.cons _ _ _ _ r0 (.cons _ _ _ _ r1 .nil),trivial⟩
structure UL (P:Program) (tis tod:TypeId):Prop where
 od:∃ f0 f1:Field,P.underlying tod=some (.struct #[f0,f1])∧f0.type=tis∧f0.offset=0∧f1.type=tis∧f1.offset=1
 c:P.cellsOf tod=2
theorem Zd (S:nk P ti ts tis tss top tops tsig) {tod:TypeId} (O:UL P tis tod):Rd enc P w base sp held tod (fun o:List Int×List Int=>fa o.1 o.2) (fun _ _=>True):=by
 intro fuel cs x h
 obtain ⟨f0,f1,hu,h0,o0,h1,o1⟩:=O.od
 obtain ⟨c1,c2,c3,c4,c5,c6,c7⟩:=S.c
 obtain ⟨xs,m,rfl,rfl,hlen,ew,hf⟩:=DataW.trod_struct hu h
 have g0:=hf 0 f0 rfl
 have g1:=hf 1 f1 rfl
 rw [h0,o0,c3] at g0
 rw [h1,o1,c3] at g1
 simp at ew
 rw [O.c] at hlen
 match cs,hlen with
 | [a,b],_=>
   have e0:xs[0]?=some xs[0]:=by simp [ew]
   have e1:xs[1]?=some xs[1]:=by simp [ew]
   rw [e0] at g0;rw [e1] at g1
   obtain ⟨nm,r0,_⟩:=vA S _ _ _ g0
   obtain ⟨ar,r1,_⟩:=vA S _ _ _ g1
   obtain ⟨_,q0,r0⟩:=km r0
   obtain ⟨_,q1,r1⟩:=km r1
   simp at q0 q1
   subst q0 q1
   exact ⟨(nm,ar),.cons _ _ _ _ r0 (.cons _ _ _ _ r1 .nil),trivial⟩
theorem Qc (S:nk P ti ts tis tss top tops tsig) {tod:TypeId} (O:UL P tis tod) {r:Reach} {b0:Nat} {v:Value} {d:DataW H} {ps:List MemPlace} (ph:Value.okWide P w r b0 tod v) (hd:DataW.Trod enc P w base sp held tod v d ps):∃ pl st:List Int,aT (dY w) [] v (fa pl st):=by
 obtain ⟨f0,f1,hu,_⟩:=O.od
 obtain ⟨cs,rfl,_⟩:=WideShapes.okWide_struct hu ph
 obtain ⟨fuel,hf⟩:=hd
 obtain ⟨o,h1,_⟩:=Zd S O _ _ _ hf
 refine ⟨o.1,o.2,?_⟩
 have:aT (dY w) [] (.agg cs.toList.toArray) (fa o.1 o.2):=.agg _ _ h1
 simpa using this
end
end Go.aJ
end
section
set_option maxRecDepth 100000
namespace Go.aJ
open Go Go.RowKit Go.eN
section
variable {H:Type} {enc:TypeId×Value→H} {P:Program} {w:World} {base:Nat} {sp:Nat→Bool} {held:Bool}
variable {ti ts tis tss top tops tsig tt tl tc tcs tq tqs ty:TypeId}
structure Gh (P:Program) (tis tsig tt tc tcs tq tqs ty:TypeId):Prop where
 pair:∃ f0 f1:Field,P.underlying tc=some (.struct #[f0,f1])∧f0.type=tt∧f0.offset=0∧f1.type=tt∧f1.offset=3
 Ze:P.underlying tcs=some (.slice tc)
 eqn:∃ f0 f1 f2 f3:Field,P.underlying tq=some (.struct #[f0,f1,f2,f3])∧(f0.type=tis∧f0.offset=0)∧(f1.type=tcs∧f1.offset=1)∧(f2.type=tt∧f2.offset=2)∧(f3.type=tt∧f3.offset=5)
 acU:P.underlying tqs=some (.slice tq)
 typ:∃ f0 f1:Field,P.underlying ty=some (.struct #[f0,f1])∧f0.type=tsig∧f0.offset=0∧f1.type=tqs∧f1.offset=2
 c:P.cellsOf tc=6∧P.cellsOf tcs=1∧P.cellsOf tq=8∧P.cellsOf tqs=1∧P.cellsOf ty=3
theorem Qd (hT:mM P ti tt tl):Rd enc P w base sp held tt T.av (fun _ _=>True):=by
 intro fuel cs x hx
 obtain ⟨t,h1,_⟩:=(I4 hT fuel).1 _ _ hx
 exact ⟨t,h1,trivial⟩
theorem Zf (hT:mM P ti tt tl) (Y:Gh P tis tsig tt tc tcs tq tqs ty):Rd enc P w base sp held tc Cn.av (fun _ _=>True):=by
 intro fuel cs x h
 obtain ⟨f0,f1,hu,h0,o0,h1,o1⟩:=Y.pair
 obtain ⟨c1,c2,c3,c4,c5⟩:=Y.c
 obtain ⟨xs,m,rfl,rfl,hlen,ew,hf⟩:=DataW.trod_struct hu h
 have g0:=hf 0 f0 rfl
 have g1:=hf 1 f1 rfl
 rw [h0,o0,hT.c3] at g0
 rw [h1,o1,hT.c3] at g1
 simp at ew
 rw [c1] at hlen
 match cs,hlen with
 | [a,b,c,d,e,f],_=>
   have e0:xs[0]?=some xs[0]:=by simp [ew]
   have e1:xs[1]?=some xs[1]:=by simp [ew]
   rw [e0] at g0;rw [e1] at g1
   obtain ⟨⟨k,n,l⟩,r0,_⟩:=Qd hT _ _ _ g0
   obtain ⟨⟨k',n',l'⟩,r1,_⟩:=Qd hT _ _ _ g1
   have r0':aI (dY w) [] [a,b,c] [.int .i64 k,.int .i64 n,.al 0 (bS l)]:=r0
   have r1':aI (dY w) [] [d,e,f] [.int .i64 k',.int .i64 n',.al 0 (bS l')]:=r1
   exact ⟨⟨.mk k n l,.mk k' n' l'⟩,r0'.append r1',trivial⟩
theorem UM (hT:mM P ti tt tl) (Y:Gh P tis tsig tt tc tcs tq tqs ty):Rd enc P w base sp held tcs (fun l:List Cn=>.al 0 (nw l)) xC:=oD Y.Ze Y.c.1 (by decide) (Zf hT Y)
theorem UN (S:nk P ti ts tis tss top tops tsig) (hT:mM P ti tt tl) (Y:Gh P tis tsig tt tc tcs tq tqs ty):Rd enc P w base sp held tq gL.av (fun _ _=>True):=by
 intro fuel cs x h
 obtain ⟨f0,f1,f2,f3,hu,⟨h0,o0⟩,⟨h1,o1⟩,⟨h2,o2⟩,⟨h3,o3⟩⟩:=Y.eqn
 obtain ⟨c1,c2,c3,c4,c5⟩:=Y.c
 obtain ⟨xs,m,rfl,rfl,hlen,ew,hf⟩:=DataW.trod_struct hu h
 have g0:=hf 0 f0 rfl
 have g1:=hf 1 f1 rfl
 have g2:=hf 2 f2 rfl
 have g3:=hf 3 f3 rfl
 rw [h0,o0,S.c.2.2.1] at g0
 rw [h1,o1,c2] at g1
 rw [h2,o2,hT.c3] at g2
 rw [h3,o3,hT.c3] at g3
 simp at ew
 rw [c3] at hlen
 match cs,hlen with
 | [a,b,c,d,e,f,g,i],_=>
   have e0:xs[0]?=some xs[0]:=by simp [ew]
   have e1:xs[1]?=some xs[1]:=by simp [ew]
   have e2:xs[2]?=some xs[2]:=by simp [ew]
   have e3:xs[3]?=some xs[3]:=by simp [ew]
   rw [e0] at g0;rw [e1] at g1;rw [e2] at g2;rw [e3] at g3
   obtain ⟨vs,r0,_⟩:=vA S _ _ _ g0
   obtain ⟨cn,r1,_⟩:=UM hT Y _ _ _ g1
   obtain ⟨⟨k,n,l⟩,r2,_⟩:=Qd hT _ _ _ g2
   obtain ⟨⟨k',n',l'⟩,r3,_⟩:=Qd hT _ _ _ g3
   have r0':aI (dY w) [] [a] [.al 0 (ints vs)]:=r0
   have r1':aI (dY w) [] [b] [.al 0 (nw cn)]:=r1
   have r2':aI (dY w) [] [c,d,e] [.int .i64 k,.int .i64 n,.al 0 (bS l)]:=r2
   have r3':aI (dY w) [] [f,g,i] [.int .i64 k',.int .i64 n',.al 0 (bS l')]:=r3
   exact ⟨⟨vs,cn,.mk k n l,.mk k' n' l'⟩,r0'.append (r1'.append (r2'.append r3')),trivial⟩
theorem Qe (S:nk P ti ts tis tss top tops tsig) (hT:mM P ti tt tl) (Y:Gh P tis tsig tt tc tcs tq tqs ty):Rd enc P w base sp held tqs (fun l:List gL=>.al 0 (jr l)) xC:=oD Y.acU Y.c.2.2.1 (by decide) (UN S hT Y)
theorem Zg (S:nk P ti ts tis tss top tops tsig) (hT:mM P ti tt tl) (Y:Gh P tis tsig tt tc tcs tq tqs ty):Rd enc P w base sp held ty Ty.av (fun _ _=>True):=by
 intro fuel cs x h
 obtain ⟨f0,f1,hu,h0,o0,h1,o1⟩:=Y.typ
 obtain ⟨c1,c2,c3,c4,c5⟩:=Y.c
 obtain ⟨xs,m,rfl,rfl,hlen,ew,hf⟩:=DataW.trod_struct hu h
 have g0:=hf 0 f0 rfl
 have g1:=hf 1 f1 rfl
 rw [h0,o0,S.c.2.2.2.2.2.2] at g0
 rw [h1,o1,c4] at g1
 simp at ew
 rw [c5] at hlen
 match cs,hlen with
 | [a,b,c],_=>
   have e0:xs[0]?=some xs[0]:=by simp [ew]
   have e1:xs[1]?=some xs[1]:=by simp [ew]
   rw [e0] at g0;rw [e1] at g1
   obtain ⟨s,r0,_⟩:=UK S _ _ _ g0
   obtain ⟨es,r1,_⟩:=Qe S hT Y _ _ _ g1
   have r0':aI (dY w) [] [a,b] [.al 0 (strs s.ft),.al 0 (oq s.ops)]:=r0
   have r1':aI (dY w) [] [c] [.al 0 (jr es)]:=r1
   exact ⟨⟨s,es⟩,r0'.append r1',trivial⟩
theorem Qf (S:nk P ti ts tis tss top tops tsig) (hT:mM P ti tt tl) (Y:Gh P tis tsig tt tc tcs tq tqs ty) {r:Reach} {b0:Nat} {v:Value} {d:DataW H} {ps:List MemPlace} (ph:Value.okWide P w r b0 ty v) (hd:DataW.Trod enc P w base sp held ty v d ps):∃ t:Ty,aT (dY w) [] v t.av:=by
 obtain ⟨f0,f1,hu,_⟩:=Y.typ
 obtain ⟨cs,rfl,_⟩:=WideShapes.okWide_struct hu ph
 obtain ⟨fuel,hf⟩:=hd
 obtain ⟨o,h1,_⟩:=Zg S hT Y _ _ _ hf
 refine ⟨o,?_⟩
 have:aT (dY w) [] (.agg cs.toList.toArray) o.av:=.agg _ _ h1
 simpa using this
end
end Go.aJ
end
section
set_option maxRecDepth 100000
namespace Go.Proofs.YtljchnfgjdjobaaGreat
open Go
theorem UO:laidOutB Tryz.checked.prog=true:=by kernel_rfl
theorem UP:mapsRowed Tryz.checked.prog=true:=by kernel_rfl
theorem Qg:Tryz.checked.prog.stopsHeard=true:=by kernel_rfl
theorem Qh:Tryz.checked.prog.mayEnter=true:=by kernel_rfl
theorem Qi:Tryz.checked.prog.liftsFinal=false:=by kernel_rfl
end Go.Proofs.YtljchnfgjdjobaaGreat
end
