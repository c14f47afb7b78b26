/- Part 11 of 19 of the proof. -/
import Derived.Test.YtljchnfgjdjobaaGreatUaj
import Derived.Test.YtljchnfgjdjobaaGreatUag
import Derived.KernelRfl
import Derived.Test.YtljchnfgjdjobaaGreatUai
import Derived.SizedLaws
set_option linter.unusedVariables false
set_option linter.unusedSimpArgs false
set_option linter.defProp false
set_option linter.unusedSectionVars false
section
namespace Go.aI
open Go
structure jF (esz:Nat) (x:AV):Prop where
 len:x.cells.length=esz
 un:x.cells.map AV.ab=x.cells
 bl:aj 0 x.cells=true
 one:x.cells.all AV.one=true
theorem jF.flat {esz:Nat}:∀ {xs:List AV},(∀ x∈xs,jF esz x)→(flat xs).length=xs.length * esz∧(flat xs).map AV.ab=flat xs∧(∀ n,aj n (flat xs)=true)∧(Go.aI.flat xs).all AV.one=true
 | [],_=>⟨by simp [Go.aI.flat],rfl,fun _=>rfl,rfl⟩
 | x::r,h=>by
   obtain ⟨h1,h2,h3,h4⟩:=jF.flat (xs:=r) fun y hy=>h y (aay _ hy)
   have hx:=h x aaB
   have e:Go.aI.flat (x::r)=x.cells++Go.aI.flat r:=rfl
   rw [e]
   refine ⟨by rw [aap,hx.len,h1,List.length_cons,aaU];omega,by rw [abf,hx.un,h2],fun n=>?_,by rw [List.all_append,hx.one,h4];rfl⟩
   rw [bI];exact ⟨bD (ab0 n) _ hx.bl,h3 n⟩
theorem ox (xs ys:List AV):flat (xs++ys)=flat xs++flat ys:=by simp [flat]
theorem kA {esz:Nat} {z:AV} (hz:jF esz (bP z)) (n:Nat):∀ x∈List.replicate n (bP z),jF esz x:=fun x hx=>by rw [aa4 hx];exact hz
theorem rP {esz:Nat} {z:AV} (hz:jF esz (bP z)) (n:Nat):(cP z n).length=n * esz:=by
 have:=(jF.flat (kA hz n)).1
 rwa [acj] at this
theorem zF {esz:Nat} {z:AV} (hz:jF esz (bP z)) (n k:Nat) (h:k≤n):(cP z n).drop (k * esz)=cP z (n - k):=by
 have e:cP z n=cP z k++cP z (n - k):=by
  unfold cP
  rw [← ox,aeI]
  congr 2;omega
 rw [e,acJ (by rw [rP hz];omega),aaF (by rw [rP hz];omega)]
 rfl
def bw (z:AV) (xs:List AV) (cap:Nat):aa:=.cells (flat xs++cP z (cap - xs.length))
def RO (z:AV) (base:Nat) (v:AV) (xs:List AV) (G:List aa):Prop:=
 (xs=[]∧v=.ag)∨∃ id cap,base≤id∧v=.aW id 0 xs.length cap∧G[id]?=some (bw z xs cap)∧xs.length≤cap∧xs≠[]
theorem RO.one {z:AV} {base:Nat} {v:AV} {xs:List AV} {G:List aa} (h:RO z base v xs G):v.one=true∧v.val=true∧v.ab=v∧v.cells=[v]:=by
 rcases h with ⟨_,rfl⟩ | ⟨id,cap,_,rfl,_⟩ <;> exact ⟨rfl,rfl,rfl,rfl⟩
theorem RO.a9 {z:AV} {base:Nat} {v:AV} {xs:List AV} {G:List aa} (h:RO z base v xs G) {n:Nat} (hn:G.length≤n):v.a9 n=true:=by
 rcases h with ⟨_,rfl⟩ | ⟨id,cap,_,rfl,c,_⟩
 ·rfl
 ·have:=(aaz.1 c).1
  rw [ft];simp;omega
theorem RO.set {z:AV} {base:Nat} {v:AV} {xs:List AV} {G:List aa} (h:RO z base v xs G) {j:Nat} (hj:j < base) (o:aa):RO z base v xs (G.set j o):=by
 rcases h with h | ⟨id,cap,a,b,c,d⟩
 ·exact .inl h
 ·exact .inr ⟨id,cap,a,b,by rw [tL (by omega)];exact c,d⟩
theorem RO.len {z:AV} {base:Nat} {v:AV} {xs:List AV} {G:List aa} (h:RO z base v xs G) {H:List aa} (φ:AV→Prop):eU v H φ=φ (.int .i64 xs.length):=by
 rcases h with ⟨rfl,rfl⟩ | ⟨id,cap,_,rfl,_⟩ <;> rfl
theorem LP {esz bytes:Nat} {z:AV} (hz:jF esz (bP z)) {base:Nat} {v:AV} {xs:List AV} {G:List aa} (h:RO z base v xs G) (fS:∀ x∈xs,jF esz x) (o:Nat) (ys:List AV) (hy:ys≠[]) (qR:∀ x∈ys,jF esz x)
 (hb:(xs.length + ys.length) * bytes≤140737488355328) (hG:base≤G.length) {K:AV→List aa→Prop}
 (hK:∀ v' G',RO z base v' (xs++ys) G'→G'.take base=G.take base→(∀ j,j < base→G'[j]?=G[j]?)→G.length≤G'.length→K v' G'):cS esz bytes z v (.ap o ys) G K:=by
 have jt:qP esz ys:=fun y hy=>⟨(qR y hy).len,(qR y hy).one⟩
 obtain ⟨f1,f2,f3,f4⟩:=jF.flat qR
 obtain ⟨g1,g2,g3,g4⟩:=jF.flat fS
 have vi:=rP hz
 have lB:∀ n m,aj n (cP z m)=true:=fun n m=>(jF.flat (kA hz m)).2.2.1 n
 unfold cS
 simp only [dn]
 refine ⟨jt,?_⟩
 rcases h with ⟨rfl,rfl⟩ | ⟨id,cap,bm,rfl,hg,hle,_⟩
 ·refine ⟨by simpa using hb,fun e=>absurd e hy,fun _ cap hc _=>⟨?_,hK _ _ (.inr ⟨G.length,cap,hG,by simp,?_,by simpa using hc,by simpa using hy⟩) ?_ ?_ (by simp)⟩⟩
  ·rw [f2,bI];exact ⟨f3 _,lB _ _⟩
  ·rw [f2];simp [bw]
  ·rw [aaA hG]
  ·intro j hj;rw [tK (by omega)]
 ·have vt:=(aaz.1 hg).1
  simp only [hg,bw,aap,g1,vi,aaQ,List.drop_zero]
  refine ⟨hb,hle,by rw [← aaU];exact Nat.le_of_eq (by congr 1;omega),fun hroom=>⟨by rw [f2];exact f3 _,?_⟩,fun jN dC hc _=>⟨?_,?_⟩⟩
  ·rw [f2]
   refine hK _ _ (.inr ⟨id,cap,bm,by simp,?_,by simpa using hroom,by simp [hy]⟩) ?_ ?_ (by simp)
   ·rw [tO vt,bw]
    congr 2
    unfold ah
    rw [f1,aaA (by rw [g1];exact oN _),aaw (by rw [g1];exact oN _),adw,aaF (by rw [g1];omega),g1,
     show xs.length * esz + ys.length * esz - xs.length * esz=ys.length * esz by omega,zF hz _ _ (by omega),ox,List.nil_append,aap]
    rw [show cap - xs.length - ys.length=cap - (xs.length + ys.length) by omega,aaD]
   ·rw [aaM (by omega)]
   ·intro j hj;rw [tL (by omega)]
  ·rw [aaA (by rw [g1];exact oN _),aaw (by rw [g1];exact oN _),g2,f2,bI,bI];exact ⟨⟨g3 _,f3 _⟩,lB _ _⟩
  ·rw [aaA (by rw [g1];exact oN _),aaw (by rw [g1];exact oN _),g2,f2,← ox]
   refine hK _ _ (.inr ⟨G.length,dC,hG,by simp,?_,by simpa using hc,by simp [hy]⟩) ?_ ?_ (by simp)
   ·simp [bw]
   ·rw [aaA hG]
   ·intro j hj;rw [tK (by omega)]
theorem qt {esz:Nat}:∀ {xs:List AV} (_:∀ x∈xs,jF esz x) (i:Nat),i < xs.length→(flat xs).drop (i * esz)=(xs.getD i .any).cells++flat (xs.drop (i + 1))
 | [],_,i,h=>by simp at h
 | x::r,hx,0,_=>by simp [flat]
 | x::r,hx,i + 1,h=>by
   have hl:=(hx x aaB).len
   have e:flat (x::r)=x.cells++flat r:=rfl
   rw [e,show (i + 1) * esz=x.cells.length + i * esz by rw [hl,aaU];omega,adw,List.getD_cons_succ,List.drop_succ_cons]
   have:=qt (xs:=r) (fun y hy=>hx y (aay _ hy)) i (by simpa using h)
   simp [this]
theorem zG {esz:Nat} {z:AV} {c:Nat} (hc:c < esz) (v:AV):∀ {xs:List AV} (_:∀ x∈xs,jF esz x) (i:Nat) {y:AV} (rest:List AV),i < xs.length→y.cells=(xs.getD i .any).cells.set c v→
 (flat xs++rest).set (i * esz + c) v=flat (xs.set i y)++rest
 | [],_,i,_,_,h,_=>by simp at h
 | x::r,hx,0,y,rest,_,hy=>by
   have hl:=(hx x aaB).len
   have e:flat (x::r)=x.cells++flat r:=rfl
   rw [aey,e,show flat (y::r)=y.cells++flat r from rfl,hy,aeJ,aaQ,aaD,aeN _ _ (by omega),aaD]
   rfl
 | x::r,hx,i + 1,y,rest,h,hy=>by
   have hl:=(hx x aaB).len
   have e:flat (x::r)=x.cells++flat r:=rfl
   have ih:=zG (z:=z) hc v (xs:=r) (fun y hy=>hx y (aay _ hy)) i rest (y:=y) (by simpa using h) (by simpa using hy)
   rw [aeW,e,show flat (x::r.set i y)=x.cells++flat (r.set i y) from rfl,aaD,aaD,← ih,show (i + 1) * esz + c=x.cells.length + (i * esz + c) by rw [hl,aaU];omega]
   rw [ac1 _ _ (by omega)]
   congr 2;omega
theorem lC (e id N c i:Nat) (k:IntKind) (φ:AV→Prop):ax e (.aW id 0 N c) (.int k (i:Int)) φ=(i < N∧φ (.ptr id (i * e))):=by
 simp only [ax,tN,aaQ,eq_iff_iff]
 constructor
 ·rintro ⟨_,h⟩;exact h
 ·exact fun h=>⟨by omega,h⟩
theorem kT {α:Type} (l:List α) (i:Nat) (x:α) (h:i < l.length):ah l i [x]=l.set i x:=by
 unfold ah
 rw [aeB,if_pos h]
 rfl
theorem Bt {esz cap id:Nat} {z:AV} {ys:List AV} (qR:∀ x∈ys,jF esz x) {i c:Nat} (hi:i < ys.length) (hc:c < esz) {v y:AV} (h1:v.one=true) (h2:v.val=true) (h3:v.ab.a9 0=true) (hy:y.cells=(ys.getD i .any).cells.set c v.ab)
 {H:List aa} {K:List aa→Prop} (hK:K (H.set id (bw z (ys.set i y) cap))):iw (some (bw z ys cap)) 1 id (i * esz + c) v H K:=by
 obtain ⟨g1,g2,g3,g4⟩:=jF.flat qR
 have hle:i * esz + esz≤ys.length * esz:=by rw [← Nat.succ_mul];exact abB _ hi
 simp only [bw,xc,yX h1,h2,List.length_cons,List.length_nil,List.all_cons,List.all_nil,h1,List.map_cons,List.map_nil]
 refine ⟨trivial,trivial,by rw [aap,g1];omega,rfl,bD (ab0 _) [v.ab] (by rw [bM,cZ,h3];rfl),?_⟩
 rw [kT _ _ _ (by rw [aap,g1];omega),zG (z:=z) hc v.ab qR i _ hi hy]
 have e:(ys.set i y).length=ys.length:=by simp
 simp only [bw,e] at hK
 exact hK
theorem Hy {esz:Nat} (h0:1 < esz):∀ {xs:List AV} (_:∀ x∈xs,jF esz x) (_:∀ x∈xs,AV.agg x.cells=x) (rest:List AV),chunks esz xs.length (flat xs++rest)=xs
 | [],_,_,_=>rfl
 | x::r,hx,ha,rest=>by
   have hl:=(hx x aaB)
   have e:flat (x::r)=x.cells++flat r:=rfl
   rw [List.length_cons,chunks,if_neg (by omega),e,aaD,aaA (by rw [hl.len];omega),aaw (by rw [hl.len];omega),hl.un,ha x aaB]
   rw [show List.drop esz (x.cells++(flat r++rest))=flat r++rest by rw [← hl.len,aeS],Hy h0 (fun y hy=>hx y (aay _ hy)) (fun y hy=>ha y (aay _ hy))]
theorem xe {esz id cap:Nat} (h0:1 < esz) {z:AV} (hz:jF esz (bP z)) {xs:List AV} {H:List aa} (hx:∀ x∈xs,jF esz x) (ha:∀ x∈xs,AV.agg x.cells=x) (h:H[id]?=some (bw z xs cap)) (hl:xs.length≤cap) {K:AV→List aa→Prop} (hK:K (.ap 0 xs) (H.set id .dead)):dN esz (.aW id 0 xs.length cap) H K:=by
 obtain ⟨g1,g2,g3,g4⟩:=jF.flat hx
 simp only [dN,h,bw,List.drop_zero,Hy h0 hx ha]
 refine ⟨by omega,hl,by simp [g1],?_,hK⟩
 rw [List.all_append,g4,show (cP z (cap - xs.length)).all AV.one=true from (jF.flat (kA hz _)).2.2.2];rfl
end Go.aI
end
section
set_option maxRecDepth 100000
set_option maxHeartbeats 0
namespace Go.aI
open Go Go.Proofs
noncomputable def Yv:=aJ Tryz.call58 Tryz.func58 Tryz.ntmps58 [(3,0,2),(3,2,2),(3,3,1)] [(0,[0]),(1,[0,4]),(2,[2]),(3,[2])] []
noncomputable def Yw:=aJ Tryz.call75 Tryz.func75 Tryz.ntmps75 [(0,0,1),(5,2,1000),(6,0,1),(6,8,1),(7,6,2),(7,9,2),(9,0,6004)] [(0,[1,2]),(1,[1,6]),(2,[1,6,7]),(3,[6,7,15,16,17]),(4,[6,7,15,16,17,18]),(5,[6,7,9,15,16,17]),(6,[6,7,9,15,16,17]),(7,[6,7,15,16,17]),(8,[6,7,15,16,17]),(9,[4,5])] [(7,(.take 1 true (.take 2 true (.take 3 true (.take 4 true (.take 5 true (.take 0 false (.br 6 (.take 7 true (.take 8 true (.br 9 .done .nil))) .nil))))))))]
noncomputable def RG:=aJ Tryz.call118 Tryz.func118 Tryz.ntmps118 [(3,0,2),(3,2,2),(3,3,1)] [(0,[0]),(1,[0,4]),(2,[2]),(3,[2])] []
noncomputable def Hz:=aJ Tryz.call132 Tryz.func132 Tryz.ntmps132 [(0,0,1),(2,0,1),(2,4,2),(2,5,1),(6,2,1000),(7,0,1),(7,5,1),(8,1,1),(8,2,2),(8,3,1),(11,0,1),(11,1,1)] [(0,[1,2]),(1,[1,2,5]),(2,[1,2,5]),(3,[1,2,5,6]),(4,[1,5,6,17,18,19]),(5,[1,5,6,17,18,19,20]),(6,[1,5,6,8,17,18,19]),(7,[1,5,6,8,17,18,19]),(8,[1,5,6,17,18,19]),(9,[1,5,6,17,18,19]),(10,[1]),(11,[4])] []
noncomputable def RH:=aJ Tryz.call139 Tryz.func139 Tryz.ntmps139 [(10,9,2000),(15,0,1),(15,4,1),(21,0,1),(21,4,1),(23,2,3000)] [(0,[0,1,2]),(1,[0,1,2,9]),(2,[0,1,2,9,10]),(3,[0,1,2,9,10,11,12]),(4,[0,1,9,10,11,12,26,27,28]),(5,[0,1,9,10,11,12,26,27,28,29]),(6,[0,1,9,10,11,12,13,14,26,27,28]),(7,[0,1,9,10,11,12,13,14,26,27,28,33,34,35]),(8,[0,1,9,10,11,12,13,14,26,27,28,33,34,35,36]),(9,[0,1,9,10,11,12,13,14,15,16,26,27,28,33,34,35]),(10,[0,1,9,10,11,12,13,14,15,26,27,28,33,34,35,50]),(11,[0,1,9,10,11,12,13,15,26,27,28]),(12,[0,1,9,10,11,12,13,26,27,28]),(13,[0,1,9,10,11,12,13,14,26,27,28,33,34,35]),(14,[0,1,9,10,11,12,13,26,27,28,63]),(15,[0,1,9,10,11,12,26,27,28]),(16,[0,1,9,10,11,12,26,27,28]),(17,[10,11,12,69,70,71]),(18,[10,11,12,69,70,71,72]),(19,[10,11,12,17,18,69,70,71]),(20,[10,11,12,17,69,70,71,77]),(21,[10,11,12,69,70,71]),(22,[10,11,12,69,70,71]),(23,[6,7,8])] []
noncomputable def RI:=aJ Tryz.call149 Tryz.func149 Tryz.ntmps149 [(1,2,1),(3,1,2000),(4,0,3000)] [(0,[0,1]),(1,[0,1]),(2,[0,8]),(3,[0]),(4,[4])] []
noncomputable def RJ:=aJ Tryz.call185 Tryz.func185 Tryz.ntmps185 [(5,3,2000),(6,19,2000)] [(0,[0,1,2]),(1,[0,1,2,7,8]),(2,[0,1,2,7,38]),(3,[6]),(4,[0,9,10]),(5,[0,9,10,11]),(6,[6])] [(4,(.take 0 true (.take 1 true (.take 2 true (.take 3 true (.take 4 true (.take 5 true (.take 6 true (.take 7 true (.take 8 true (.take 9 true (.take 10 true (.take 11 true (.take 12 true (.take 13 true (.take 14 true (.take 15 true (.take 16 true (.take 17 true (.take 18 true (.take 19 true (.take 20 true (.take 21 true .done))))))))))))))))))))))),(6,(.take 0 true (.take 1 true (.take 2 true (.take 3 true (.take 4 true (.take 5 true (.take 6 true (.take 7 true (.take 8 true (.take 9 true (.take 10 true (.take 11 true (.take 12 true (.take 13 true (.take 14 true (.take 15 true (.take 16 true (.take 17 true (.take 18 true (.br 19 (.take 20 true (.take 21 true (.take 22 true .done))) .nil)))))))))))))))))))))]
noncomputable def RK:=aJ Tryz.call199 Tryz.func199 Tryz.ntmps199 [] [(0,[0,2,3]),(1,[0,2,3,9]),(2,[0,2,3]),(3,[0,2,3])] [(3,(.take 0 true (.take 1 true (.take 4 true (.take 5 true (.take 6 true (.take 7 true (.take 8 true (.take 9 true (.take 10 true (.take 11 true (.take 12 true (.take 2 false (.take 3 false (.br 13 (.take 14 true (.br 15 .done .nil)) .nil)))))))))))))))]
end Go.aI
end
section
set_option maxRecDepth 100000
namespace Go.aI
open Go
inductive T where
 | mk (k n:Int) (l:List T)
 deriving Inhabited
mutual
def T.av:T→AV
 | .mk k n l=>.agg [.int .i64 k,.int .i64 n,.ap 0 (cQ l)]
def cQ:List T→List AV
 | []=>[]
 | x::r=>x.av::cQ r
end
def T.k:T→Int | .mk k _ _=>k
def T.n:T→Int | .mk _ n _=>n
def T.l:T→List T | .mk _ _ l=>l
theorem T.uA (x:T):x.av=.agg [.int .i64 x.k,.int .i64 x.n,.ap 0 (cQ x.l)]:=by cases x;rfl
theorem mW:∀ l,cQ l=l.map T.av
 | []=>rfl
 | x::r=>by simp [cQ,mW r]
theorem vG (l:List T):(cQ l).length=l.length:=by simp [mW]
theorem DA (l:List T) (i:Nat) (h:i < l.length):(cQ l).getD i .any=(l.getD i default).av:=by
 simp [mW,h]
mutual
theorem T.qv (n:Nat):∀ x:T,x.av.a9 n=true
 | .mk k m l=>by simp [T.av,AV.a9,aj,dT n l]
theorem dT (n:Nat):∀ l:List T,aj n (cQ l)=true
 | []=>rfl
 | x::r=>by simp [cQ,aj,T.qv n x,dT n r]
end
theorem T.pg (x:T):AV.agg x.av.cells=x.av:=by cases x;rfl
theorem T.xf (x:T):x.av.val=true:=by cases x;rfl
theorem T.qw (x:T):x.av.cells.all AV.one=true:=by cases x;rfl
theorem T.oz (x:T):x.av.ab=x.av:=by cases x;rfl
theorem T.rQ (x:T):x.av.drop=x.av:=by cases x;rfl
theorem T.DB (x:T):x.av.cells.map AV.ab=x.av.cells:=by cases x;rfl
theorem T.FW (x:T):x.av.cells.map AV.drop=x.av.cells:=by cases x;rfl
theorem T.iA (x:T):x.av.cells.length=3:=by cases x;rfl
theorem LQ (o:Nat) (l:List T):(∀ (own:Nat) (xs:List AV),AV.ap o (cQ l)=AV.ap own xs→∀ z∈xs,z.cells.length=3)=True:=by
 simp only [eq_iff_iff,iff_true]
 intro own xs e z hz
 cases e
 rw [mW] at hz
 obtain ⟨y,_,rfl⟩:=aaq.1 hz
 exact y.iA
theorem P5 (e o:Nat) (l:List T) (k:IntKind) (i:Nat) (φ:AV→Prop):ax e (.ap o (cQ l)) (.int k (i:Int)) φ=(i < l.length∧φ (.ai (l.getD i default).av)):=by
 simp only [ax,vG,tN,eq_iff_iff]
 constructor
 ·rintro ⟨_,h,h2⟩;rw [DA _ _ h] at h2;exact ⟨h,h2⟩
 ·rintro ⟨h,h2⟩;rw [DA _ _ h];exact ⟨by omega,h,h2⟩
theorem DC (x:T) (H:List aa) (φ:AV→Prop):aU (some 3) (.ai x.av) H φ=φ x.av:=by
 simp [aU,T.iA,T.pg]
theorem abX (a b c:AV) (x:T):ah [a,b,c] 0 x.av.cells=x.av.cells:=by simp [ah,T.iA]
theorem abY (n:Nat) (x:T):aj n x.av.cells=true:=cB (x.qv _)
theorem P6 (x:T) (φ:AV→Prop):cV (some (.cells x.av.cells)) (some 3) 0 φ=φ x.av:=by
 have e:List.map AV.drop (List.take 3 (List.drop 0 x.av.cells))=x.av.cells:=by cases x;rfl
 simp only [cV,e,T.pg]
 simp [T.iA]
theorem fk (x:T) (φ:AV→Prop):al 0 none (.ai x.av) φ=φ (.ai (.int .i64 x.k)):=by
 cases x;simp [al,apart,T.av,AV.cells,T.k,AV.one]
theorem fn_ (x:T) (φ:AV→Prop):al 1 none (.ai x.av) φ=φ (.ai (.int .i64 x.n)):=by
 cases x;simp [al,apart,T.av,AV.cells,T.n,AV.one]
theorem fl (x:T) (φ:AV→Prop):al 2 none (.ai x.av) φ=φ (.ai (.ap 0 (cQ x.l))):=by
 cases x;simp [al,apart,T.av,AV.cells,T.l,AV.one]
def ints (l:List Int):List AV:=l.map (AV.int .i64)
theorem ay (l:List Int):(ints l).length=l.length:=by simp [ints]
theorem bb (n:Nat) (l:List Int):aj n (ints l)=true:=by
 rw [aY];intro x hx;obtain ⟨y,_,rfl⟩:=aaq.1 hx;rfl
theorem dJ (o:Nat) (l:List Int):(∀ (own:Nat) (xs:List AV),AV.ap o (ints l)=AV.ap own xs→∀ z∈xs,z.cells.length=1)=True:=by
 simp only [eq_iff_iff,iff_true]
 intro own xs e z hz
 cases e
 obtain ⟨y,_,rfl⟩:=aaq.1 hz
 rfl
theorem LR (e o:Nat) (l:List Int) (k:IntKind) (i:Nat) (φ:AV→Prop):ax e (.ap o (ints l)) (.int k (i:Int)) φ=(i < l.length∧φ (.ai (.int .i64 (l.getD i 0)))):=by
 simp only [ax,ay,tN,eq_iff_iff]
 constructor
 ·rintro ⟨_,h,h2⟩;refine ⟨h,?_⟩;simpa [ints,h] using h2
 ·rintro ⟨h,h2⟩;refine ⟨by omega,h,?_⟩;simpa [ints,h] using h2
theorem sY (l:List Int) (n:Int):ints l++[.int .i64 n]=ints (l++[n]):=by simp [ints]
theorem ok_int (k:IntKind) (n:Int):qP 1 [.int k n]=True:=by simp [qP,AV.cells,AV.one]
theorem mX (l:List Int):qP 1 (ints l)=True:=by
 simp only [qP,eq_iff_iff,iff_true]
 intro y hy
 obtain ⟨z,_,rfl⟩:=aaq.1 hy
 exact ⟨rfl,rfl⟩
theorem UH (x:T):qP 3 [x.av]=True:=by
 simp only [qP,eq_iff_iff,iff_true]
 intro y hy
 rw [aav] at hy
 subst hy
 exact ⟨x.iA,x.qw⟩
theorem UI (k:IntKind) (n:Int):aV (.int k n)=.int k n:=ae0
theorem abZ (x:T):aV x.av=x.av:=by cases x;rfl
theorem bs0 (z:AV) (esz:Nat) (φ:List AV→Prop):bu (List.replicate 0 z) esz [] φ=φ []:=ae0
theorem bs1 (z x:AV) (esz:Nat) (φ:List AV→Prop):bu (List.replicate 1 (aV z)) esz [(0,x)] φ=(x.val=true∧x.cells.length=esz∧φ [aV x]):=by
 simp [bu]
theorem bs2 (z x y:AV) (esz:Nat) (φ:List AV→Prop):bu (List.replicate 2 (aV z)) esz [(0,x),(1,y)] φ=(x.val=true∧x.cells.length=esz∧y.val=true∧y.cells.length=esz∧φ [aV x,aV y]):=by
 simp [bu,List.replicate]
theorem bs3 (z x y u:AV) (esz:Nat) (φ:List AV→Prop):bu (List.replicate 3 (aV z)) esz [(0,x),(1,y),(2,u)] φ=(x.val=true∧x.cells.length=esz∧y.val=true∧y.cells.length=esz∧u.val=true∧u.cells.length=esz∧φ [aV x,aV y,aV u]):=by
 simp [bu,List.replicate]
@[congr] theorem NH {xs:List AV} {esz:Nat} {ps ps':List (Nat×AV)} {φ:List AV→Prop} (h:gN ps=ps'):bu xs esz ps φ=bu xs esz ps' φ:=by subst h;rfl
def UJ:=(hV (hV (hV (hV @or_true @true_or) (hV @true_and @and_true)) (hV (hV @true_implies @aeX) (hV @abv (hV @Bool.not_true @Bool.not_false)))) (hV (hV (hV @decide_true @decide_false) (hV @Classical.not_not @not_true_eq_false)) (hV (hV @not_false_eq_true @false_implies) (hV @Int.not_le (hV @Int.not_lt @oN)))))
def UK:=(hV (hV (hV (hV (hV @vG @T.qv) (hV @dT @T.xf)) (hV (hV @T.qw @T.oz) (hV @T.rQ @T.DB))) (hV (hV (hV @T.FW @T.iA) (hV @T.pg @LQ)) (hV (hV @P5 @DC) (hV @abX (hV @abY @P6))))) (hV (hV (hV (hV @fk @fn_) (hV @fl @ay)) (hV (hV @bb @dJ) (hV @LR @sY))) (hV (hV (hV @ok_int @UH) (hV @mX @UI)) (hV (hV @abZ @bs0) (hV @bs1 (hV @bs2 @bs3))))))
theorem sZa {α:Type} (a b:α) (h:Decidable True):(if True then a else b)=a:=if_pos trivial
def sZ:=hV UG (hV UK (hV UJ (hV @sZa (hV @ne_eq.{1} (hV @forall_const.{1} (hV @implies_true.{0} (hV @implies_true.{1} (hV @List.nil_append.{0} (hV @aaV.{0} (hV @List.cons_append.{0} (hV @List.length_cons.{0} @List.length_nil.{0})))))))))))
end Go.aI
end
section
end
section
set_option maxRecDepth 100000
namespace Go.aI
open Go Go.Proofs
theorem iB {l:List T} {i:Nat} (h:i < l.length):l.getD i default∈l:=by simp [h]
theorem T.lt {x y:T} (h:x∈y.l):SizeOf.sizeOf x < SizeOf.sizeOf y:=by
 cases y with
 | mk k n l=>
   have:=List.sizeOf_lt_of_mem h
   simp only [T.l] at this
   simp only [T.mk.sizeOf_spec]
   omega
end Go.aI
end
section
set_option maxRecDepth 100000
namespace Go.aI
open Go Go.Proofs
end Go.aI
end
section
set_option maxRecDepth 100000
namespace Go.aI
open Go Go.Proofs
mutual
def gG:T→Int→Int×Int→Int×Int
 | .mk _ _ l,d,s=>lD l (d + 1) (s.1 + 1,max s.2 d)
def lD:List T→Int→Int×Int→Int×Int
 | [],_,s=>s
 | x::r,d,s=>if 2000 < s.1∨200 < s.2 then s else lD r d (gG x d s)
end
def pS (d:Int) (s:Int×Int):Prop:=0≤s.1∧s.1≤2000∧0≤s.2∧s.2≤200∧0≤d∧d≤201
def mY (s:Int×Int):Prop:=0≤s.1∧s.1≤2001∧0≤s.2∧s.2≤201
mutual
theorem xg:∀ (x:T) (d:Int) (s:Int×Int),pS d s→mY (gG x d s)∧(gG x d s).2 ≥ d
 | .mk k n l,d,s,h=>by
   simp only [gG]
   obtain ⟨h1,h2,h3,h4,h5,h6⟩:=h
   have:=DD l (d + 1) (s.1 + 1,max s.2 d) (by unfold mY;simp only;omega) (by omega) (by simp only;omega)
   refine ⟨this.1,?_⟩
   have h:=this.2
   simp only at h
   omega
theorem DD:∀ (l:List T) (d:Int) (s:Int×Int),mY s→0≤d→d≤s.2 + 1→mY (lD l d s)∧s.2≤(lD l d s).2
 | [],d,s,h,_,_=>by simp [lD,h]
 | x::r,d,s,h,hd,Il=>by
   simp only [lD]
   split
   ·exact ⟨h,aeU _⟩
   ·rename_i hn
    obtain ⟨h1,h2,h3,h4⟩:=h
    have hx:=xg x d s ⟨h1,by omega,h3,by omega,hd,by omega⟩
    have hr:=DD r d (gG x d s) hx.1 hd (by omega)
    have:=s5 x d s
    exact ⟨hr.1,by omega⟩
theorem s5:∀ (x:T) (d:Int) (s:Int×Int),s.2≤(gG x d s).2
 | .mk k n l,d,s=>by
   simp only [gG]
   have:=zH l (d + 1) (s.1 + 1,max s.2 d)
   simp only at this
   omega
theorem zH:∀ (l:List T) (d:Int) (s:Int×Int),s.2≤(lD l d s).2
 | [],d,s=>by simp [lD]
 | x::r,d,s=>by
   simp only [lD]
   split
   ·omega
   ·have h1:=s5 x d s
    have h2:=zH r d (gG x d s)
    omega
end
theorem Jt {l:List T} {i:Nat} {d:Int} {s:Int×Int} (h:i < l.length):lD (l.drop i) d s=if 2000 < s.1∨200 < s.2 then s else lD (l.drop (i + 1)) d (gG (l.getD i default) d s):=by
 rw [aaG h]
 simp [lD,h]
def eV (s:Int×Int):List aa:=[.cells [.int .i64 s.1,.int .i64 s.2]]
theorem UL (H:List aa) (x:T) (d:Int) (s:Int×Int) (hs:pS d s) :
 aw Tryz.prog 171 [.ptr H.length 0,x.av,.int .i64 d] (H++eV s) fun r H'=>r=.tuple []∧H'=H++eV (gG x d s):=by
 have ih:∀ y∈x.l,∀ (d:Int) (s:Int×Int),pS d s→aw Tryz.prog 171 [.ptr H.length 0,y.av,.int .i64 d] (H++eV s) fun r H'=>r=.tuple []∧H'=H++eV (gG y d s):=
  fun y hy d s hs=>UL H y d s hs
 have e:gG x d s=lD x.l (d + 1) (s.1 + 1,max s.2 d):=by cases x;simp only [gG,T.l]
 obtain ⟨h1,h2,h3,h4,h5,h6⟩:=hs
 have w1:IntKind.i64.wrap (s.1 + 1)=s.1 + 1:=cR _ (by omega)
 have w2:IntKind.i64.wrap (d + 1)=d + 1:=cR _ (by omega)
 refine Oy.2.calls rfl ?_
 simp only [Oy,aJ]
 simp only [w1,eV,sZ,Nat.reduceEqDiff,Nat.reduceAdd,Nat.reduceLT,Nat.reduceLeDiff,↓reduceIte,reduceCtorEq]
 intro hl
 have J7:mY (s.1 + 1,max s.2 d):=by unfold mY;simp only;omega
 have hmd:d≤max s.2 d:=by omega
 generalize max s.2 d=m at *
 refine aM x.l.length (fun i (t:Int×Int)=>mY t∧d≤t.2∧lD (x.l.drop i) (d + 1) t=gG x d s)
  (fun i t=>[(0,.ptr H.length 0),(2,.int .i64 d),(25,.ap 0 (cQ x.l)),(26,.int .i64 x.l.length),(27,.int .i64 i)]) (fun i t=>H++eV t) (s.1 + 1,m) ⟨⟨J7,hmd,by rw [e];rfl⟩,aB _ _ _⟩ fun i t hi hI=>?_
 obtain ⟨⟨k1,k2,k3,k4⟩,k5,hI⟩:=hI
 simp only [w2,eV,sZ,Nat.reduceEqDiff,Nat.reduceAdd,Nat.reduceLT,↓reduceIte,reduceCtorEq]
 refine ⟨fun aX=>⟨b9 aX,?_⟩,fun jV=>?_⟩
 ·have aX:=b9 aX
  rw [Jt aX] at hI
  refine ⟨fun hn1=>⟨fun hn2=>?_,fun hn2=>?_⟩,fun hn1=>?_⟩
  ·rw [if_pos (.inr hn2)] at hI;rw [← hI];exact rN (by simp [eV]) rfl
  ·rw [if_neg (by omega)] at hI
   have ho:pS (d + 1) t:=⟨k1,by omega,k3,by omega,by omega,by omega⟩
   have hx:=xg (x.l.getD i default) (d + 1) t ho
   refine af (ih _ (iB aX) (d + 1) t ho) ?_
   rintro r H' ⟨rfl,rfl⟩
   simp only [eV,sZ,Nat.reduceEqDiff,↓reduceIte,reduceCtorEq]
   exact ⟨i + 1,gG (x.l.getD i default) (d + 1) t,⟨aX,hx.1,by omega,hI⟩,by omega,aD (by rw [au i (by omega)]) rfl⟩
  ·rw [if_pos (.inl hn1)] at hI;rw [← hI];exact rN (by simp [eV]) rfl
 ·rw [aaF (dl jV)] at hI
  rw [← hI]
  exact rN (by simp [eV]) rfl
termination_by SizeOf.sizeOf x
decreasing_by exact T.lt hy
def uB (s:Int×Int):Bool:=decide (2000 < s.1) || decide (200 < s.2)
theorem Yx (H:List aa) (s:Int×Int):aw Tryz.prog 172 [.ptr H.length 0] (H++eV s) fun r H'=>r=.bool (uB s)∧H'=H++eV s:=by
 refine Oz.2.calls rfl ?_
 simp only [Oz,aJ]
 simp only [eV,sZ,Nat.reduceEqDiff,Nat.reduceAdd,Nat.reduceLT,↓reduceIte,reduceCtorEq]
 refine ⟨fun h=>?_,fun h=>?_⟩
 ·exact UE (by simp [eV]) rfl (by simp [uB,Int.not_lt.2 h]) rfl
 ·exact UE (by simp [eV]) rfl (by simp [uB,h]) rfl
def s6 (p:T→Bool):List T→Int→Int
 | [],_=>-1
 | x::r,k=>if p x=true then k else s6 p r (k + 1)
theorem xh (p:T→Bool):∀ (l:List T) (k:Int),0≤k→(decide (0≤s6 p l k)=l.any p)
 | [],k,_=>by simp [s6]
 | x::r,k,h=>by
   simp only [s6,aeY]
   split
   ·rename_i hp;simp [hp,h]
   ·rename_i hp;simp [hp,xh p r (k + 1) (by omega)]
theorem zJ {p:T→Bool} {l:List T} {i:Nat} {k:Int} (h:i < l.length):s6 p (l.drop i) k=if p (l.getD i default)=true then k else s6 p (l.drop (i + 1)) (k + 1):=by
 rw [aaG h]
 simp [s6,h]
theorem ab1 (g:Nat) (p:T→Bool) (l:List T) (hf:∀ x∈l,Pure Tryz.prog g [x.av] (.bool (p x))) :
 Pure Tryz.prog 114 [.ap 0 (cQ l),.fn (.func g) [] []] (.int .i64 (s6 p l 0)):=by
 refine fun H=>C7.2.calls rfl ?_
 simp only [C7,aJ]
 simp only [sZ,Nat.reduceEqDiff,Nat.reduceAdd,↓reduceIte,reduceCtorEq]
 intro hl
 refine aC l.length (fun i=>s6 p (l.drop i) i=s6 p l 0) (fun i=>[(0,.ap 0 (cQ l)),(1,.fn (.func g) [] []),(7,.int .i64 l.length),(8,.int .i64 i)]) (fun _=>H) ⟨rfl,aB _ _ _⟩ fun i hi hI=>?_
 simp only [sZ,Nat.reduceEqDiff,Nat.reduceAdd,↓reduceIte,reduceCtorEq]
 refine ⟨fun aX=>?_,fun jV=>?_⟩
 ·have aX:=b9 aX
  rw [zJ aX] at hI
  refine ⟨aX,ae (hf _ (iB aX)) ?_⟩
  simp only [sZ,Nat.reduceEqDiff,↓reduceIte,reduceCtorEq]
  refine vE (fun hb=>?_) (fun hb=>?_) <;> simp only [sZ,Nat.reduceEqDiff,↓reduceIte,reduceCtorEq]
  ·rw [if_pos hb] at hI
   exact bc rfl (by rw [← hI])
  ·rw [if_neg (by rw [hb];simp)] at hI
   exact ⟨i + 1,⟨aX,hI⟩,by omega,aD (by rw [au i (by omega)]) rfl⟩
 ·rw [aaF (dl jV)] at hI
  exact bc rfl (by rw [← hI];rfl)
theorem c53 (g:Nat) (p:T→Bool) (l:List T) (hf:∀ x∈l,Pure Tryz.prog g [x.av] (.bool (p x))) :
 Pure Tryz.prog 53 [.ap 0 (cQ l),.fn (.func g) [] []] (.bool (l.any p)):=by
 refine fun H=>Rb.2.calls rfl ?_
 simp only [Rb,aJ]
 simp only [sZ,Nat.reduceEqDiff,Nat.reduceAdd,↓reduceIte,reduceCtorEq]
 refine ae (ab1 g p l hf) ?_
 simp only [sZ,↓reduceIte,reduceCtorEq]
 exact bc rfl (by rw [xh p l 0 (by omega)])
mutual
def T.shaped:T→Bool
 | .mk k n l=>!(decide (n < 0) || (decide (k=1) && decide (0 < l.length)) || (decide (k≠1) && decide (k≠2)) || decide (8 < l.length)) && fH l
def fH:List T→Bool
 | []=>true
 | x::r=>x.shaped && fH r
end
theorem oA:∀ l,fH l=l.all T.shaped
 | []=>rfl
 | x::r=>by simp only [fH,List.all_cons,oA r]
theorem DE (l:List T):(!(l.any fun x=>!x.shaped))=fH l:=by
 rw [oA]
 induction l with
 | nil=>rfl
 | cons x r ih=>simp only [aeY,List.all_cons,Bool.not_or,aeu,ih]
theorem T.fI (x:T):x.shaped=(!(decide (x.n < 0) || (decide (x.k=1) && decide (0 < x.l.length)) || (decide (x.k≠1) && decide (x.k≠2)) || decide (8 < x.l.length)) && fH x.l):=by
 cases x;simp only [T.shaped,T.k,T.n,T.l];rfl
theorem Bu {l:List T} {i:Nat} (h:i < l.length):fH (l.drop i)=((l.getD i default).shaped && fH (l.drop (i + 1))):=by
 rw [aaG h]
 simp [fH,h]
theorem T.Ju {x:T} (hh:¬ (x.n < 0∨(x.k=1∧0 < x.l.length)∨(x.k≠1∧x.k≠2)∨8 < x.l.length)):x.shaped=fH x.l:=by
 rw [x.fI]
 have h1:decide (x.n < 0)=false:=abE.2 (by simp only [ne_eq,decide_eq_true_eq];omega)
 have h2:(decide (x.k=1) && decide (0 < x.l.length))=false:=abE.2 (by simp only [ne_eq,Sr,decide_eq_true_eq];omega)
 have h3:(decide (x.k≠1) && decide (x.k≠2))=false:=abE.2 (by simp only [ne_eq,Sr,decide_eq_true_eq];omega)
 have h4:decide (8 < x.l.length)=false:=abE.2 (by simp only [ne_eq,decide_eq_true_eq];omega)
 rw [h1,h2,h3,h4];rfl
theorem ab2 (x:T) (h:Pure Tryz.prog 173 [x.av] (.bool x.shaped)):Pure Tryz.prog 211 [x.av] (.bool (!x.shaped)):=by
 refine fun H=>OJ.2.calls rfl ?_
 simp only [OJ,aJ]
 simp only [sZ,Nat.reduceEqDiff,Nat.reduceAdd,↓reduceIte]
 refine ae h ?_
 simp only [sZ,↓reduceIte,reduceCtorEq]
 exact bc rfl rfl
theorem Yy (x:T):Pure Tryz.prog 173 [x.av] (.bool x.shaped):=by
 have ih:∀ y∈x.l,Pure Tryz.prog 211 [y.av] (.bool (!y.shaped)):=fun y hy=>ab2 y (Yy y)
 refine fun H=>OA.2.calls rfl ?_
 simp only [OA,aJ]
 simp +contextual only [sZ,Nat.reduceEqDiff,Nat.reduceAdd,↓reduceIte,reduceCtorEq]
 have fin:∀ (H':List aa),H'=H→(x.n < 0∨(x.k=1∧0 < x.l.length)∨(x.k≠1∧x.k≠2)∨8 < x.l.length)→b8 H.length [RX.t 2] [(2,AV.bool false)] H' fun r H'=>r=AV.bool x.shaped∧H'=H:=by
  rintro H' rfl hh
  refine bc rfl ?_
  rw [x.fI]
  rcases hh with h | h | h | h <;> simp [h]
 have go:¬ (x.n < 0∨(x.k=1∧0 < x.l.length)∨(x.k≠1∧x.k≠2)∨8 < x.l.length)→x.shaped=fH x.l:=by
  intro hh
  rw [x.fI]
  have h1:decide (x.n < 0)=false:=abE.2 (by simp only [ne_eq,decide_eq_true_eq];omega)
  have h2:(decide (x.k=1) && decide (0 < x.l.length))=false:=abE.2 (by simp only [ne_eq,Sr,decide_eq_true_eq];omega)
  have h3:(decide (x.k≠1) && decide (x.k≠2))=false:=abE.2 (by simp only [ne_eq,Sr,decide_eq_true_eq];omega)
  have h4:decide (8 < x.l.length)=false:=abE.2 (by simp only [ne_eq,decide_eq_true_eq];omega)
  rw [h1,h2,h3,h4];rfl
 refine ⟨fun h=>fin _ rfl (.inl h),fun h=>⟨fun h1 hl=>⟨fun h2=>fin _ rfl (by omega),fun h2=>⟨fun h3=>fin _ rfl (by omega),fun h3=>ae (c53 211 _ _ ih) ?_⟩⟩,
  fun h1=>⟨fun h2=>fin _ rfl (by omega),fun h2 hl=>⟨fun h3=>fin _ rfl (by omega),fun h3=>ae (c53 211 _ _ ih) ?_⟩⟩⟩⟩ <;>
 ·simp only [sZ,↓reduceIte,reduceCtorEq]
  exact bc rfl (by rw [go (by omega),DE])
termination_by SizeOf.sizeOf x
decreasing_by exact T.lt hy
def T.tree (x:T):Bool:=!uB (gG x 1 (0,0)) && x.shaped
theorem ab3 (x:T):Pure Tryz.prog 108 [x.av] (.bool x.tree):=by
 refine fun H=>Ot.2.calls rfl ?_
 simp only [Ot,aJ]
 simp only [sZ,Nat.reduceEqDiff,Nat.reduceAdd,↓reduceIte,reduceCtorEq]
 refine af (UL H x 1 (0,0) (by unfold pS;simp)) ?_
 rintro r H' ⟨rfl,rfl⟩
 simp only [sZ,Nat.reduceEqDiff,Nat.reduceAdd,↓reduceIte]
 refine af (Yx H (gG x 1 (0,0))) ?_
 rintro r H' ⟨rfl,rfl⟩
 cases hb:uB (gG x 1 (0,0)) <;> simp +contextual only [sZ,Nat.reduceEqDiff,Nat.reduceAdd,↓reduceIte,reduceCtorEq]
 ·refine ae (Yy x) ?_
  simp only [sZ,Nat.reduceEqDiff,↓reduceIte,reduceCtorEq]
  exact LN rfl (by simp [T.tree,hb])
 ·exact LN rfl (by simp [T.tree,hb])
mutual
def iC:T→Int→Int→Int×Bool
 | .mk _ _ l,left,deep=>if left - 1 < 0∨200 < deep then (left - 1,false) else mZ l (left - 1) (deep + 1)
def mZ:List T→Int→Int→Int×Bool
 | [],left,_=>(left,true)
 | x::r,left,deep=>if (iC x left deep).2=true then mZ r (iC x left deep).1 deep else ((iC x left deep).1,false)
end
mutual
theorem Bv:∀ (x:T) (left deep:Int),(iC x left deep).1≤left∧(0≤left→-1≤(iC x left deep).1∧((iC x left deep).2=true→0≤(iC x left deep).1))
 | .mk k n l,left,deep=>by
   simp only [iC]
   split
   ·simp;omega
   ·rename_i hn
    have:=HA l (left - 1) (deep + 1)
    exact ⟨by omega,fun _=>this.2 (by omega)⟩
theorem HA:∀ (l:List T) (left deep:Int),(mZ l left deep).1≤left∧(0≤left→-1≤(mZ l left deep).1∧((mZ l left deep).2=true→0≤(mZ l left deep).1))
 | [],left,deep=>by simp [mZ];omega
 | x::r,left,deep=>by
   have h1:=Bv x left deep
   simp only [mZ]
   split
   ·rename_i hb
    have h2:=HA r (iC x left deep).1 deep
    exact ⟨by omega,fun h0=>h2.2 ((h1.2 h0).2 hb)⟩
   ·exact ⟨h1.1,fun h0=>⟨(h1.2 h0).1,fun e=>by cases e⟩⟩
end
theorem Jv {l:List T} {i:Nat} {left d:Int} (h:i < l.length):mZ (l.drop i) left d=if (iC (l.getD i default) left d).2=true then mZ (l.drop (i + 1)) (iC (l.getD i default) left d).1 d else ((iC (l.getD i default) left d).1,false):=by
 rw [aaG h]
 simp [mZ,h]
theorem Yz (x:T) (left deep:Int) (h0:0≤left) (h1:left≤100000) (h2:0≤deep) (h3:deep≤201) :
 Pure Tryz.prog 214 [x.av,.int .i64 left,.int .i64 deep] (.tuple [.int .i64 (iC x left deep).1,.bool (iC x left deep).2]):=by
 have ih:∀ y∈x.l,∀ (left deep:Int),0≤left→left≤100000→0≤deep→deep≤201→
  Pure Tryz.prog 214 [y.av,.int .i64 left,.int .i64 deep] (.tuple [.int .i64 (iC y left deep).1,.bool (iC y left deep).2]):=fun y hy left deep h0 h1 h2 h3=>Yz y left deep h0 h1 h2 h3
 have e:iC x left deep=if left - 1 < 0∨200 < deep then (left - 1,false) else mZ x.l (left - 1) (deep + 1):=by cases x;simp only [iC,T.l]
 have w1:IntKind.i64.wrap (left - 1)=left - 1:=cR _ (by omega)
 have w2:IntKind.i64.wrap (deep + 1)=deep + 1:=cR _ (by omega)
 refine fun H=>XL.2.calls rfl ?_
 simp only [XL,aJ]
 simp +contextual only [w1,sZ,Nat.reduceEqDiff,Nat.reduceAdd,↓reduceIte,reduceCtorEq]
 refine ⟨fun h4=>⟨fun h5=>Hv (by decide) rfl rfl (by rw [e,if_pos (.inr h5)];rfl) (by rw [e,if_pos (.inr h5)];rfl),fun h5=>?_⟩,fun h4=>Hv (by decide) rfl rfl (by rw [e,if_pos (.inl h4)];rfl) (by rw [e,if_pos (.inl h4)];rfl)⟩
 have e2:iC x left deep=mZ x.l (left - 1) (deep + 1):=by rw [e,if_neg (by omega)]
 refine aM x.l.length (fun i (s:Int)=>0≤s∧s≤100000∧mZ (x.l.drop i) s (deep + 1)=iC x left deep)
  (fun i s=>[(1,.int .i64 s),(2,.int .i64 deep),(3,x.av.ai),(8,.int .i64 i)]) (fun i s=>H) (left - 1) ⟨⟨by omega,by omega,by rw [e2];rfl⟩,aB _ _ _⟩ fun i s hi hI=>?_
 obtain ⟨k0,k1,hI⟩:=hI
 simp +contextual only [w2,sZ,Nat.reduceEqDiff,Nat.reduceAdd,↓reduceIte,reduceCtorEq]
 intro hl
 refine ⟨fun aX=>⟨b9 aX,?_⟩,fun jV=>?_⟩
 ·have aX:=b9 aX
  rw [Jv aX] at hI
  have hle:=Bv (x.l.getD i default) s (deep + 1)
  refine ae (ih _ (iB aX) s (deep + 1) k0 k1 (by omega) (by omega)) ?_
  simp +contextual only [sZ,Nat.reduceEqDiff,Nat.reduceAdd,Nat.reduceLT,↓reduceIte]
  refine vE (fun hb=>?_) (fun hb=>?_) <;> simp +contextual only [sZ,Nat.reduceEqDiff,↓reduceIte,reduceCtorEq]
  ·rw [if_pos hb] at hI
   exact ⟨i + 1,_,⟨aX,(hle.2 k0).2 hb,by omega,hI⟩,by omega,aD (by rw [au i (by omega)]) rfl⟩
  ·rw [if_neg (by rw [hb];simp)] at hI
   exact Hv (by decide) rfl rfl (by rw [← hI];rfl) (by rw [← hI];rfl)
 ·rw [aaF (dl jV)] at hI
  exact Hv (by decide) rfl rfl (by rw [← hI];rfl) (by rw [← hI];rfl)
termination_by SizeOf.sizeOf x
decreasing_by exact T.lt hy
theorem YA (x:T):Pure Tryz.prog 215 [x.av] (.bool x.shaped):=by
 have ih:∀ y∈x.l,Pure Tryz.prog 215 [y.av] (.bool y.shaped):=fun y hy=>YA y
 refine fun H=>XM.2.calls rfl ?_
 simp only [XM,aJ]
 simp +contextual only [sZ,Nat.reduceEqDiff,Nat.reduceAdd,↓reduceIte,reduceCtorEq,Int.reduceEq]
 have fin:∀ (H':List aa),H'=H→(x.n < 0∨(x.k=1∧0 < x.l.length)∨(x.k≠1∧x.k≠2)∨8 < x.l.length)→b8 H.length [RX.t 2] [(2,AV.bool false)] H' fun r H'=>r=AV.bool x.shaped∧H'=H:=by
  rintro H' rfl hh
  refine bc rfl ?_
  rw [x.fI]
  rcases hh with h | h | h | h <;> simp [h]
 refine ⟨fun h=>⟨fun h1=>⟨fun h2 hl=>⟨fun h3=>fin _ rfl (by omega),fun h3=>?_⟩,fun h2=>fin _ rfl (by omega)⟩,fun h1 hl=>⟨fun h2=>⟨fun h3=>fin _ rfl (by omega),fun h3=>?_⟩,fun h2=>fin _ rfl (by omega)⟩⟩,fun h=>fin _ rfl (by omega)⟩
 all_goals
  have go:x.shaped=fH x.l:=T.Ju (by omega)
  refine aC x.l.length (fun i=>fH (x.l.drop i)=x.shaped) (fun i=>[(1,x.av.ai),(3,.int .i64 i)]) (fun i=>H) ⟨by rw [go];rfl,aB _ _ _⟩ fun i hi hI=>?_
  simp +contextual only [sZ,Nat.reduceEqDiff,Nat.reduceAdd,↓reduceIte,reduceCtorEq]
  intro _
  refine ⟨fun aX=>⟨b9 aX,?_⟩,fun jV=>?_⟩
  ·have aX:=b9 aX
   rw [Bu aX] at hI
   refine ae (ih _ (iB aX)) ?_
   simp +contextual only [sZ,Nat.reduceEqDiff,↓reduceIte]
   refine vE (fun hb=>?_) (fun hb=>?_) <;> simp +contextual only [sZ,Nat.reduceEqDiff,↓reduceIte,reduceCtorEq]
   ·exact ⟨i + 1,⟨aX,by rw [hb] at hI;simpa using hI⟩,by omega,aD (by rw [au i (by omega)]) rfl⟩
   ·exact bc rfl (by rw [← hI,hb];rfl)
  ·rw [aaF (dl jV)] at hI
   exact bc rfl (by rw [← hI];rfl)
termination_by SizeOf.sizeOf x
decreasing_by exact T.lt hy
theorem ab4 (x:T):Pure Tryz.prog 175 [x.av] (.bool ((iC x 2000 1).2 && x.shaped)):=by
 refine fun H=>Xp.2.calls rfl ?_
 simp only [Xp,aJ]
 simp +contextual only [sZ,Nat.reduceEqDiff,Nat.reduceAdd,↓reduceIte]
 refine ae (Yz x 2000 1 (by omega) (by omega) (by omega) (by omega)) ?_
 cases hb:(iC x 2000 1).2 <;> simp +contextual only [sZ,Nat.reduceEqDiff,Nat.reduceAdd,Nat.reduceLT,↓reduceIte,reduceCtorEq]
 ·exact bc rfl rfl
 ·refine ae (YA x) ?_
  simp +contextual only [sZ,Nat.reduceEqDiff,↓reduceIte,reduceCtorEq]
  exact bc rfl rfl
end Go.aI
end
section
set_option maxRecDepth 100000
namespace Go.aI
open Go Go.Proofs
mutual
def T.sz:T→Int
 | .mk _ _ l=>1 + x7 l
def x7:List T→Int
 | []=>0
 | x::r=>x.sz + x7 r
end
mutual
def T.dp:T→Int
 | .mk _ _ l=>1 + FX l
def FX:List T→Int
 | []=>0
 | x::r=>max x.dp (FX r)
end
mutual
theorem T.FY:∀ x:T,1≤x.sz
 | .mk k n l=>by simp only [T.sz];have:=rR l;omega
theorem rR:∀ l:List T,0≤x7 l
 | []=>by simp [x7]
 | x::r=>by simp only [x7];have:=T.FY x;have:=rR r;omega
end
mutual
theorem T.Bw:∀ x:T,1≤x.dp
 | .mk k n l=>by simp only [T.dp];have:=ph l;omega
theorem ph:∀ l:List T,0≤FX l
 | []=>by simp [FX]
 | x::r=>by simp only [FX];have:=T.Bw x;have:=ph r;omega
end
def eT (s:Int×Int):Prop:=2000 < s.1∨200 < s.2
mutual
theorem s7:∀ (x:T) (d:Int) (s:Int×Int),pS d s→(¬ eT (gG x d s)↔s.1 + x.sz≤2000∧d + x.dp - 1≤200)∧(¬ eT (gG x d s)→(gG x d s).1=s.1 + x.sz∧(gG x d s).2=max s.2 (d + x.dp - 1))
 | .mk k n l,d,s,h=>by
   obtain ⟨h1,h2,h3,h4,h5,h6⟩:=h
   simp only [gG,T.sz,T.dp]
   have hp:=ph l
   have ih:=zK l (d + 1) (s.1 + 1,max s.2 d) (by unfold mY;simp only;omega) (by omega) (by simp only;omega)
   simp only at ih
   refine ⟨ih.1.trans ⟨fun k=>⟨by omega,by omega⟩,fun k=>⟨by omega,by omega,by omega⟩⟩,fun k=>?_⟩
   have k1:=ih.2 k
   have k2:=ih.1.1 k
   exact ⟨by omega,by omega⟩
theorem zK:∀ (l:List T) (d:Int) (s:Int×Int),mY s→0≤d→d≤s.2 + 1→(¬ eT (lD l d s)↔s.1 + x7 l≤2000∧s.2≤200∧d + FX l - 1≤200)∧(¬ eT (lD l d s)→(lD l d s).1=s.1 + x7 l∧(lD l d s).2=max s.2 (d + FX l - 1))
 | [],d,s,h,h5,h6=>by
   simp only [lD,x7,FX,eT]
   exact ⟨⟨fun k=>⟨by omega,by omega,by omega⟩,fun k=>by omega⟩,fun k=>⟨by omega,by omega⟩⟩
 | x::r,d,s,h,h5,h6=>by
   obtain ⟨h1,h2,h3,h4⟩:=h
   simp only [lD]
   have Kk:=x.FY
   have hd0:=x.Bw
   have hr0:=rR r
   have he0:=ph r
   simp only [x7,FX]
   by_cases ho:2000 < s.1∨200 < s.2
   ·rw [if_pos ho]
    refine ⟨⟨fun k=>absurd ho k,fun k=>?_⟩,fun k=>absurd ho k⟩
    omega
   ·rw [if_neg ho]
    have jt:pS d s:=⟨h1,by omega,h3,by omega,h5,by omega⟩
    have hx:=s7 x d s jt
    have YB:=xg x d s jt
    have RM:=s5 x d s
    have ih:=zK r d (gG x d s) YB.1 h5 (by omega)
    generalize gG x d s=t at *
    by_cases hot:eT t
    ·have hn:eT (lD r d t):=by
      refine Classical.byContradiction fun hc=>?_
      have:=ih.1.1 hc
      unfold eT at hot
      omega
     refine ⟨⟨fun k=>absurd hn k,fun k=>?_⟩,fun k=>absurd hn k⟩
     have:=hx.1.2 (by omega)
     exact absurd hot this
    ·have k1:=hx.2 hot
     have k2:=hx.1.1 hot
     refine ⟨ih.1.trans ⟨fun k=>⟨by omega,by omega,by omega⟩,fun k=>⟨by omega,by omega,by omega⟩⟩,fun k=>?_⟩
     have k3:=ih.2 k
     exact ⟨by omega,by omega⟩
end
theorem s8 (s:Int×Int):uB s=true↔eT s:=by simp [uB,eT]
mutual
theorem zL:∀ (x:T) (left d:Int),0≤left→d≤201→((iC x left d).2=true↔x.sz≤left∧d + x.dp - 1≤200)∧((iC x left d).2=true→(iC x left d).1=left - x.sz)
 | .mk k n l,left,d,h0,hd=>by
   simp only [iC,T.sz,T.dp]
   have hp:=ph l
   have hs:=rR l
   by_cases ho:left - 1 < 0∨200 < d
   ·rw [if_pos ho]
    refine ⟨⟨fun k=>(by cases k),fun k=>?_⟩,fun k=>(by cases k)⟩
    omega
   ·rw [if_neg ho]
    have ih:=zM l (left - 1) (d + 1) (by omega) (by omega)
    exact ⟨ih.1.trans ⟨fun k=>⟨by omega,by omega⟩,fun k=>⟨by omega,by omega⟩⟩,fun k=>by have:=ih.2 k;omega⟩
theorem zM:∀ (l:List T) (left d:Int),0≤left→d≤201→((mZ l left d).2=true↔x7 l≤left∧d + FX l - 1≤200)∧((mZ l left d).2=true→(mZ l left d).1=left - x7 l)
 | [],left,d,h0,hd=>by simp only [mZ,x7,FX];exact ⟨⟨fun _=>⟨by omega,by omega⟩,fun _=>trivial⟩,fun _=>by omega⟩
 | x::r,left,d,h0,hd=>by
   simp only [mZ,x7,FX]
   have Kk:=x.FY
   have hd0:=x.Bw
   have hr0:=rR r
   have he0:=ph r
   have hx:=zL x left d h0 hd
   have hle:=Bv x left d
   cases hb:(iC x left d).2 with
   | false=>
     rw [if_neg (by simp)]
     refine ⟨⟨fun k=>(by cases k),fun k=>?_⟩,fun k=>(by cases k)⟩
     have:=hx.1.2 (by omega)
     rw [hb] at this;cases this
   | true=>
     rw [if_pos rfl]
     have k1:=hx.2 hb
     have k2:=hx.1.1 hb
     have ih:=zM r (iC x left d).1 d ((hle.2 h0).2 hb) hd
     exact ⟨ih.1.trans ⟨fun k=>⟨by omega,by omega⟩,fun k=>⟨by omega,by omega⟩⟩,fun k=>by have:=ih.2 k;omega⟩
end
theorem T.iD (x:T):x.tree=true↔x.sz≤2000∧x.dp≤200∧x.shaped=true:=by
 have h:=(s7 x 1 (0,0) (by unfold pS;simp)).1
 unfold T.tree
 rw [Sr,aaN,← Bool.not_eq_true,s8]
 constructor
 ·rintro ⟨h1,h2⟩
  have:=h.1 h1
  simp only at this
  exact ⟨by omega,by omega,h2⟩
 ·rintro ⟨h1,h2,h3⟩
  exact ⟨h.2 (by simp only;omega),h3⟩
theorem UM (x:T):((iC x 2000 1).2 && x.shaped)=x.tree:=by
 have h:=(zL x 2000 1 (by omega) (by omega)).1
 rw [abn,Sr,h,T.iD]
 constructor
 ·rintro ⟨⟨h1,h2⟩,h3⟩;exact ⟨h1,by omega,h3⟩
 ·rintro ⟨h1,h2,h3⟩;exact ⟨⟨h1,by omega⟩,h3⟩
theorem YC (x:T):Pure Tryz.prog 175 [x.av] (.bool x.tree):=by rw [← UM];exact ab4 x
def ents (vs:List Int):List (AV×AV):=vs.map fun v=>(.int .i64 v,.bool true)
def iK:List Int→AV
 | []=>.ag
 | v::r=>.ap 1 (ints (v::r))
theorem gO (vs:List Int) (n:Int):AV.ap 1 (ints (vs++[n]))=iK (vs++[n]):=by
 cases vs <;> rfl
theorem LS (vs:List Int):(iK vs).one=true:=by cases vs <;> rfl
theorem LU (k:Nat) (vs:List Int):(iK vs).a9 k=true:=by
 cases vs with
 | nil=>rfl
 | cons v r=>simp only [iK,cc,bb]
theorem oB (vs:List Int) (n:Int) (o:Nat) (ψ:List AV→Prop):bE 1 8 (iK vs) (.ap o [.int .i64 n]) ψ=((vs.length + 1) * 8≤140737488355328∧ψ (ints (vs++[n]))):=by
 cases vs with
 | nil=>simp [iK,mT,ok_int,ints]
 | cons v r=>
   show bE 1 8 (.ap 1 (ints (v::r))) _ ψ=_
   rw [mU,ok_int,ay,sY]
   simp
theorem FZ (vs:List Int):(iK vs).ab.le (.ap 0 (ints vs)):=by
 cases vs with
 | nil=>exact .inr (.inr (.inr (.inl ⟨rfl,0,rfl⟩)))
 | cons v r=>exact le_refl _
end Go.aI
end
section
set_option maxRecDepth 100000
namespace Go.aI
open Go Go.Proofs
mutual
def YD (f:Int→T):T→T
 | .mk k n l=>if k=1 then f n else .mk k n (RN f l)
def RN (f:Int→T):List T→List T
 | []=>[]
 | x::r=>YD f x::RN f r
end
def F0:List T→AV
 | []=>.ag
 | v::r=>.ap 3 (cQ (v::r))
theorem LV (l:List T) (x:T):cQ l++[x.av]=cQ (l++[x]):=by simp [mW]
theorem Jw (vs:List T) (n:T):AV.ap 3 (cQ (vs++[n]))=F0 (vs++[n]):=by
 cases vs <;> rfl
theorem P7 (b:Nat) (vs:List T) (n:T) (o:Nat) (ψ:List AV→Prop):bE 3 b (F0 vs) (.ap o [n.av]) ψ=((vs.length + 1) * b≤140737488355328∧ψ (cQ (vs++[n]))):=by
 cases vs with
 | nil=>simp [F0,mT,UH,cQ]
 | cons v r=>
   show bE 3 b (.ap 3 (cQ (v::r))) _ ψ=_
   rw [mU,UH,vG,LV]
   simp
theorem kU {x:T} (h:x.shaped=true):x.l.length≤8∧∀ y∈x.l,y.shaped=true:=by
 rw [x.fI,Sr,aaN,abz] at h
 have h1:=h.1.2
 have h2:=h.2
 rw [oA] at h2
 exact ⟨by simpa using h1,fun y hy=>aaJ.1 h2 y hy⟩
end Go.aI
end
section
set_option maxRecDepth 100000
namespace Go.aI
open Go Go.Proofs
end Go.aI
end
section
set_option maxRecDepth 100000
namespace Go.aI
open Go Go.RowKit
mutual
def T.wf:T→Prop
 | .mk k n l=>(-9223372036854775808≤k∧k≤9223372036854775807)∧(-9223372036854775808≤n∧n≤9223372036854775807)∧l.length≤9223372036854775807∧V3 l
def V3:List T→Prop
 | []=>True
 | x::r=>x.wf∧V3 r
end
theorem HB:∀ l:List T,V3 l↔∀ x∈l,x.wf
 | []=>by simp [V3]
 | x::r=>by simp [V3,HB r]
section
variable {H:Type} {enc:TypeId×Value→H} {P:Program} {w:World} {base:Nat} {sp:Nat→Bool} {held:Bool}
structure F3 (P:Program) (ti tt tl:TypeId):Prop where
 int:P.underlying ti=some (.int .i64)
 tree:∃ f0 f1 f2:Field,P.underlying tt=some (.struct #[f0,f1,f2])∧f0.type=ti∧f0.offset=0∧f1.type=ti∧f1.offset=1∧f2.type=tl∧f2.offset=2
 list:P.underlying tl=some (.slice tt)
 c1:P.cellsOf ti=1
 c3:P.cellsOf tt=3
 cl:P.cellsOf tl=1
theorem LW {n:Int} (h:(Lit.int .i64 n).wf=true):-9223372036854775808≤n∧n≤9223372036854775807:=by
 simp only [Lit.wf,Sr,decide_eq_true_eq] at h
 revert h
 simp [IntKind.has,IntKind.min,IntKind.max,IntKind.signed,IntKind.bits]
theorem F4 {n:Nat} {p:Nat→T→Prop} (h:∀ i,i < n→∃ t,p i t):∃ f:Nat→T,∀ i,i < n→p i (f i):=by
 refine ⟨fun i=>if hi:i < n then Classical.choose (h i hi) else default,fun i hi=>?_⟩
 simp only [dif_pos hi]
 exact Classical.choose_spec (h i hi)
def isT (w:World) (cs:List Value) (t:T):Prop:=aN (fZ w) [] cs t.av.cells∧t.wf
def UN (w:World) (cs:List Value) (l:List T):Prop:=(∃ v,cs=[v]∧(∃ y,aT (fZ w) [] v y∧(y=.ap 0 (cQ l)∨(y=.ag∧l=[]))))∧l.length≤9223372036854775807∧V3 l
theorem UN.rep {cs:List Value} {l:List T} (h:UN w cs l):∃ v,cs=[v]∧aT (fZ w) [] v (.ap 0 (cQ l)):=by
 obtain ⟨⟨v,rfl,y,hr,hy⟩,_⟩:=h
 refine ⟨v,rfl,?_⟩
 rcases hy with rfl | ⟨rfl,rfl⟩
 ·exact hr
 ·exact hr.drop
def RP (d:DataW H) (l:List T):Prop:=match d with | .slice es _=>l.length=es.length | _=>l=[]
theorem Jx {ti tt tl:TypeId} (hT:F3 P ti tt tl):∀ (fuel:Nat),
 (∀ (cs:List Value) (x:DataW H×List MemPlace),DataW.trod enc P w base sp held fuel tt cs=some x→∃ t:T,isT w cs t)∧
 (∀ (cs:List Value) (x:DataW H×List MemPlace),DataW.trod enc P w base sp held fuel tl cs=some x→∃ l:List T,UN w cs l∧RP x.1 l):=by
 intro fuel
 induction fuel with
 | zero=>exact ⟨fun cs x h=>by simp [DataW.trod] at h,fun cs x h=>by simp [DataW.trod] at h⟩
 | succ n ih=>
   refine ⟨fun cs x h=>?_,fun cs x h=>?_⟩
   ·obtain ⟨f0,f1,f2,hu,h0,o0,h1,o1,h2,o2⟩:=hT.tree
    obtain ⟨xs,m,hm,rfl,hlen,fS,hf⟩:=DataW.trod_struct hu h
    cases hm
    have g0:=hf 0 f0 rfl
    have g1:=hf 1 f1 rfl
    have g2:=hf 2 f2 rfl
    rw [h0,o0,hT.c1] at g0
    rw [h1,o1,hT.c1] at g1
    rw [h2,o2,hT.cl] at g2
    simp at fS
    rw [hT.c3] at hlen
    match cs,hlen with
    | [a,b,c],_=>
      have e0:xs[0]?=some xs[0]:=by simp [fS]
      have e1:xs[1]?=some xs[1]:=by simp [fS]
      have e2:xs[2]?=some xs[2]:=by simp [fS]
      rw [e0] at g0;rw [e1] at g1;rw [e2] at g2
      obtain ⟨k,ek,_,wk⟩:=DataW.trod_int hT.int g0
      obtain ⟨q,eq,_,wq⟩:=DataW.trod_int hT.int g1
      obtain ⟨l,hl,_⟩:=ih.2 _ _ g2
      obtain ⟨v,ev,hv⟩:=hl.rep
      simp at ek eq ev
      subst ek eq ev
      exact ⟨.mk k q l,.cons _ _ _ _ (.int _ _) (.cons _ _ _ _ (.int _ _) (.cons _ _ _ _ hv .nil)),LW wk,LW wq,hl.2.1,hl.2.2⟩
   ·rcases DataW.trod_slice hT.list h with ⟨rfl,rfl⟩ | ⟨a,len,cap,elems,rest,m,hm,rfl,rfl,hb,hle,cE,Sz,j5,_,_⟩
    ·exact ⟨[],⟨⟨_,rfl,.ag,.ag,.inr ⟨rfl,rfl⟩⟩,by simp,trivial⟩,rfl⟩
    cases hm
    rw [hT.c3] at j5
    have hex:∀ i,i < len→∃ t:T,∃ cs',w.cells? base (a.add (i * 3)) 3=some cs'∧isT w cs' t:=by
     intro i hi
     have:=j5 i hi
     rw [Nq (by omega)] at this
     obtain ⟨cs',k1,k2⟩:=Option.bind_eq_some_iff.1 this
     obtain ⟨t,ht⟩:=ih.1 _ _ k2
     exact ⟨t,cs',k1,ht⟩
    obtain ⟨f,hf⟩:=F4 hex
    have VQ:maxLen=9223372036854775807:=rfl
    refine ⟨(List.range len).map f,⟨⟨_,rfl,_,?_,.inl rfl⟩,by simp;omega,?_⟩,by simp [RP,Sz]⟩
    ·rw [mW,ab9]
     refine zE (e:=3) (base:=base) (by decide) hle cE (fun i=>if hi:i < len then Classical.choose (hf i hi) else []) _ fun i hi=>?_
     simp only [dif_pos hi]
     obtain ⟨k1,k2⟩:=Classical.choose_spec (hf i hi)
     exact ⟨k1,k2.1⟩
    ·rw [HB]
     intro x hx
     obtain ⟨i,hi,rfl⟩:=aaq.1 hx
     obtain ⟨cs',_,k2⟩:=hf i (aaP.1 hi)
     exact k2.2
theorem LX {ti tt tl:TypeId} (hT:F3 P ti tt tl) {r:Reach} {b0:Nat} {v:Value} {d:DataW H} {ps:List MemPlace} (lK:Value.okWide P w r b0 tt v) (hd:DataW.Trod enc P w base sp held tt v d ps) :
 ∃ t:T,aT (fZ w) [] v t.av∧t.wf:=by
 obtain ⟨f0,f1,f2,hu,_⟩:=hT.tree
 obtain ⟨cs,rfl,_⟩:=WideShapes.okWide_struct hu lK
 obtain ⟨fuel,hf⟩:=hd
 obtain ⟨t,h1,h2⟩:=(Jx hT fuel).1 _ _ hf
 refine ⟨t,?_,h2⟩
 have:aT (fZ w) [] (.agg cs.toList.toArray) (.agg t.av.cells):=.agg _ _ h1
 rw [t.pg] at this
 simpa using this
end
end Go.aI
end
section
end
section
set_option maxRecDepth 100000
namespace Go.aI
open Go Go.Proofs
end Go.aI
end
section
set_option maxRecDepth 100000
namespace Go.aI
open Go Go.Proofs
def zO (t:T):Int×Int:=if t.sz≤2000∧t.dp≤200 then (t.sz,t.dp) else (2001,201)
theorem ab5 (t:T):(¬ eT (gG t 1 (0,0))↔t.sz≤2000∧t.dp≤200)∧(¬ eT (gG t 1 (0,0))→gG t 1 (0,0)=(t.sz,t.dp)):=by
 have h:=s7 t 1 (0,0) (by unfold pS;simp)
 have hd:=t.Bw
 refine ⟨h.1.trans ⟨fun k=>⟨by omega,by omega⟩,fun k=>⟨by simp only;omega,by omega⟩⟩,fun k=>?_⟩
 have:=h.2 k
 exact Prod.ext (by simpa using this.1) (by have:=this.2;simp only at this ⊢;omega)
theorem ag2 (t:T):Pure Tryz.prog 122 [t.av] (.tuple [.int .i64 (zO t).1,.int .i64 (zO t).2]):=by
 refine fun H=>WY.2.calls rfl ?_
 simp only [WY,aJ]
 simp +contextual only [sZ,Nat.reduceEqDiff,Nat.reduceAdd,↓reduceIte,reduceCtorEq]
 refine af (UL H t 1 (0,0) (by unfold pS;simp)) ?_
 rintro r H' ⟨rfl,rfl⟩
 simp +contextual only [sZ,Nat.reduceEqDiff,Nat.reduceAdd,↓reduceIte]
 refine af (Yx H (gG t 1 (0,0))) ?_
 rintro r H' ⟨rfl,rfl⟩
 have h0:=ab5 t
 cases hb:uB (gG t 1 (0,0)) with
 | true=>
   have hn:¬ (t.sz≤2000∧t.dp≤200):=fun h=>h0.1.2 h ((s8 _).1 hb)
   simp +contextual only [eV,sZ,Nat.reduceEqDiff,↓reduceIte,reduceCtorEq]
   exact zB (by decide) rfl rfl (by rw [zO,if_neg hn];rfl) (by rw [zO,if_neg hn];rfl)
 | false=>
   have hn:¬ eT (gG t 1 (0,0)):=fun h=>by rw [(s8 _).2 h] at hb;cases hb
   have h1:=h0.1.1 hn
   rw [h0.2 hn]
   simp +contextual only [eV,sZ,Nat.reduceEqDiff,Nat.reduceAdd,Nat.reduceLT,↓reduceIte,reduceCtorEq]
   exact zB (by decide) rfl rfl (by rw [zO,if_pos h1];rfl) (by rw [zO,if_pos h1];rfl)
theorem ab6 (a b:List Int) (o o':Nat):Pure Tryz.prog 198 [.ap o (ints a),.ap o' (ints b)] (.bool (decide (a=b))):=by
 refine fun H=>XD.2.calls rfl ?_
 simp only [XD,aJ]
 simp +contextual only [sZ,Nat.reduceEqDiff,Nat.reduceAdd,↓reduceIte,reduceCtorEq]
 refine fun _ _=>⟨fun dG=>bc rfl ?_,fun hl=>?_⟩
 ·rw [decide_eq_false]
  intro h;subst h;exact dG rfl
 have hl:a.length=b.length:=by omega
 refine aC a.length (fun i=>decide (a.drop i=b.drop i)=decide (a=b)) (fun i=>[(0,.ap o (ints a)),(1,.ap o' (ints b)),(5,.int .i64 i)]) (fun i=>H) ⟨rfl,aB _ _ _⟩ fun i hi hI=>?_
 simp +contextual only [sZ,Nat.reduceEqDiff,↓reduceIte,reduceCtorEq]
 intro _
 refine ⟨fun aX=>⟨b9 aX,?_⟩,fun jV=>?_⟩
 ·have aX:=b9 aX
  have UO:i < b.length:=by omega
  rw [aaG aX,aaG UO] at hI
  have e1:a.getD i 0=a[i]:=by simp [aX]
  have e2:b.getD i 0=b[i]:=by simp [UO]
  rw [e1,e2]
  refine ⟨UO,fun dG=>bc rfl ?_,fun he=>⟨i + 1,⟨aX,?_⟩,by omega,aD (by rw [au i (by omega)]) rfl⟩⟩
  ·rw [← hI,decide_eq_false]
   intro h;exact dG (List.cons.inj h).1
  ·rw [← hI,he]
   exact decide_eq_decide.2 (by rw [List.cons.injEq];simp only [true_and])
 ·have jV:=dl jV
  rw [aaF jV,aaF (by omega)] at hI
  exact bc rfl (by rw [← hI];rfl)
theorem UP (l:List T):qP 3 (cQ l)=True:=by
 simp only [qP,eq_iff_iff,iff_true]
 intro y hy
 rw [mW] at hy
 obtain ⟨z,_,rfl⟩:=aaq.1 hy
 exact ⟨z.iA,z.qw⟩
end Go.aI
end
section
set_option maxRecDepth 100000
namespace Go.aI
open Go Go.Proofs
def sub (l:List T) (t:T):T:=YD (fun n=>l.getD n.toNat default) t
end Go.aI
end
section
namespace Go.eJ
open Go.aI
mutual
def code:T→List Int
 | .mk k n l=>k::n::(l.length:Int)::zP l
def zP:List T→List Int
 | []=>[]
 | x::r=>code x++zP r
end
mutual
theorem DF:∀ (a b:T) (r s:List Int),code a++r=code b++s→a=b∧r=s
 | .mk k n l,.mk k' n' l',r,s,h=>by
   simp only [code,List.cons_append,List.cons.injEq] at h
   obtain ⟨h1,h2,h3,h4⟩:=h
   obtain ⟨h5,h6⟩:=zQ l l' r s (by omega) h4
   exact ⟨by rw [h1,h2,h5],h6⟩
theorem zQ:∀ (l m:List T) (r s:List Int),l.length=m.length→zP l++r=zP m++s→l=m∧r=s
 | [],[],r,s,_,h=>⟨rfl,by simpa [zP] using h⟩
 | x::l,y::m,r,s,hl,h=>by
   simp only [zP,aaD] at h
   obtain ⟨h1,h2⟩:=DF x y _ _ h
   obtain ⟨h3,h4⟩:=zQ l m r s (by simpa using hl) h2
   exact ⟨by rw [h1,h3],h4⟩
 | [],_::_,_,_,h,_=>by simp at h
 | _::_,[],_,_,h,_=>by simp at h
end
theorem HC {a b:T} (h:code a=code b):a=b:=(DF a b [] [] (by rw [h])).1
instance:DecidableEq T:=fun a b=>decidable_of_iff (code a=code b) ⟨HC,fun h=>by rw [h]⟩
def Ca (a b:T):Prop:=code a≤code b
instance (a b:T):Decidable (Ca a b):=inferInstanceAs (Decidable (code a≤code b))
theorem DG {a b:T} (h1:Ca a b) (h2:Ca b a):a=b:=HC (List.le_antisymm h1 h2)
theorem zR (a b:T):Ca a b∨Ca b a:=List.le_total _ _
theorem zS {a b c:T} (h1:Ca a b) (h2:Ca b c):Ca a c:=List.le_trans h1 h2
def ins (x:T):List T→List T
 | []=>[x]
 | y::r=>if Ca x y then x::y::r else y::ins x r
def yC:List T→List T
 | []=>[]
 | x::r=>ins x (yC r)
theorem DH (x:T):∀ l,(ins x l).Perm (x::l)
 | []=>List.Perm.refl _
 | y::r=>by
   simp only [ins]
   split
   ·exact List.Perm.refl _
   ·exact ((DH x r).cons y).trans (List.Perm.swap _ _ _)
theorem lW:∀ l,(yC l).Perm l
 | []=>List.Perm.refl _
 | x::r=>(DH x _).trans ((lW r).cons x)
theorem DI (x y:T):∀ l,ins x (ins y l)=ins y (ins x l)
 | []=>by
   simp only [ins]
   by_cases h1:Ca x y <;> by_cases h2:Ca y x <;> simp only [h1,h2,if_true,if_false,ins]
   ·rw [DG h1 h2]
   ·rcases zR x y with h | h
    ·exact absurd h h1
    ·exact absurd h h2
 | z::r=>by
   simp only [ins]
   by_cases hx:Ca x z <;> by_cases hy:Ca y z <;> simp only [hx,hy,if_true,if_false,ins]
   ·by_cases h1:Ca x y <;> by_cases h2:Ca y x <;> simp only [h1,h2,hx,hy,if_true,if_false,ins]
    ·rw [DG h1 h2]
    ·rcases zR x y with h | h
     ·exact absurd h h1
     ·exact absurd h h2
   ·have h2:¬ Ca y x:=fun h=>hy (zS h hx)
    simp only [h2,hy,if_false,ins]
   ·have h2:¬ Ca x y:=fun h=>hx (zS h hy)
    simp only [h2,hx,if_false,ins]
   ·rw [DI x y r]
theorem UQ {l m:List T} (h:l.Perm m):yC l=yC m:=by
 induction h with
 | nil=>rfl
 | cons x _ ih=>simp only [yC,ih]
 | swap x y l=>simp only [yC];exact DI _ _ _
 | trans _ _ h1 h2=>rw [h1,h2]
theorem HD {l m:List T}:yC l=yC m↔l.Perm m:=⟨fun h=>(lW l).symm.trans (h ▸ lW m),UQ⟩
theorem P8 {x:T} {l:List T}:x∈yC l↔x∈l:=(lW l).mem_iff
mutual
def wt:T→Nat
 | .mk _ _ l=>1 + fw l
def fw:List T→Nat
 | []=>0
 | x::r=>wt x + fw r
end
theorem HE {x:T}:∀ {l:List T},x∈l→wt x≤fw l
 | y::r,h=>by
   simp only [fw]
   rcases aan.1 h with rfl | h
   ·omega
   ·have:=HE h;omega
theorem dx (a:T):0 < wt a:=by cases a;simp only [wt];omega
theorem cH {a x:T} (h:x∈a.l):wt x < wt a:=by
 cases a with
 | mk k n l=>have:=HE (l:=l) h;simp only [wt];omega
structure Od where
 pl:Int→Int
 sp:Int→Int
mutual
def norm (O:Od):T→T
 | .mk k n l=>if k=2 then .mk 2 (O.pl n) (if O.sp (O.pl n)=3 then yC (DJ O l) else DJ O l) else .mk 1 n []
def DJ (O:Od):List T→List T
 | []=>[]
 | x::r=>norm O x::DJ O r
end
theorem zU (O:Od):∀ l,DJ O l=l.map (norm O)
 | []=>rfl
 | x::r=>by simp [DJ,zU O r]
def Lx (G:T→T→Prop):List T→List T→Prop
 | [],_=>False
 | _::_,[]=>True
 | x::l,y::m=>x=y∧Lx G l m∨G x y
def side (s:Int) (l:List T):List T:=if s=2 then l.reverse else l
def Mu (G:T→T→Prop) (l m:List T):Prop:=
 (∃ x∈l,m.count x < l.count x)∧∀ y∈m,l.count y < m.count y→∃ x∈l,m.count x < l.count x∧G x y
def Fm (sp:Int→Int) (G:T→T→Prop) (a b:T):Prop:=
 a.k=2∧((∃ x∈a.l,x=b∨G x b)∨b.k=2∧(
  (b.n < a.n∧∀ y∈b.l,G a y)∨
  (b.n=a.n∧sp a.n≠3∧(∀ y∈b.l,G a y)∧Lx G (side (sp a.n) a.l) (side (sp a.n) b.l))∨
  (b.n=a.n∧sp a.n=3∧Mu G a.l b.l)))
theorem lX {s:Int} {l:List T} {x:T}:x∈side s l↔x∈l:=by unfold side;split <;> simp
theorem DK {G G':T→T→Prop}:∀ {l m:List T},(∀ x∈l,∀ y∈m,(G x y↔G' x y))→(Lx G l m↔Lx G' l m)
 | [],_,_=>Iff.rfl
 | _::_,[],_=>Iff.rfl
 | x::l,y::m,h=>by
   simp only [Lx]
   rw [DK (fun x hx y hy=>h x (aay _ hx) y (aay _ hy)),h x aaB y aaB]
theorem DL {sp:Int→Int} {G G':T→T→Prop} {a b:T} (h1:∀ x∈a.l,(G x b↔G' x b)) (h2:∀ y∈b.l,(G a y↔G' a y)) (h3:∀ x∈a.l,∀ y∈b.l,(G x y↔G' x y)) :
 Fm sp G a b↔Fm sp G' a b:=by
 have e1:(∃ x∈a.l,x=b∨G x b)↔(∃ x∈a.l,x=b∨G' x b):=⟨fun ⟨x,hx,h⟩=>⟨x,hx,by rwa [← h1 x hx]⟩,fun ⟨x,hx,h⟩=>⟨x,hx,by rwa [h1 x hx]⟩⟩
 have e2:(∀ y∈b.l,G a y)↔(∀ y∈b.l,G' a y):=⟨fun h y hy=>(h2 y hy).1 (h y hy),fun h y hy=>(h2 y hy).2 (h y hy)⟩
 have e3:Lx G (side (sp a.n) a.l) (side (sp a.n) b.l)↔Lx G' (side (sp a.n) a.l) (side (sp a.n) b.l):=DK fun x hx y hy=>h3 x (lX.1 hx) y (lX.1 hy)
 have e4:Mu G a.l b.l↔Mu G' a.l b.l:=by
  unfold Mu
  refine and_congr Iff.rfl ⟨fun h y hy hc=>?_,fun h y hy hc=>?_⟩ <;> obtain ⟨x,hx,IC,hg⟩:=h y hy hc
  ·exact ⟨x,hx,IC,(h3 x hx y hy).1 hg⟩
  ·exact ⟨x,hx,IC,(h3 x hx y hy).2 hg⟩
 unfold Fm
 rw [e1,e2,e3,e4]
def NI (sp:Int→Int):Nat→T→T→Prop
 | 0=>fun _ _=>False
 | f + 1=>Fm sp (NI sp f)
def Gt (sp:Int→Int) (a b:T):Prop:=NI sp (wt a + wt b) a b
theorem gH (sp:Int→Int):∀ (f g:Nat) (a b:T),wt a + wt b≤f→wt a + wt b≤g→(NI sp f a b↔NI sp g a b)
 | 0,_,a,b,h,_=>by have:=dx a;omega
 | _ + 1,0,a,b,_,h=>by have:=dx a;omega
 | f + 1,g + 1,a,b,h1,h2=>by
   simp only [NI]
   refine DL (fun x hx=>?_) (fun y hy=>?_) (fun x hx y hy=>?_)
   ·have:=cH hx;exact gH sp f g x b (by omega) (by omega)
   ·have:=cH hy;exact gH sp f g a y (by omega) (by omega)
   ·have:=cH hx;have:=cH hy;exact gH sp f g x y (by omega) (by omega)
theorem xi {sp:Int→Int} {a b:T}:Gt sp a b↔Fm sp (Gt sp) a b:=by
 have e:NI sp (wt a + wt b) a b↔NI sp (wt a + wt b + 1) a b:=gH sp _ _ a b (by omega) (by omega)
 unfold Gt
 rw [e]
 show Fm sp (NI sp (wt a + wt b)) a b↔_
 refine DL (fun x hx=>?_) (fun y hy=>?_) (fun x hx y hy=>?_)
 ·have:=cH hx;exact gH sp _ _ x b (by omega) (by omega)
 ·have:=cH hy;exact gH sp _ _ a y (by omega) (by omega)
 ·have:=cH hx;have:=cH hy;exact gH sp _ _ x y (by omega) (by omega)
section
variable {sp:Int→Int}
theorem zV {a b:T} (h:Gt sp a b):a.k=2:=(xi.1 h).1
theorem qx {a b x:T} (ha:a.k=2) (hx:x∈a.l) (h:x=b∨Gt sp x b):Gt sp a b:=xi.2 ⟨ha,.inl ⟨x,hx,h⟩⟩
theorem nw {l m:List T} {x:T} (h:m.count x < l.count x):x∈l:=aaR.1 (by omega)
theorem rS {a b:T} (h:Gt sp a b):(∃ x∈a.l,x=b∨Gt sp x b)∨b.k=2∧(∀ y∈b.l,Gt sp a y)∧(
 b.n < a.n∨(b.n=a.n∧sp a.n≠3∧Lx (Gt sp) (side (sp a.n) a.l) (side (sp a.n) b.l))∨(b.n=a.n∧sp a.n=3∧Mu (Gt sp) a.l b.l)):=by
 obtain ⟨ha,h | ⟨hb,h | h | h⟩⟩:=xi.1 h
 ·exact .inl h
 ·exact .inr ⟨hb,h.2,.inl h.1⟩
 ·exact .inr ⟨hb,h.2.2.1,.inr (.inl ⟨h.1,h.2.1,h.2.2.2⟩)⟩
 ·refine .inr ⟨hb,fun y hy=>?_,.inr (.inr h)⟩
  obtain ⟨_,_,_,h2⟩:=h
  by_cases hc:a.l.count y < b.l.count y
  ·obtain ⟨x,hx,_,hg⟩:=h2 y hy hc
   exact qx ha hx (.inr hg)
  ·have:0 < b.l.count y:=aaR.2 hy
   exact qx ha (aaR.1 (by omega)) (.inl rfl)
theorem YE {a b:T} (ha:a.k=2) (hb:b.k=2) (h1:∀ y∈b.l,Gt sp a y) (h2:b.n < a.n∨(b.n=a.n∧sp a.n≠3∧Lx (Gt sp) (side (sp a.n) a.l) (side (sp a.n) b.l))∨(b.n=a.n∧sp a.n=3∧Mu (Gt sp) a.l b.l)):Gt sp a b:=by
 refine xi.2 ⟨ha,.inr ⟨hb,?_⟩⟩
 rcases h2 with h | h | h
 ·exact .inl ⟨h,h1⟩
 ·exact .inr (.inl ⟨h.1,h.2.1,h1,h.2.2⟩)
 ·exact .inr (.inr h)
theorem P9:∀ {a b y:T},Gt sp a b→b.k=2→y∈b.l→Gt sp a y:=by
 intro a
 induction h:wt a using Nat.strongRecOn generalizing a with
 | _ n ih=>
   intro b y uC hb hy
   rcases rS uC with ⟨x,hx,rfl | hg⟩ | ⟨_,h1,_⟩
   ·exact qx (zV uC) hx (.inr (qx hb hy (.inl rfl)))
   ·exact qx (zV uC) hx (.inr (ih _ (by have:=cH hx;omega) rfl hg hb hy))
   ·exact h1 y hy
theorem LY {G:T→T→Prop}:∀ {l:List T},Lx G l l→∃ x∈l,G x x
 | x::l,h=>by
   rcases h with ⟨_,h⟩ | h
   ·obtain ⟨y,hy,hg⟩:=LY h;exact ⟨y,aay _ hy,hg⟩
   ·exact ⟨x,aaB,h⟩
theorem xj:∀ a:T,¬ Gt sp a a:=by
 intro a
 induction h:wt a using Nat.strongRecOn generalizing a with
 | _ n ih=>
   intro hg
   rcases rS hg with ⟨x,hx,rfl | Qa⟩ | ⟨_,_,h1 | ⟨_,_,h1⟩ | ⟨_,_,h1⟩⟩
   ·have:=cH hx;omega
   ·exact ih (wt x) (by have:=cH hx;omega) x rfl (P9 Qa (zV hg) hx)
   ·omega
   ·obtain ⟨x,hx,Qa⟩:=LY h1
    have hx:=lX.1 hx
    exact ih (wt x) (by have:=cH hx;omega) x rfl Qa
   ·obtain ⟨⟨x,_,hx⟩,_⟩:=h1;omega
theorem LZ {G:T→T→Prop} {S:List T} (irr:∀ x∈S,¬ G x x) (tr:∀ x∈S,∀ y∈S,∀ z∈S,G x y→G y z→G x z) (P:T→Prop)
 (step:∀ z∈S,(∀ x∈S,G x z→P x)→P z):∀ z∈S,P z:=by
 classical
 intro z
 induction h:S.countP (fun w=>decide (G w z)) using Nat.strongRecOn generalizing z with
 | _ n ih=>
   intro hz
   refine step z hz fun x hx hg=>ih (S.countP fun w=>decide (G w x)) ?_ x rfl hx
   subst h
   have key:∀ (l:List T),(∀ w∈l,w∈S)→l.countP (fun w=>decide (G w x))≤l.countP (fun w=>decide (G w z))∧(x∈l→l.countP (fun w=>decide (G w x)) < l.countP (fun w=>decide (G w z))):=by
    intro l
    induction l with
    | nil=>intro _;exact ⟨oN _,fun h=>by cases h⟩
    | cons w l ihl=>
      intro hl
      obtain ⟨i1,i2⟩:=ihl fun w hw=>hl w (aay _ hw)
      have hw:=hl w aaB
      by_cases h1:G w x
      ·have h2:G w z:=tr w hw x hx z hz h1 hg
       have dG:x≠w:=fun e=>irr x hx (by rw [← e] at h1;exact h1)
       simp only [aeo,h1,h2,decide_true,if_true]
       refine ⟨by omega,fun hm=>?_⟩
       rcases aan.1 hm with e | hm
       ·exact absurd e dG
       ·have:=i2 hm;omega
      ·by_cases h2:G w z
       ·simp only [aeo,h1,h2,decide_true,decide_false,if_true]
        refine ⟨by simp;omega,fun _=>by simp;omega⟩
       ·have dG:x≠w:=fun e=>h2 (e ▸ hg)
        simp only [aeo,h1,h2,decide_false]
        refine ⟨by simpa using i1,fun hm=>?_⟩
        rcases aan.1 hm with e | hm
        ·exact absurd e dG
        ·simpa using i2 hm
   exact (key S fun _ h=>h).2 hx
theorem L3 {G:T→T→Prop} {l m k:List T} (irr:∀ x∈l++m++k,¬ G x x) (tr:∀ x∈l++m++k,∀ y∈l++m++k,∀ z∈l++m++k,G x y→G y z→G x z)
 (h1:Mu G l m) (h2:Mu G m k):Mu G l k:=by
 have il:∀ {x},x∈l→x∈l++m++k:=fun h=>by simp [h]
 have im:∀ {x},x∈m→x∈l++m++k:=fun h=>by simp [h]
 have ik:∀ {x},x∈k→x∈l++m++k:=fun h=>by simp [h]
 have up:∀ z∈l++m++k,(l.count z < m.count z∨m.count z < k.count z)→∃ x∈l,k.count x < l.count x∧G x z:=by
  refine LZ irr tr _ fun z hz ih hc=>?_
  rcases hc with hc | hc
  ·obtain ⟨x1,ue,Ns,JX⟩:=h1.2 z (nw hc) hc
   by_cases hk:k.count x1 < l.count x1
   ·exact ⟨x1,ue,hk,JX⟩
   ·obtain ⟨x,hx,mB,hg⟩:=ih x1 (il ue) JX (.inr (by omega))
    exact ⟨x,hx,mB,tr x (il hx) x1 (il ue) z hz hg JX⟩
  ·obtain ⟨x1,ue,Ns,JX⟩:=h2.2 z (nw hc) hc
   by_cases hk:l.count x1 < m.count x1
   ·obtain ⟨x,hx,mB,hg⟩:=ih x1 (im ue) JX (.inl hk)
    exact ⟨x,hx,mB,tr x (il hx) x1 (im ue) z hz hg JX⟩
   ·exact ⟨x1,aaR.1 (by omega),by omega,JX⟩
 constructor
 ·obtain ⟨x0,Kk,NU⟩:=h1.1
  by_cases hk:k.count x0 < l.count x0
  ·exact ⟨x0,Kk,hk⟩
  ·obtain ⟨x,hx,hc,_⟩:=up x0 (il Kk) (.inr (by omega))
   exact ⟨x,hx,hc⟩
 ·intro y hy hc
  refine up y (ik hy) ?_
  by_cases h:l.count y < m.count y
  ·exact .inl h
  ·exact .inr (by omega)
theorem DM {G:T→T→Prop}:∀ {l m k:List T},(∀ x∈l,∀ y∈m,∀ z∈k,G x y→G y z→G x z)→Lx G l m→Lx G m k→Lx G l k
 | [],_,_,_,h,_=>h.elim
 | _::_,[],_,_,_,h=>h.elim
 | _::_,_::_,[],_,_,_=>trivial
 | x::l,y::m,z::k,tr,h1,h2=>by
   have ih:=@DM G l m k fun x hx y hy z hz=>tr x (aay _ hx) y (aay _ hy) z (aay _ hz)
   rcases h1 with ⟨rfl,h1⟩ | h1 <;> rcases h2 with ⟨rfl,h2⟩ | h2
   ·exact .inl ⟨rfl,ih h1 h2⟩
   ·exact .inr h2
   ·exact .inr h1
   ·exact .inr (tr x aaB y aaB z aaB h1 h2)
theorem Bx:∀ (N:Nat) {a b c:T},wt a≤N→wt b≤N→wt c≤N→Gt sp a b→Gt sp b c→Gt sp a c:=by
 intro N
 induction N with
 | zero=>intro a b c h;have:=dx a;omega
 | succ N ihN=>
 intro a b c
 induction h:wt a + wt b + wt c using Nat.strongRecOn generalizing a b c with
 | _ n ih=>
   intro la lb lc uC RQ
   rcases rS uC with ⟨x,hx,rfl | hg⟩ | ⟨hb,h1,h2⟩
   ·exact qx (zV uC) hx (.inr RQ)
   ·have:=cH hx
    exact qx (zV uC) hx (.inr (ih (wt x + wt b + wt c) (by omega) rfl (by omega) lb lc hg RQ))
   rcases rS RQ with ⟨y,hy,rfl | hg⟩ | ⟨hc,h3,h4⟩
   ·exact h1 y hy
   ·have:=cH hy
    exact ih (wt a + wt y + wt c) (by omega) rfl la (by omega) lc (h1 y hy) hg
   have h5:∀ z∈c.l,Gt sp a z:=fun z hz=>by
    have:=cH hz
    exact ih (wt a + wt b + wt z) (by omega) rfl la lb (by omega) uC (h3 z hz)
   refine YE (zV uC) hc h5 ?_
   rcases h2 with h2 | ⟨e2,s2,h2⟩ | ⟨e2,s2,h2⟩ <;> rcases h4 with h4 | ⟨e4,s4,h4⟩ | ⟨e4,s4,h4⟩
   ·exact .inl (by omega)
   ·exact .inl (by omega)
   ·exact .inl (by omega)
   ·exact .inl (by omega)
   ·refine .inr (.inl ⟨by omega,s2,?_⟩)
    rw [e2] at h4
    refine DM (fun x hx y hy z hz=>?_) h2 h4
    have:=cH (lX.1 hx);have:=cH (lX.1 hy);have:=cH (lX.1 hz)
    exact ihN (by omega) (by omega) (by omega)
   ·rw [e2] at s4;exact absurd s4 s2
   ·exact .inl (by omega)
   ·rw [e2] at s4;exact absurd s2 s4
   ·refine .inr (.inr ⟨by omega,s2,?_⟩)
    have small:∀ x∈a.l++b.l++c.l,wt x≤N:=by
     intro x hx
     simp only [aaO] at hx
     rcases hx with (hx | hx) | hx <;> have:=cH hx <;> omega
    exact L3 (fun x _=>xj x) (fun x hx y hy z hz=>ihN (small x hx) (small y hy) (small z hz)) h2 h4
theorem gt_trans {a b c:T}:Gt sp a b→Gt sp b c→Gt sp a c:=Bx (wt a + wt b + wt c) (by omega) (by omega) (by omega)
theorem YF {l m X Y C:List T} (hl:l.Perm (X++C)) (hm:m.Perm (Y++C)) (h0:X≠[]) (h1:∀ y∈Y,∃ x∈X,Gt sp x y):Mu (Gt sp) l m:=by
 have cl:∀ z,l.count z=X.count z + C.count z:=fun z=>by rw [hl.count_eq,adX]
 have cm:∀ z,m.count z=Y.count z + C.count z:=fun z=>by rw [hm.count_eq,adX]
 have up:∀ z∈X++Y,z∈Y→∃ x∈X,Y.count x < X.count x∧Gt sp x z:=by
  refine LZ (G:=Gt sp) (fun x _=>xj x) (fun x _ y _ z _=>gt_trans) _ fun z hz ih hy=>?_
  obtain ⟨x1,ue,JX⟩:=h1 z hy
  by_cases hc:Y.count x1 < X.count x1
  ·exact ⟨x1,ue,hc,JX⟩
  ·have:0 < X.count x1:=aaR.2 ue
   obtain ⟨x,hx,mB,hg⟩:=ih x1 (by simp [ue]) JX (aaR.1 (by omega))
   exact ⟨x,hx,mB,gt_trans hg JX⟩
 have inl:∀ {x},x∈X→x∈l:=fun hx=>hl.mem_iff.2 (by simp [hx])
 constructor
 ·obtain ⟨x,hx⟩:=List.exists_mem_of_ne_nil X h0
  by_cases hc:Y.count x < X.count x
  ·exact ⟨x,inl hx,by rw [cl,cm];omega⟩
  ·have:0 < X.count x:=aaR.2 hx
   obtain ⟨x',qN,IC,_⟩:=up x (by simp [hx]) (aaR.1 (by omega))
   exact ⟨x',inl qN,by rw [cl,cm];omega⟩
 ·intro y hy hc
  rw [cl,cm] at hc
  have hyY:y∈Y:=aaR.1 (by omega)
  obtain ⟨x,hx,IC,hg⟩:=up y (by simp [hyY]) hyY
  exact ⟨x,inl hx,by rw [cl,cm];omega,hg⟩
def Qb (X Y:List T):Prop:=∀ z,z∈X→z∉Y
theorem L4 {G:T→T→Prop} {l m X Y C:List T} (hl:l.Perm (X++C)) (hm:m.Perm (Y++C)) (hd:Qb X Y):Mu G l m↔X≠[]∧∀ y∈Y,∃ x∈X,G x y:=by
 have cl:∀ z,l.count z=X.count z + C.count z:=fun z=>by rw [hl.count_eq,adX]
 have cm:∀ z,m.count z=Y.count z + C.count z:=fun z=>by rw [hm.count_eq,adX]
 have inl:∀ {x},x∈X→x∈l:=fun hx=>hl.mem_iff.2 (by simp [hx])
 have inm:∀ {x},x∈Y→x∈m:=fun hx=>hm.mem_iff.2 (by simp [hx])
 have cX:∀ {z},m.count z < l.count z↔z∈X:=by
  intro z
  rw [cl,cm]
  constructor
  ·intro h;exact aaR.1 (by omega)
  ·intro h
   have h1:0 < X.count z:=aaR.2 h
   have h2:Y.count z=0:=List.count_eq_zero.2 (hd z h)
   omega
 have cY:∀ {z},l.count z < m.count z↔z∈Y:=by
  intro z
  rw [cl,cm]
  constructor
  ·intro h;exact aaR.1 (by omega)
  ·intro h
   have h1:0 < Y.count z:=aaR.2 h
   have h2:X.count z=0:=List.count_eq_zero.2 (fun hx=>hd z hx h)
   omega
 constructor
 ·rintro ⟨⟨x,_,hx⟩,h2⟩
  refine ⟨fun e=>(by have hm:=cX.1 hx;rw [e] at hm;cases hm),fun y hy=>?_⟩
  obtain ⟨x,_,hx,hg⟩:=h2 y (inm hy) (cY.2 hy)
  exact ⟨x,cX.1 hx,hg⟩
 ·rintro ⟨h1,h2⟩
  refine ⟨?_,fun y _ hy=>?_⟩
  ·obtain ⟨x,hx⟩:=List.exists_mem_of_ne_nil X h1
   exact ⟨x,inl hx,cX.2 hx⟩
  ·obtain ⟨x,hx,hg⟩:=h2 y (cY.1 hy)
   exact ⟨x,inl hx,cX.2 hx,hg⟩
theorem pT {l m X Y C:List T} (hl:l.Perm (X++C)) (hm:m.Perm (Y++C)) (hd:Qb X Y):l.Perm m↔X=[]∧Y=[]:=by
 constructor
 ·intro h
  have hc:∀ z,X.count z=Y.count z:=fun z=>by
   have h1:=hl.count_eq z
   have h2:=hm.count_eq z
   have h3:=h.count_eq z
   rw [adX] at h1 h2
   omega
  constructor
  ·cases hX:X with
   | nil=>rfl
   | cons x r=>
     have h1:x∈X:=by rw [hX];simp
     have h2:0 < Y.count x:=by rw [← hc];exact aaR.2 h1
     exact absurd (aaR.1 h2) (hd x h1)
  ·cases hY:Y with
   | nil=>rfl
   | cons x r=>
     have h1:x∈Y:=by rw [hY];simp
     have h2:0 < X.count x:=by rw [hc];exact aaR.2 h1
     exact absurd h1 (hd x (aaR.1 h2))
 ·rintro ⟨rfl,rfl⟩
  exact hl.trans hm.symm
theorem DN (s:Int) (g:T→T) (l:List T):side s (l.map g)=(side s l).map g:=by unfold side;split <;> simp
theorem T.ext {a b:T} (h1:a.k=b.k) (h2:a.n=b.n) (h3:a.l=b.l):a=b:=by
 cases a;cases b;simp only [T.k,T.n,T.l] at h1 h2 h3;rw [h1,h2,h3]
end
end Go.eJ
end
section
namespace Go.eJ
open Go.aI
def E (O:Od) (a b:T):Prop:=norm O a=norm O b
def R (O:Od) (a b:T):Prop:=Gt O.sp (norm O a) (norm O b)
theorem kmk (k n:Int) (l:List T):(T.mk k n l).k=k:=rfl
section
variable {O:Od}
theorem pi {a:T} (h:a.k=2):(norm O a).k=2∧(norm O a).n=O.pl a.n∧(O.sp (O.pl a.n)=3→(norm O a).l=yC (a.l.map (norm O)))∧(O.sp (O.pl a.n)≠3→(norm O a).l=a.l.map (norm O)):=by
 cases a with
 | mk k n l=>
   simp only [T.k] at h
   subst h
   simp only [norm,if_true,T.k,T.n,T.l,zU,true_and]
   exact ⟨fun h=>by rw [if_pos h],fun h=>by rw [if_neg h]⟩
theorem xk {a:T} (h:a.k≠2):norm O a=.mk 1 a.n []:=by
 cases a with
 | mk k n l=>simp only [kmk] at h;simp only [norm];rw [if_neg h];rfl
theorem s9 {a:T}:(norm O a).k=2↔a.k=2:=by
 by_cases h:a.k=2
 ·simp [h,(pi h).1]
 ·rw [xk h,kmk];simp [h]
theorem rT {a x:T} (h:a.k=2):x∈(norm O a).l↔∃ y∈a.l,norm O y=x:=by
 obtain ⟨_,_,h1,h2⟩:=pi (O:=O) h
 by_cases hs:O.sp (O.pl a.n)=3
 ·rw [h1 hs,P8,aaq]
 ·rw [h2 hs,aaq]
theorem Qc {G:T→T→Prop} {l m l' m':List T} (h1:l.Perm l') (h2:m.Perm m'):Mu G l m↔Mu G l' m':=by
 unfold Mu
 simp only [h1.count_eq,h2.count_eq,h1.mem_iff,h2.mem_iff]
theorem RR {a b:T}:E O a b↔(a.k=2∧b.k=2∧O.pl a.n=O.pl b.n∧(if O.sp (O.pl a.n)=3 then (a.l.map (norm O)).Perm (b.l.map (norm O)) else a.l.map (norm O)=b.l.map (norm O)))∨(a.k≠2∧b.k≠2∧a.n=b.n):=by
 by_cases ha:a.k=2
 ·by_cases hb:b.k=2
  ·obtain ⟨ka,na,pa,qa⟩:=pi (O:=O) ha
   obtain ⟨kb,nb,pb,qb⟩:=pi (O:=O) hb
   simp only [ha,hb,true_and,ne_eq,not_true_eq_false,false_and,or_false]
   unfold E
   constructor
   ·intro h
    have hn:O.pl a.n=O.pl b.n:=by rw [← na,← nb,h]
    refine ⟨hn,?_⟩
    have hl:(norm O a).l=(norm O b).l:=by rw [h]
    split
    ·rename_i hs
     rw [pa hs,pb (by rw [← hn];exact hs)] at hl
     exact HD.1 hl
    ·rename_i hs
     rw [qa hs,qb (by rw [← hn];exact hs)] at hl
     exact hl
   ·rintro ⟨hn,hl⟩
    refine T.ext (by rw [ka,kb]) (by rw [na,nb,hn]) ?_
    split at hl
    ·rename_i hs
     rw [pa hs,pb (by rw [← hn];exact hs)]
     exact HD.2 hl
    ·rename_i hs
     rw [qa hs,qb (by rw [← hn];exact hs)]
     exact hl
  ·simp only [ha,hb,ne_eq,not_true_eq_false,false_and,and_false,or_false,iff_false]
   intro h
   have:=s9 (O:=O) (a:=a)
   unfold E at h
   rw [h,s9] at this
   exact hb (this.2 ha)
 ·by_cases hb:b.k=2
  ·simp only [ha,hb,ne_eq,not_true_eq_false,false_and,and_false,or_false,iff_false]
   intro h
   have:=s9 (O:=O) (a:=b)
   unfold E at h
   rw [← h,s9] at this
   exact ha (this.2 hb)
  ·simp only [ha,hb,ne_eq,not_false_eq_true,false_and,true_and,false_or]
   unfold E
   rw [xk ha,xk hb]
   simp
theorem pU {a b:T}:R O a b↔a.k=2∧((∃ x∈a.l,E O x b∨R O x b)∨b.k=2∧(
 (O.pl b.n < O.pl a.n∧∀ y∈b.l,R O a y)∨
 (O.pl b.n=O.pl a.n∧O.sp (O.pl a.n)≠3∧(∀ y∈b.l,R O a y)∧Lx (Gt O.sp) (side (O.sp (O.pl a.n)) (a.l.map (norm O))) (side (O.sp (O.pl a.n)) (b.l.map (norm O))))∨
 (O.pl b.n=O.pl a.n∧O.sp (O.pl a.n)=3∧Mu (Gt O.sp) (a.l.map (norm O)) (b.l.map (norm O))))):=by
 unfold R
 rw [xi]
 unfold Fm
 rw [s9,s9]
 refine and_congr_right fun ha=>?_
 obtain ⟨ka,na,pa,qa⟩:=pi (O:=O) ha
 refine or_congr ?_ (and_congr_right fun hb=>?_)
 ·constructor
  ·rintro ⟨x,hx,h⟩
   obtain ⟨y,hy,rfl⟩:=(rT ha).1 hx
   exact ⟨y,hy,h⟩
  ·rintro ⟨x,hx,h⟩
   exact ⟨_,(rT ha).2 ⟨x,hx,rfl⟩,h⟩
 ·obtain ⟨kb,nb,pb,qb⟩:=pi (O:=O) hb
  have e:(∀ y∈(norm O b).l,Gt O.sp (norm O a) y)↔∀ y∈b.l,Gt O.sp (norm O a) (norm O y):=by
   constructor
   ·intro h y hy;exact h _ ((rT hb).2 ⟨y,hy,rfl⟩)
   ·intro h y hy;obtain ⟨z,hz,rfl⟩:=(rT hb).1 hy;exact h z hz
  rw [e,na,nb]
  refine or_congr Iff.rfl (or_congr ?_ ?_)
  ·refine and_congr_right fun hn=>and_congr_right fun hs=>?_
   rw [qa hs,qb (by rw [hn];exact hs)]
  ·refine and_congr_right fun hn=>and_congr_right fun hs=>?_
   exact Qc (by rw [pa hs];exact lW _) (by rw [pb (by rw [hn];exact hs)];exact lW _)
theorem YG {a b:T} (h:E O a b):¬ R O a b:=by unfold R;rw [show norm O a=norm O b from h];exact xj _
theorem Qd {a b c:T} (h1:R O a b) (h2:R O b c):R O a c:=gt_trans h1 h2
theorem YH {a b x:T} (ha:a.k=2) (hx:x∈a.l) (h:E O x b∨R O x b):R O a b:=pU.2 ⟨ha,.inl ⟨x,hx,h⟩⟩
end
inductive yD (p:Int→Prop):T→Prop
 | mk (k n:Int) (l:List T) (h1:k=2→p n) (h2:∀ x∈l,yD p x):yD p (.mk k n l)
theorem yD.op {p:Int→Prop} {a:T} (h:yD p a) (hk:a.k=2):p a.n:=by cases h with | mk k n l h1 _=>exact h1 hk
theorem yD.mem {p:Int→Prop} {a x:T} (h:yD p a) (hx:x∈a.l):yD p x:=by cases h with | mk k n l _ h2=>exact h2 x hx
end Go.eJ
end
section
set_option maxRecDepth 100000
namespace Go.aI
open Go Go.Proofs Go.eJ
abbrev Nd:=T×List Int
def bt:List Int→AV
 | []=>.ag
 | v::r=>.ap 0 (ints (v::r))
def F5 (p:Nd):AV:=.agg [.int .i64 p.1.k,.int .i64 p.1.n,.ap 0 (cQ p.1.l),bt p.2]
def eW (l:List Nd):List AV:=l.map F5
def zN:AV:=.agg [.int .i64 0,.int .i64 0,.ag,.ag]
theorem aG (l:List Int):(bt l).one=true∧(bt l).ab=bt l∧(∀ n,(bt l).a9 n=true)∧(bt l).val=true∧(bt l).cells=[bt l]:=by
 cases l with
 | nil=>exact ⟨rfl,rfl,fun _=>rfl,rfl,rfl⟩
 | cons v r=>exact ⟨rfl,rfl,fun n=>by rw [bt,cc];exact bb n _,rfl,rfl⟩
theorem Qe (p:Nd):jF 4 (F5 p):=by
 obtain ⟨t,ks⟩:=p
 cases ks with
 | nil=>exact ⟨rfl,rfl,by simp [F5,bt,AV.cells,dT,bM,cZ,jD,cc,Hr],rfl⟩
 | cons v r=>exact ⟨rfl,rfl,by simp [F5,bt,AV.cells,dT,bM,cZ,jD,cc,bb],rfl⟩
theorem By:jF 4 (bP zN):=⟨rfl,rfl,rfl,rfl⟩
theorem kB (l:List Nd):∀ x∈eW l,jF 4 x:=by
 intro x hx;obtain ⟨p,_,rfl⟩:=aaq.1 hx;exact Qe p
def aZ:List T→Nat→List Int
 | [],_=>[]
 | x::r,n=>(n:Int)::aZ r (n + wt x)
mutual
def xl:T→Nat→List Nd
 | .mk k n l,i=>(.mk k n l,aZ l (i + 1))::de l (i + 1)
def de:List T→Nat→List Nd
 | [],_=>[]
 | x::r,i=>xl x i++de r (i + wt x)
end
mutual
theorem rU:∀ (t:T) (i:Nat),(xl t i).length=wt t
 | .mk k n l,i=>by rw [xl,List.length_cons,iE,wt];omega
theorem iE:∀ (l:List T) (i:Nat),(de l i).length=fw l
 | [],_=>rfl
 | x::r,i=>by rw [de,aap,rU,iE,fw]
end
theorem pj (t:T) (i:Nat):xl t i=(t,aZ t.l (i + 1))::de t.l (i + 1):=by cases t;rw [xl];rfl
theorem xm (t:T):wt t=fw t.l + 1:=by cases t;rw [wt];exact aew _ _
theorem lY:∀ (l:List T) (x:T) (i:Nat),de (l++[x]) i=de l i++xl x (i + fw l)
 | [],x,i=>by simp [de,fw]
 | y::r,x,i=>by rw [List.cons_append,de,de,lY r x,aaD,fw];congr 3;omega
theorem jk:∀ (l:List T) (x:T) (i:Nat),aZ (l++[x]) i=aZ l i++[((i + fw l:Nat):Int)]
 | [],x,i=>by simp [aZ,fw]
 | y::r,x,i=>by rw [List.cons_append,aZ,aZ,jk r x,fw];simp;omega
theorem lZ {l:List T} {i:Nat} (h:i < l.length):fw (l.take (i + 1))=fw (l.take i) + wt (l.getD i default):=by
 have e:∀ (a:List T) (x:T),fw (a++[x])=fw a + wt x:=by
  intro a x;induction a with
  | nil=>simp [fw]
  | cons y r ih=>rw [List.cons_append,fw,fw,ih];omega
 rw [aaY h,e]
 simp [h]
theorem cN:∀ (l:List T) (i:Nat),fw (l.take i)≤fw l
 | [],i=>by simp [fw]
 | x::r,0=>by simp [fw]
 | x::r,i + 1=>by rw [List.take_succ_cons,fw,fw];have:=cN r i;omega
theorem cI:∀ (l:List T) (i:Nat),(aZ l i).length=l.length
 | [],_=>rfl
 | x::r,i=>by rw [aZ,List.length_cons,cI,List.length_cons]
theorem gh:∀ l:List T,l.length≤fw l
 | []=>by simp
 | x::r=>by rw [List.length_cons,fw];have:=gh r;have:=dx x;omega
def m8 (t:T):AV:=.agg [.int .i64 t.k,.int .i64 t.n,.ap 0 (cQ t.l),.ap 0 []]
theorem rV (t:T):jF 4 (m8 t):=⟨rfl,rfl,by simp [m8,AV.cells,dT,bM,jD,cc,aj],rfl⟩
theorem bdN (t:T) (φ:AV→Prop):cw [.int .i64 0,.int .i64 0,.ag,.ag] [(0,3,t.av)] φ=φ (.agg [.int .i64 t.k,.int .i64 t.n,.ap 0 (cQ t.l),.ag]):=by
 cases t with
 | mk k n l=>
 simp only [cw,gZ,T.av,eq_iff_iff]
 constructor
 ·rintro ⟨_,_,_,h⟩;exact h
 ·exact fun h=>⟨rfl,rfl,by decide,h⟩
theorem YI (t:T):aV (.agg [.int .i64 t.k,.int .i64 t.n,.ap 0 (cQ t.l),.ag])=m8 t:=rfl
theorem RO.aL {z:AV} {base:Nat} {v:AV} {xs:List AV} {G:List aa} (h:RO z base v xs G):aL 1 v=True:=by
 rcases h with ⟨_,rfl⟩ | ⟨id,cap,_,rfl,_⟩ <;> simp [Go.aI.aL]
theorem eG (l:List Int):(iK l).one=true∧(iK l).ab=bt l∧(iK l).val=true∧(iK l).cells=[iK l]:=by
 cases l with
 | nil=>exact ⟨rfl,rfl,rfl,rfl⟩
 | cons v r=>exact ⟨rfl,rfl,rfl,rfl⟩
def YJ (base:Nat) (H:List aa) (xs:List AV) (r:AV) (H':List aa):Prop:=RO zN base r xs H'∧H'.take base=H.take base∧H.length≤H'.length
theorem rW (a b:List Nd):eW (a++b)=eW a++eW b:=by simp [eW]
theorem rX (a:List Nd):(eW a).length=a.length:=by simp [eW]
theorem ab8:∀ (N:Nat) (t:T),wt t≤N→∀ (base:Nat) (v:AV) (xs:List AV) (H:List aa),RO zN base v xs H→(∀ x∈xs,jF 4 x)→base≤H.length→(xs.length + wt t) * 64≤140737488355328→
 aw Tryz.prog 132 [t.av,v] H (YJ base H (xs++eW (xl t xs.length))):=by
 intro N
 induction N with
 | zero=>intro t ht;have:=dx t;omega
 | succ N ih=>
 intro t ht base v xs H hR fS hbase hb
 have hw:=xm t
 have YK:=gh t.l
 refine Hz.2.calls rfl ?_
 simp only [Hz,aJ]
 obtain ⟨o1,o2,o3,o4⟩:=hR.one
 simp +contextual only [o3,hR.len,hR.aL,bdN,YI,sZ,Nat.reduceEqDiff,Nat.reduceAdd,↓reduceIte,reduceCtorEq]
 refine LP By hR fS 0 [m8 t] (by simp) (by simp [rV]) (by simp;omega) hbase fun v1 G1 UR US hj1 uV=>?_
 obtain ⟨o1',o2',o3',o4'⟩:=UR.one
 simp +contextual only [sZ]
 intro _
 have gC:∀ i,(xs++m8 t::eW (de (t.l.take i) (xs.length + 1))).length=xs.length + 1 + fw (t.l.take i):=by intro i;simp [rX,iE];omega
 have jt:∀ i,∀ x∈xs++m8 t::eW (de (t.l.take i) (xs.length + 1)),jF 4 x:=by
  intro i x hx
  rcases aaO.1 hx with hx | hx
  ·exact fS x hx
  ·rcases aan.1 hx with rfl | hx
   ·exact rV t
   ·exact kB _ x hx
 refine aM t.l.length (fun i (p:AV×List aa)=>RO zN base p.1 (xs++m8 t::eW (de (t.l.take i) (xs.length + 1))) p.2∧p.2.take base=H.take base∧H.length≤p.2.length)
  (fun i p=>[(1,p.1),(5,.int .i64 xs.length),(6,iK (aZ (t.l.take i) (xs.length + 1))),(17,.ap 0 (cQ t.l)),(18,.int .i64 t.l.length),(19,.int .i64 i)])
  (fun i p=>p.2) (v1,G1) ⟨⟨UR,US,uV⟩,aB _ _ _⟩ fun i p hi hI=>?_
 obtain ⟨v,G⟩:=p
 obtain ⟨hR,hG,hl⟩:=hI
 simp only at hR hG hl
 obtain ⟨o1,o2,o3,o4⟩:=hR.one
 have hle:=cN t.l i
 have E2:=cI (t.l.take i) (xs.length + 1)
 have Qf:(t.l.take i).length≤t.l.length:=by simp;omega
 simp +contextual only [o3,hR.len,hR.aL,gC,oB,(eG _).2.1,gO,sZ,Nat.reduceEqDiff,Nat.reduceAdd,↓reduceIte,reduceCtorEq]
 refine ⟨fun aX=>⟨b9 aX,by omega,?_⟩,fun jV=>?_⟩
 ·have aX:=b9 aX
  have hwt:=lZ aX
  have hnext:=cN t.l (i + 1)
  have e2:t.l.take (i + 1)=t.l.take i++[t.l.getD i default]:=by rw [aaY aX];simp [aX]
  refine af (ih (t.l.getD i default) (by have:=cH (iB aX);omega) base v _ G hR (jt i) (by omega) (by rw [gC];omega)) ?_
  rintro r G' ⟨yE,eH,wA⟩
  obtain ⟨o1',o2',o3',o4'⟩:=yE.one
  simp +contextual only [o3',sZ,Nat.reduceEqDiff,↓reduceIte]
  refine ⟨i + 1,(r,G'),⟨aX,?_,eH.trans hG,aa1 hl wA⟩,by omega,aD ?_ rfl⟩
  ·rw [gC] at yE
   rw [e2,lY,rW,← List.cons_append,← aaD]
   exact yE
  ·rw [e2,jk,au i (by omega)]
 ·have lM:i=t.l.length:=by have:=dl jV;omega
  subst lM
  rw [aaC] at hR
  have uY:=gC t.l.length
  have F6:=jt t.l.length
  rw [aaC] at uY F6
  have gT:(xs++m8 t::eW (de t.l (xs.length + 1))).set xs.length (F5 (t,aZ t.l (xs.length + 1)))=xs++eW (xl t xs.length):=by
   rw [ac1 _ _ (oN _),ado,aey,pj];rfl
  have j5:(xs++m8 t::eW (de t.l (xs.length + 1))).getD xs.length .any=m8 t:=by simp
  generalize xs++m8 t::eW (de t.l (xs.length + 1))=ys at hR uY F6 gT j5
  rcases hR with ⟨rfl,_⟩ | ⟨id,cap,bm,rfl,hg,cE,_⟩
  ·simp at uY
   omega
  have vt:=(aaz.1 hg).1
  obtain ⟨k1,k2,k3,k4,k5⟩:=aG (aZ t.l (xs.length + 1))
  simp +contextual only [hg,lC,aaC,sZ,Nat.reduceEqDiff,↓reduceIte,reduceCtorEq]
  refine ⟨by omega,?_⟩
  refine Bt F6 (by omega) (by decide) (y:=F5 (t,aZ t.l (xs.length + 1))) k1 k4 (by rw [k2];exact k3 _) (by rw [j5,k2];rfl) ?_
  simp +contextual only [sZ,Nat.reduceEqDiff,↓reduceIte,reduceCtorEq]
  rw [gT]
  refine ba (G.length) (by omega) (by rw [aA,if_pos rfl,ft];simpa using vt) ?_
  rw [aA,if_pos rfl,aaw (by simp)]
  refine ⟨.inr ⟨id,cap,bm,?_,?_,?_,?_⟩,?_,by simpa using hl⟩
  ·rw [← gT];simp
  ·rw [tO vt]
  ·rw [← gT];simpa using cE
  ·rw [pj];simp [eW]
  ·rw [aaM bm];exact hG
end Go.aI
end
section
set_option maxRecDepth 100000
namespace Go.aI
open Go Go.Proofs Go.eJ
def oC (l:List Nd):AV:=if l=[] then .ag else .ap 0 (eW l)
def eD (ps ss:List Int):AV:=.agg [.ap 0 (ints ps),.ap 0 (ints ss)]
def kC (ps ss:List Int) (l:List Nd) (e g:Nat):aa:=.cells [.ap 0 (ints ps),.ap 0 (ints ss),oC l,.map e,.map g]
theorem bdD (ps ss:List Int) (a b:Nat) (φ:AV→Prop):cw [.ag,.ag,.ag,.ju,.ju] [(0,2,.agg [.ap 0 (ints ps),.ap 0 (ints ss)]),(3,1,.map a),(4,1,.map b)] φ=φ (.agg [.ap 0 (ints ps),.ap 0 (ints ss),.ag,.map a,.map b]):=by
 simp only [cw,gZ,eq_iff_iff]
 constructor
 ·rintro ⟨_,_,_,_,_,_,_,_,_,h⟩;exact h
 ·exact fun h=>⟨rfl,rfl,by simp,rfl,rfl,by simp [ah,AV.cells],rfl,rfl,by simp [ah,AV.cells],h⟩
theorem Qg (a b:AV) (H:List aa) (φ:AV→Prop):aU (some 2) (.ai (.agg [a,b])) H φ=φ (.agg [a,b]):=by simp [aU,AV.cells]
theorem DO (id:Nat) (H:List aa) (K:AV→List aa→Prop):fL 3004 (.ptr id 0) H K=AG 4 id 2 H (K (.ptr id 0)):=rfl
def RS (H:List aa) (ps ss:List Int) (ts:List T) (r:AV) (H':List aa):Prop:=
 r=.tuple [.ptr (H.length + 2) 0,bt (aZ ts 0)]∧H'=H++[.map [],.map [],kC ps ss (de ts 0) H.length (H.length + 1)]
theorem jX (l:List T):(eW (de l 0)).length=fw l:=by rw [rX,iE]
theorem DP {l:List Nd} (h:eW l=[]):l=[]:=abL.1 h
theorem L5 {C:List aa→Nat→List aa→Prop} {n0 a b m:Nat} {env:Env} {H H':List aa} {R:AV→List aa→Prop} {x y:AV} (hm:n0≤m) (hC:C H m H') (hx:(get env a).ab=x) (hy:(get env b).ab=y) (bx:x.a9 m=true) (sq:y.a9 m=true)
 (hR:R (.tuple [x,y]) H'):ji C n0 [.t a,.t b] env H R:=by
 subst hx;subst hy
 exact ⟨m,H',hm,hC,_,bW _,by show aj m [(get env a).ab,(get env b).ab]=true;rw [bM,bM,cZ,bx,sq];rfl,hR⟩
theorem F7 {n0 m:Nat} {G:List aa} (hm:m≤G.length) (hb:∀ (j:Nat) (o:aa),n0≤j→j < m→G[j]?=some o→o=.dead∨o.a9 (j + 1)=true):nu n0 G m (G.take m):=by
 refine ⟨by simp,fun j o ho=>?_⟩
 rw [aax] at ho
 split at ho
 ·rename_i hj
  by_cases h0:n0≤j
  ·rcases hb j o h0 hj ho with h | h
   ·exact .inl h
   ·exact .inr ⟨ho,fun _=>h⟩
  ·exact .inr ⟨ho,fun h=>by omega⟩
 ·cases ho
theorem xn (n:Nat) (l:List Nd):aj n (eW l)=true:=
 (aY _ _).2 fun x hx=>by
   obtain ⟨⟨t,ks⟩,_,rfl⟩:=aaq.1 hx
   cases ks with
   | nil=>simp [F5,bt,AV.a9,dT,aj]
   | cons v r=>simp [F5,bt,AV.a9,dT,bb,aj]
theorem zW (ps ss:List Int) (l:List Nd) (n:Nat):(kC ps ss l n (n + 1)).a9 (n + 2 + 1)=true:=by
 have h:(oC l).a9 (n + 2 + 1)=true:=by
  unfold oC
  split
  ·rfl
  ·rw [cc]
   exact xn _ _
 simp only [kC,aa.a9,bM,cZ,cc,bb,h,K3]
 simp;omega
theorem YL (ps ss:List Int) (ts:List T) (H:List aa) (hb:fw ts * 64≤140737488355328):aw Tryz.prog 75 [eD ps ss,.ap 0 (cQ ts)] H (RS H ps ss ts):=by
 refine Yw.2.w8 rfl ?_
 simp only [Yw,aJ,eD]
 have YK:=gh ts
 simp +contextual only [bdD,Qg,sZ,Nat.reduceEqDiff,Nat.reduceAdd,↓reduceIte,reduceCtorEq]
 refine ⟨by simp;omega,fun _=>?_⟩
 have e0:∀ (l:List aa) (x:aa),(H++x::l)[H.length]?=some x:=by simp
 refine iz ts.length (fun i (p:AV×List aa)=>RO zN (H.length + 3) p.1 (eW (de (ts.take i) 0)) p.2∧H.length + 3≤p.2.length∧
  p.2.take (H.length + 3)=H++[.map [],.map [],.cells [.ap 0 (ints ps),.ap 0 (ints ss),p.1,.map H.length,.map (H.length + 1)]])
  (fun i p=>[(6,.ptr (H.length + 2) 0),(7,iK (aZ (ts.take i) 0)),(15,.ap 0 (cQ ts)),(16,.int .i64 ts.length),(17,.int .i64 i)])
  (fun i p=>p.2) (.ag,_) ⟨⟨.inl ⟨rfl,rfl⟩,by simp,?_⟩,jW _ _ _⟩ fun i p hi hI=>?_
 ·rw [aaw (by simp)]
 obtain ⟨v,G⟩:=p
 obtain ⟨hR,hl,hG⟩:=hI
 simp only at hR hl hG
 obtain ⟨o1,o2,o3,o4⟩:=hR.one
 have gget:∀ j,j < H.length + 3→G[j]?=(H++[.map [],.map [],.cells [.ap 0 (ints ps),.ap 0 (ints ss),v,.map H.length,.map (H.length + 1)]])[j]?:=by
  intro j hj;rw [← hG,aax,if_pos hj]
 have g2:G[H.length + 2]?=some (.cells [.ap 0 (ints ps),.ap 0 (ints ss),v,.map H.length,.map (H.length + 1)]):=by rw [gget _ (by omega)];simp
 have hle:=cN ts i
 have E2:=cI (ts.take i) 0
 have Qf:(ts.take i).length≤ts.length:=by simp;omega
 simp +contextual only [o3,g2,hR.len,hR.aL,jX,oB,(eG _).2.1,gO,sZ,Nat.reduceEqDiff,Nat.reduceAdd,Nat.reduceLT,↓reduceIte,reduceCtorEq]
 refine ⟨fun aX=>⟨b9 aX,by omega,?_⟩,fun jV=>?_⟩
 ·have aX:=b9 aX
  have hwt:=lZ aX
  have hnext:=cN ts (i + 1)
  have e2:ts.take (i + 1)=ts.take i++[ts.getD i default]:=by rw [aaY aX];simp [aX]
  have hc:=ab8 (wt (ts.getD i default)) (ts.getD i default) (oN _) (H.length + 3) v _ G hR (kB _) hl (by rw [jX];omega)
  refine af hc ?_
  rintro r G' ⟨yE,eH,wA⟩
  obtain ⟨o1',o2',o3',o4'⟩:=yE.one
  have g2':G'[H.length + 2]?=some (.cells [.ap 0 (ints ps),.ap 0 (ints ss),v,.map H.length,.map (H.length + 1)]):=by
   have:(G'.take (H.length + 3))[H.length + 2]?=(G.take (H.length + 3))[H.length + 2]?:=by rw [eH]
   rw [aax,aax,if_pos (by omega),if_pos (by omega)] at this
   rw [this,g2]
  have dU:=yE.a9 (oN _)
  simp +contextual only [kz,o1',o2',o3',o4',g2',dU,sZ,Nat.reduceEqDiff,Nat.reduceAdd,Nat.reduceLeDiff,↓reduceIte]
  refine ⟨by omega,i + 1,(r,_),⟨aX,?_,by simp;omega,?_⟩,by omega,rO ?_ rfl⟩
  ·have h1:=yE.set (j:=H.length + 2) (by omega) (.cells (ah [.ap 0 (ints ps),.ap 0 (ints ss),v,.map H.length,.map (H.length + 1)] 2 [r]))
   rw [jX] at h1
   rw [e2,lY,rW,aaQ]
   exact h1
  ·rw [aep,eH,hG]
   simp [ah]
  ·rw [e2,jk,au i (by omega),aaQ]
 ·have lM:i=ts.length:=by have:=dl jV;omega
  subst lM
  rw [aaC] at hR
  have fin:∀ (G':List aa),G'.length=G.length→G'.take (H.length + 3)=H++[.map [],.map [],kC ps ss (de ts 0) H.length (H.length + 1)]→ji (nu H.length) H.length [.t 4,.t 5] [(4,.ptr (H.length + 2) 0),(5,bt (aZ ts 0))] G' (RS H ps ss ts):=by
   intro G' wA eH
   refine L5 (m:=H.length + 3) (by omega) (F7 (by omega) fun j o h1 h2 ho=>.inr ?_) (x:=.ptr (H.length + 2) 0) (y:=bt (aZ ts 0)) rfl ?_ ?_ ((aG _).2.2.1 _) ⟨rfl,eH⟩
   ·have h3:(G'.take (H.length + 3))[j]?=some o:=by rw [aax,if_pos h2];exact ho
    rw [eH,aaE h1] at h3
    have:j=H.length∨j=H.length + 1∨j=H.length + 2:=by omega
    rcases this with rfl | rfl | rfl
    ·simp at h3;subst h3;rfl
    ·simp at h3;subst h3;rfl
    ·simp at h3;subst h3;exact zW ps ss _ _
   ·have h2:=(aG (aZ ts 0)).2.1
    simp [aA,h2]
   ·rw [qo];simp
  rw [DO]
  unfold AG
  rw [g2]
  rcases hR with ⟨e1,rfl⟩ | ⟨id,cap,bm,rfl,hg,cE,dG⟩
  ·simp +contextual only [List.getElem?_cons_succ,List.getElem?_cons_zero,aaC,(eG _).2.1,(aG _).2.1,sZ,Nat.reduceEqDiff,↓reduceIte,reduceCtorEq]
   refine fin G rfl ?_
   rw [hG,kC,oC,if_pos (DP e1)]
  ·simp +contextual only [List.getElem?_cons_succ,List.getElem?_cons_zero,aaC,(eG _).2.1,(aG _).2.1,sZ,Nat.reduceEqDiff,↓reduceIte,reduceCtorEq]
   refine xe (by decide) By (kB _) (fun x hx=>?_) hg cE ⟨?_,?_,?_⟩
   ·obtain ⟨q,_,rfl⟩:=aaq.1 hx;rfl
   ·rw [tL (by omega)];exact g2
   ·rw [cc];exact xn _ _
   ·refine fin _ (by simp) ?_
    rw [aep,aep,hG]
    have e1:∀ X:List aa,X.length≤id→X.set id .dead=X:=fun X h=>List.set_eq_of_length_le h
    rw [e1 _ (by simp;omega),kC,oC,if_neg (fun e=>dG (by rw [e];rfl))]
    simp
end Go.aI
end
