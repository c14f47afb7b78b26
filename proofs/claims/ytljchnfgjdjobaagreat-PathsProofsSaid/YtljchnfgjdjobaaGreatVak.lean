/- Part 11 of 20 of the proof. -/
import Derived.Test.YtljchnfgjdjobaaGreatVaj
import Derived.Test.YtljchnfgjdjobaaGreatVag
import Derived.KernelRfl
import Derived.Test.YtljchnfgjdjobaaGreatVai
import Derived.SizedLaws
set_option linter.unusedVariables false
set_option linter.unusedSimpArgs false
set_option linter.defProp false
set_option linter.unusedSectionVars false
section
namespace Go.aK
open Go
structure jW (esz:Nat) (x:AV):Prop where
 len:x.cells.length=esz
 un:x.cells.map AV.ab=x.cells
 bl:aj 0 x.cells=true
 one:x.cells.all AV.one=true
theorem jW.flat {esz:Nat}:∀ {xs:List AV},(∀ x∈xs,jW esz x)→(flat xs).length=xs.length * esz∧(flat xs).map AV.ab=flat xs∧(∀ n,aj n (flat xs)=true)∧(Go.aK.flat xs).all AV.one=true
 | [],_=>⟨by simp [Go.aK.flat],rfl,fun _=>rfl,rfl⟩
 | x::r,h=>by
   obtain ⟨h1,h2,h3,h4⟩:=jW.flat (xs:=r) fun y hy=>h y (aaF _ hy)
   have hx:=h x aaW
   have e:Go.aK.flat (x::r)=x.cells++Go.aK.flat r:=rfl
   rw [e]
   refine ⟨by rw [aaf,hx.len,h1,List.length_cons,abP];omega,by rw [ab3,hx.un,h2],fun n=>?_,by rw [List.all_append,hx.one,h4];rfl⟩
   rw [bK];exact ⟨bE (acA n) _ hx.bl,h3 n⟩
theorem oX (xs ys:List AV):flat (xs++ys)=flat xs++flat ys:=by simp [flat]
theorem kR {esz:Nat} {z:AV} (hz:jW esz (bS z)) (n:Nat):∀ x∈List.replicate n (bS z),jW esz x:=fun x hx=>by rw [ab2 hx];exact hz
theorem sD {esz:Nat} {z:AV} (hz:jW esz (bS z)) (n:Nat):(c8 z n).length=n * esz:=by
 have:=(jW.flat (kR hz n)).1
 rwa [acH] at this
theorem Ax {esz:Nat} {z:AV} (hz:jW esz (bS z)) (n k:Nat) (h:k≤n):(c8 z n).drop (k * esz)=c8 z (n - k):=by
 have e:c8 z n=c8 z k++c8 z (n - k):=by
  unfold c8
  rw [← oX,afH]
  congr 2;omega
 rw [e,acR (by rw [sD hz];omega),abu (by rw [sD hz];omega)]
 rfl
def bB (z:AV) (xs:List AV) (cap:Nat):aa:=.cells (flat xs++c8 z (cap - xs.length))
def RO (z:AV) (base:Nat) (v:AV) (xs:List AV) (G:List aa):Prop:=
 (xs=[]∧v=.ag)∨∃ id cap,base≤id∧v=.aZ id 0 xs.length cap∧G[id]?=some (bB z xs cap)∧xs.length≤cap∧xs≠[]
theorem RO.one {z:AV} {base:Nat} {v:AV} {xs:List AV} {G:List aa} (h:RO z base v xs G):v.one=true∧v.val=true∧v.ab=v∧v.cells=[v]:=by
 rcases h with ⟨_,rfl⟩ | ⟨id,cap,_,rfl,_⟩ <;> exact ⟨rfl,rfl,rfl,rfl⟩
theorem RO.bc {z:AV} {base:Nat} {v:AV} {xs:List AV} {G:List aa} (h:RO z base v xs G) {n:Nat} (hn:G.length≤n):v.bc n=true:=by
 rcases h with ⟨_,rfl⟩ | ⟨id,cap,_,rfl,c,_⟩
 ·rfl
 ·have:=(aaJ.1 c).1
  rw [fJ];simp;omega
theorem RO.set {z:AV} {base:Nat} {v:AV} {xs:List AV} {G:List aa} (h:RO z base v xs G) {j:Nat} (hj:j < base) (o:aa):RO z base v xs (G.set j o):=by
 rcases h with h | ⟨id,cap,a,b,c,d⟩
 ·exact .inl h
 ·exact .inr ⟨id,cap,a,b,by rw [yQ (by omega)];exact c,d⟩
theorem RO.len {z:AV} {base:Nat} {v:AV} {xs:List AV} {G:List aa} (h:RO z base v xs G) {H:List aa} (φ:AV→Prop):fg v H φ=φ (.int .i64 xs.length):=by
 rcases h with ⟨rfl,rfl⟩ | ⟨id,cap,_,rfl,_⟩ <;> rfl
theorem MQ {esz bytes:Nat} {z:AV} (hz:jW esz (bS z)) {base:Nat} {v:AV} {xs:List AV} {G:List aa} (h:RO z base v xs G) (fx:∀ x∈xs,jW esz x) (o:Nat) (ys:List AV) (hy:ys≠[]) (rG:∀ x∈ys,jW esz x)
 (hb:(xs.length + ys.length) * bytes≤140737488355328) (hG:base≤G.length) {K:AV→List aa→Prop}
 (hK:∀ v' G',RO z base v' (xs++ys) G'→G'.take base=G.take base→(∀ j,j < base→G'[j]?=G[j]?)→G.length≤G'.length→K v' G'):da esz bytes z v (.al o ys) G K:=by
 have jM:rE esz ys:=fun y hy=>⟨(rG y hy).len,(rG y hy).one⟩
 obtain ⟨f1,f2,f3,f4⟩:=jW.flat rG
 obtain ⟨g1,g2,g3,g4⟩:=jW.flat fx
 have ta:=sD hz
 have lV:∀ n m,aj n (c8 z m)=true:=fun n m=>(jW.flat (kR hz m)).2.2.1 n
 unfold da
 simp only [dB]
 refine ⟨jM,?_⟩
 rcases h with ⟨rfl,rfl⟩ | ⟨id,cap,bn,rfl,hg,hle,_⟩
 ·refine ⟨by simpa using hb,fun e=>absurd e hy,fun _ cap hc _=>⟨?_,hK _ _ (.inr ⟨G.length,cap,hG,by simp,?_,by simpa using hc,by simpa using hy⟩) ?_ ?_ (by simp)⟩⟩
  ·rw [f2,bK];exact ⟨f3 _,lV _ _⟩
  ·rw [f2];simp [bB]
  ·rw [aaR hG]
  ·intro j hj;rw [yO (by omega)]
 ·have wh:=(aaJ.1 hg).1
  simp only [hg,bB,aaf,g1,ta,abM,List.drop_zero]
  refine ⟨hb,hle,by rw [← abP];exact Nat.le_of_eq (by congr 1;omega),fun hroom=>⟨by rw [f2];exact f3 _,?_⟩,fun jy dN hc _=>⟨?_,?_⟩⟩
  ·rw [f2]
   refine hK _ _ (.inr ⟨id,cap,bn,by simp,?_,by simpa using hroom,by simp [hy]⟩) ?_ ?_ (by simp)
   ·rw [yS wh,bB]
    congr 2
    unfold ah
    rw [f1,aaR (by rw [g1];exact rC _),aaw (by rw [g1];exact rC _),adI,abu (by rw [g1];omega),g1,
     show xs.length * esz + ys.length * esz - xs.length * esz=ys.length * esz by omega,Ax hz _ _ (by omega),oX,List.nil_append,aaf]
    rw [show cap - xs.length - ys.length=cap - (xs.length + ys.length) by omega,abb]
   ·rw [abI (by omega)]
   ·intro j hj;rw [yQ (by omega)]
  ·rw [aaR (by rw [g1];exact rC _),aaw (by rw [g1];exact rC _),g2,f2,bK,bK];exact ⟨⟨g3 _,f3 _⟩,lV _ _⟩
  ·rw [aaR (by rw [g1];exact rC _),aaw (by rw [g1];exact rC _),g2,f2,← oX]
   refine hK _ _ (.inr ⟨G.length,dN,hG,by simp,?_,by simpa using hc,by simp [hy]⟩) ?_ ?_ (by simp)
   ·simp [bB]
   ·rw [aaR hG]
   ·intro j hj;rw [yO (by omega)]
theorem qY {esz:Nat}:∀ {xs:List AV} (_:∀ x∈xs,jW esz x) (i:Nat),i < xs.length→(flat xs).drop (i * esz)=(xs.getD i .any).cells++flat (xs.drop (i + 1))
 | [],_,i,h=>by simp at h
 | x::r,hx,0,_=>by simp [flat]
 | x::r,hx,i + 1,h=>by
   have hl:=(hx x aaW).len
   have e:flat (x::r)=x.cells++flat r:=rfl
   rw [e,show (i + 1) * esz=x.cells.length + i * esz by rw [hl,abP];omega,adI,List.getD_cons_succ,List.drop_succ_cons]
   have:=qY (xs:=r) (fun y hy=>hx y (aaF _ hy)) i (by simpa using h)
   simp [this]
theorem Ay {esz:Nat} {z:AV} {c:Nat} (hc:c < esz) (v:AV):∀ {xs:List AV} (_:∀ x∈xs,jW esz x) (i:Nat) {y:AV} (rest:List AV),i < xs.length→y.cells=(xs.getD i .any).cells.set c v→
 (flat xs++rest).set (i * esz + c) v=flat (xs.set i y)++rest
 | [],_,i,_,_,h,_=>by simp at h
 | x::r,hx,0,y,rest,_,hy=>by
   have hl:=(hx x aaW).len
   have e:flat (x::r)=x.cells++flat r:=rfl
   rw [afe,e,show flat (y::r)=y.cells++flat r from rfl,hy,afM,abM,abb,afQ _ _ (by omega),abb]
   rfl
 | x::r,hx,i + 1,y,rest,h,hy=>by
   have hl:=(hx x aaW).len
   have e:flat (x::r)=x.cells++flat r:=rfl
   have ih:=Ay (z:=z) hc v (xs:=r) (fun y hy=>hx y (aaF _ hy)) i rest (y:=y) (by simpa using h) (by simpa using hy)
   rw [afY,e,show flat (x::r.set i y)=x.cells++flat (r.set i y) from rfl,abb,abb,← ih,show (i + 1) * esz + c=x.cells.length + (i * esz + c) by rw [hl,abP];omega]
   rw [adr _ _ (by omega)]
   congr 2;omega
theorem iV (e id N c i:Nat) (k:IntKind) (φ:AV→Prop):aC e (.aZ id 0 N c) (.int k (i:Int)) φ=(i < N∧φ (.ptr id (i * e))):=by
 simp only [aC,yP,abM,eq_iff_iff]
 constructor
 ·rintro ⟨_,h⟩;exact h
 ·exact fun h=>⟨by omega,h⟩
theorem lC {α:Type} (l:List α) (i:Nat) (x:α) (h:i < l.length):ah l i [x]=l.set i x:=by
 unfold ah
 rw [afn,if_pos h]
 rfl
theorem Ch {esz cap id:Nat} {z:AV} {ys:List AV} (rG:∀ x∈ys,jW esz x) {i c:Nat} (hi:i < ys.length) (hc:c < esz) {v y:AV} (h1:v.one=true) (h2:v.val=true) (h3:v.ab.bc 0=true) (hy:y.cells=(ys.getD i .any).cells.set c v.ab)
 {H:List aa} {K:List aa→Prop} (hK:K (H.set id (bB z (ys.set i y) cap))):iJ (some (bB z ys cap)) 1 id (i * esz + c) v H K:=by
 obtain ⟨g1,g2,g3,g4⟩:=jW.flat rG
 have hle:i * esz + esz≤ys.length * esz:=by rw [← Nat.succ_mul];exact ach _ hi
 simp only [bB,xN,z4 h1,h2,List.length_cons,List.length_nil,List.all_cons,List.all_nil,h1,List.map_cons,List.map_nil]
 refine ⟨trivial,trivial,by rw [aaf,g1];omega,rfl,bE (acA _) [v.ab] (by rw [bP,c9,h3];rfl),?_⟩
 rw [lC _ _ _ (by rw [aaf,g1];omega),Ay (z:=z) hc v.ab rG i _ hi hy]
 have e:(ys.set i y).length=ys.length:=by simp
 simp only [bB,e] at hK
 exact hK
theorem Ix {esz:Nat} (h0:1 < esz):∀ {xs:List AV} (_:∀ x∈xs,jW esz x) (_:∀ x∈xs,AV.agg x.cells=x) (rest:List AV),chunks esz xs.length (flat xs++rest)=xs
 | [],_,_,_=>rfl
 | x::r,hx,ha,rest=>by
   have hl:=(hx x aaW)
   have e:flat (x::r)=x.cells++flat r:=rfl
   rw [List.length_cons,chunks,if_neg (by omega),e,abb,aaR (by rw [hl.len];omega),aaw (by rw [hl.len];omega),hl.un,ha x aaW]
   rw [show List.drop esz (x.cells++(flat r++rest))=flat r++rest by rw [← hl.len,afU],Ix h0 (fun y hy=>hx y (aaF _ hy)) (fun y hy=>ha y (aaF _ hy))]
theorem xP {esz id cap:Nat} (h0:1 < esz) {z:AV} (hz:jW esz (bS z)) {xs:List AV} {H:List aa} (hx:∀ x∈xs,jW esz x) (ha:∀ x∈xs,AV.agg x.cells=x) (h:H[id]?=some (bB z xs cap)) (hl:xs.length≤cap) {K:AV→List aa→Prop} (hK:K (.al 0 xs) (H.set id .dead)):dZ esz (.aZ id 0 xs.length cap) H K:=by
 obtain ⟨g1,g2,g3,g4⟩:=jW.flat hx
 simp only [dZ,h,bB,List.drop_zero,Ix h0 hx ha]
 refine ⟨by omega,hl,by simp [g1],?_,hK⟩
 rw [List.all_append,g4,show (c8 z (cap - xs.length)).all AV.one=true from (jW.flat (kR hz _)).2.2.2];rfl
end Go.aK
end
section
set_option maxRecDepth 100000
set_option maxHeartbeats 0
namespace Go.aK
open Go Go.Proofs
noncomputable def ZC:=aG Tryz.call58 Tryz.func58 Tryz.ntmps58 [(3,0,2),(3,2,2),(3,3,1)] [(0,[0]),(1,[0,4]),(2,[2]),(3,[2])] []
noncomputable def ZD:=aG Tryz.call75 Tryz.func75 Tryz.ntmps75 [(0,0,1),(5,2,1000),(6,0,1),(6,8,1),(7,6,2),(7,9,2),(9,0,6004)] [(0,[1,2]),(1,[1,6]),(2,[1,6,7]),(3,[6,7,15,16,17]),(4,[6,7,15,16,17,18]),(5,[6,7,9,15,16,17]),(6,[6,7,9,15,16,17]),(7,[6,7,15,16,17]),(8,[6,7,15,16,17]),(9,[4,5])] [(7,(.take 1 true (.take 2 true (.take 3 true (.take 4 true (.take 5 true (.take 0 false (.br 6 (.take 7 true (.take 8 true (.br 9 .done .nil))) .nil))))))))]
noncomputable def SK:=aG Tryz.call118 Tryz.func118 Tryz.ntmps118 [(3,0,2),(3,2,2),(3,3,1)] [(0,[0]),(1,[0,4]),(2,[2]),(3,[2])] []
noncomputable def Iy:=aG Tryz.call132 Tryz.func132 Tryz.ntmps132 [(0,0,1),(2,0,1),(2,4,2),(2,5,1),(6,2,1000),(7,0,1),(7,5,1),(8,1,1),(8,2,2),(8,3,1),(11,0,1),(11,1,1)] [(0,[1,2]),(1,[1,2,5]),(2,[1,2,5]),(3,[1,2,5,6]),(4,[1,5,6,17,18,19]),(5,[1,5,6,17,18,19,20]),(6,[1,5,6,8,17,18,19]),(7,[1,5,6,8,17,18,19]),(8,[1,5,6,17,18,19]),(9,[1,5,6,17,18,19]),(10,[1]),(11,[4])] []
noncomputable def SL:=aG Tryz.call139 Tryz.func139 Tryz.ntmps139 [(10,9,2000),(15,0,1),(15,4,1),(21,0,1),(21,4,1),(23,2,3000)] [(0,[0,1,2]),(1,[0,1,2,9]),(2,[0,1,2,9,10]),(3,[0,1,2,9,10,11,12]),(4,[0,1,9,10,11,12,26,27,28]),(5,[0,1,9,10,11,12,26,27,28,29]),(6,[0,1,9,10,11,12,13,14,26,27,28]),(7,[0,1,9,10,11,12,13,14,26,27,28,33,34,35]),(8,[0,1,9,10,11,12,13,14,26,27,28,33,34,35,36]),(9,[0,1,9,10,11,12,13,14,15,16,26,27,28,33,34,35]),(10,[0,1,9,10,11,12,13,14,15,26,27,28,33,34,35,50]),(11,[0,1,9,10,11,12,13,15,26,27,28]),(12,[0,1,9,10,11,12,13,26,27,28]),(13,[0,1,9,10,11,12,13,14,26,27,28,33,34,35]),(14,[0,1,9,10,11,12,13,26,27,28,63]),(15,[0,1,9,10,11,12,26,27,28]),(16,[0,1,9,10,11,12,26,27,28]),(17,[10,11,12,69,70,71]),(18,[10,11,12,69,70,71,72]),(19,[10,11,12,17,18,69,70,71]),(20,[10,11,12,17,69,70,71,77]),(21,[10,11,12,69,70,71]),(22,[10,11,12,69,70,71]),(23,[6,7,8])] []
noncomputable def SM:=aG Tryz.call149 Tryz.func149 Tryz.ntmps149 [(1,2,1),(3,1,2000),(4,0,3000)] [(0,[0,1]),(1,[0,1]),(2,[0,8]),(3,[0]),(4,[4])] []
noncomputable def SN:=aG Tryz.call185 Tryz.func185 Tryz.ntmps185 [(5,3,2000),(6,19,2000)] [(0,[0,1,2]),(1,[0,1,2,7,8]),(2,[0,1,2,7,38]),(3,[6]),(4,[0,9,10]),(5,[0,9,10,11]),(6,[6])] [(4,(.take 0 true (.take 1 true (.take 2 true (.take 3 true (.take 4 true (.take 5 true (.take 6 true (.take 7 true (.take 8 true (.take 9 true (.take 10 true (.take 11 true (.take 12 true (.take 13 true (.take 14 true (.take 15 true (.take 16 true (.take 17 true (.take 18 true (.take 19 true (.take 20 true (.take 21 true .done))))))))))))))))))))))),(6,(.take 0 true (.take 1 true (.take 2 true (.take 3 true (.take 4 true (.take 5 true (.take 6 true (.take 7 true (.take 8 true (.take 9 true (.take 10 true (.take 11 true (.take 12 true (.take 13 true (.take 14 true (.take 15 true (.take 16 true (.take 17 true (.take 18 true (.br 19 (.take 20 true (.take 21 true (.take 22 true .done))) .nil)))))))))))))))))))))]
noncomputable def SO:=aG Tryz.call199 Tryz.func199 Tryz.ntmps199 [] [(0,[0,2,3]),(1,[0,2,3,9]),(2,[0,2,3]),(3,[0,2,3])] [(3,(.take 0 true (.take 1 true (.take 4 true (.take 5 true (.take 6 true (.take 7 true (.take 8 true (.take 9 true (.take 10 true (.take 11 true (.take 12 true (.take 2 false (.take 3 false (.br 13 (.take 14 true (.br 15 .done .nil)) .nil)))))))))))))))]
end Go.aK
end
section
set_option maxRecDepth 100000
namespace Go.aK
open Go
inductive T where
 | mk (k n:Int) (l:List T)
 deriving Inhabited
mutual
def T.av:T→AV
 | .mk k n l=>.agg [.int .i64 k,.int .i64 n,.al 0 (cJ l)]
def cJ:List T→List AV
 | []=>[]
 | x::r=>x.av::cJ r
end
def T.k:T→Int | .mk k _ _=>k
def T.n:T→Int | .mk _ n _=>n
def T.l:T→List T | .mk _ _ l=>l
theorem T.vx (x:T):x.av=.agg [.int .i64 x.k,.int .i64 x.n,.al 0 (cJ x.l)]:=by cases x;rfl
theorem nE:∀ l,cJ l=l.map T.av
 | []=>rfl
 | x::r=>by simp [cJ,nE r]
theorem sE (l:List T):(cJ l).length=l.length:=by simp [nE]
theorem sF (l:List T) (i:Nat) (h:i < l.length):(cJ l).getD i .any=(l.getD i default).av:=by
 simp [nE,h]
mutual
theorem T.gl (n:Nat):∀ x:T,x.av.bc n=true
 | .mk k m l=>by simp [T.av,AV.bc,aj,dq n l]
theorem dq (n:Nat):∀ l:List T,aj n (cJ l)=true
 | []=>rfl
 | x::r=>by simp [cJ,aj,T.gl n x,dq n r]
end
theorem T.pK (x:T):AV.agg x.av.cells=x.av:=by cases x;rfl
theorem T.xQ (x:T):x.av.val=true:=by cases x;rfl
theorem T.qZ (x:T):x.av.cells.all AV.one=true:=by cases x;rfl
theorem T.kS (x:T):x.av.ab=x.av:=by cases x;rfl
theorem T.sG (x:T):x.av.drop=x.av:=by cases x;rfl
theorem T.En (x:T):x.av.cells.map AV.ab=x.av.cells:=by cases x;rfl
theorem T.GR (x:T):x.av.cells.map AV.drop=x.av.cells:=by cases x;rfl
theorem T.iL (x:T):x.av.cells.length=3:=by cases x;rfl
theorem MR (o:Nat) (l:List T):(∀ (own:Nat) (xs:List AV),AV.al o (cJ l)=AV.al own xs→∀ z∈xs,z.cells.length=3)=True:=by
 simp only [eq_iff_iff,iff_true]
 intro own xs e z hz
 cases e
 rw [nE] at hz
 obtain ⟨y,_,rfl⟩:=aal.1 hz
 exact y.iL
theorem QY (e o:Nat) (l:List T) (k:IntKind) (i:Nat) (φ:AV→Prop):aC e (.al o (cJ l)) (.int k (i:Int)) φ=(i < l.length∧φ (.ai (l.getD i default).av)):=by
 simp only [aC,sE,yP,eq_iff_iff]
 constructor
 ·rintro ⟨_,h,h2⟩;rw [sF _ _ h] at h2;exact ⟨h,h2⟩
 ·rintro ⟨h,h2⟩;rw [sF _ _ h];exact ⟨by omega,h,h2⟩
theorem Eo (x:T) (H:List aa) (φ:AV→Prop):aV (some 3) (.ai x.av) H φ=φ x.av:=by
 simp [aV,T.iL,T.pK]
theorem ada (a b c:AV) (x:T):ah [a,b,c] 0 x.av.cells=x.av.cells:=by simp [ah,T.iL]
theorem adb (n:Nat) (x:T):aj n x.av.cells=true:=cL (x.gl _)
theorem QZ (x:T) (φ:AV→Prop):dd (some (.cells x.av.cells)) (some 3) 0 φ=φ x.av:=by
 have e:List.map AV.drop (List.take 3 (List.drop 0 x.av.cells))=x.av.cells:=by cases x;rfl
 simp only [dd,e,T.pK]
 simp [T.iL]
theorem fk (x:T) (φ:AV→Prop):ap 0 none (.ai x.av) φ=φ (.ai (.int .i64 x.k)):=by
 cases x;simp [ap,apart,T.av,AV.cells,T.k,AV.one]
theorem fn_ (x:T) (φ:AV→Prop):ap 1 none (.ai x.av) φ=φ (.ai (.int .i64 x.n)):=by
 cases x;simp [ap,apart,T.av,AV.cells,T.n,AV.one]
theorem fl (x:T) (φ:AV→Prop):ap 2 none (.ai x.av) φ=φ (.ai (.al 0 (cJ x.l))):=by
 cases x;simp [ap,apart,T.av,AV.cells,T.l,AV.one]
def ints (l:List Int):List AV:=l.map (AV.int .i64)
theorem aw (l:List Int):(ints l).length=l.length:=by simp [ints]
theorem bf (n:Nat) (l:List Int):aj n (ints l)=true:=by
 rw [a9];intro x hx;obtain ⟨y,_,rfl⟩:=aal.1 hx;rfl
theorem dT (o:Nat) (l:List Int):(∀ (own:Nat) (xs:List AV),AV.al o (ints l)=AV.al own xs→∀ z∈xs,z.cells.length=1)=True:=by
 simp only [eq_iff_iff,iff_true]
 intro own xs e z hz
 cases e
 obtain ⟨y,_,rfl⟩:=aal.1 hz
 rfl
theorem MS (e o:Nat) (l:List Int) (k:IntKind) (i:Nat) (φ:AV→Prop):aC e (.al o (ints l)) (.int k (i:Int)) φ=(i < l.length∧φ (.ai (.int .i64 (l.getD i 0)))):=by
 simp only [aC,aw,yP,eq_iff_iff]
 constructor
 ·rintro ⟨_,h,h2⟩;refine ⟨h,?_⟩;simpa [ints,h] using h2
 ·rintro ⟨h,h2⟩;refine ⟨by omega,h,?_⟩;simpa [ints,h] using h2
theorem tY (l:List Int) (n:Int):ints l++[.int .i64 n]=ints (l++[n]):=by simp [ints]
theorem ok_int (k:IntKind) (n:Int):rE 1 [.int k n]=True:=by simp [rE,AV.cells,AV.one]
theorem nF (l:List Int):rE 1 (ints l)=True:=by
 simp only [rE,eq_iff_iff,iff_true]
 intro y hy
 obtain ⟨z,_,rfl⟩:=aal.1 hy
 exact ⟨rfl,rfl⟩
theorem VA (x:T):rE 3 [x.av]=True:=by
 simp only [rE,eq_iff_iff,iff_true]
 intro y hy
 rw [aaB] at hy
 subst hy
 exact ⟨x.iL,x.qZ⟩
theorem VB (k:IntKind) (n:Int):a7 (.int k n)=.int k n:=af4
theorem ade (x:T):a7 x.av=x.av:=by cases x;rfl
theorem bs0 (z:AV) (esz:Nat) (φ:List AV→Prop):bw (List.replicate 0 z) esz [] φ=φ []:=af4
theorem bs1 (z x:AV) (esz:Nat) (φ:List AV→Prop):bw (List.replicate 1 (a7 z)) esz [(0,x)] φ=(x.val=true∧x.cells.length=esz∧φ [a7 x]):=by
 simp [bw]
theorem bs2 (z x y:AV) (esz:Nat) (φ:List AV→Prop):bw (List.replicate 2 (a7 z)) esz [(0,x),(1,y)] φ=(x.val=true∧x.cells.length=esz∧y.val=true∧y.cells.length=esz∧φ [a7 x,a7 y]):=by
 simp [bw,List.replicate]
theorem bs3 (z x y u:AV) (esz:Nat) (φ:List AV→Prop):bw (List.replicate 3 (a7 z)) esz [(0,x),(1,y),(2,u)] φ=(x.val=true∧x.cells.length=esz∧y.val=true∧y.cells.length=esz∧u.val=true∧u.cells.length=esz∧φ [a7 x,a7 y,a7 u]):=by
 simp [bw,List.replicate]
@[congr] theorem OI {xs:List AV} {esz:Nat} {ps ps':List (Nat×AV)} {φ:List AV→Prop} (h:gZ ps=ps'):bw xs esz ps φ=bw xs esz ps' φ:=by subst h;rfl
def VC:=(hV (hV (hV (hV @or_true @true_or) (hV @true_and @and_true)) (hV (hV @true_implies @afZ) (hV @acb (hV @Bool.not_true @Bool.not_false)))) (hV (hV (hV @decide_true @decide_false) (hV @Classical.not_not @not_true_eq_false)) (hV (hV @not_false_eq_true @false_implies) (hV @Int.not_le (hV @Int.not_lt @rC)))))
def VD:=(hV (hV (hV (hV (hV @sE @T.gl) (hV @dq @T.xQ)) (hV (hV @T.qZ @T.kS) (hV @T.sG @T.En))) (hV (hV (hV @T.GR @T.iL) (hV @T.pK @MR)) (hV (hV @QY @Eo) (hV @ada (hV @adb @QZ))))) (hV (hV (hV (hV @fk @fn_) (hV @fl @aw)) (hV (hV @bf @dT) (hV @MS @tY))) (hV (hV (hV @ok_int @VA) (hV @nF @VB)) (hV (hV @ade @bs0) (hV @bs1 (hV @bs2 @bs3))))))
theorem sZa {α:Type} (a b:α) (h:Decidable True):(if True then a else b)=a:=if_pos trivial
def sZ:=hV Vz (hV VD (hV VC (hV @sZa (hV @ne_eq.{1} (hV @forall_const.{1} (hV @implies_true.{0} (hV @implies_true.{1} (hV @List.nil_append.{0} (hV @abQ.{0} (hV @List.cons_append.{0} (hV @List.length_cons.{0} @List.length_nil.{0})))))))))))
end Go.aK
end
section
end
section
set_option maxRecDepth 100000
namespace Go.aK
open Go Go.Proofs
theorem fa {l:List T} {i:Nat} (h:i < l.length):l.getD i default∈l:=by simp [h]
theorem T.lt {x y:T} (h:x∈y.l):SizeOf.sizeOf x < SizeOf.sizeOf y:=by
 cases y with
 | mk k n l=>
   have:=List.sizeOf_lt_of_mem h
   simp only [T.l] at this
   simp only [T.mk.sizeOf_spec]
   omega
end Go.aK
end
section
set_option maxRecDepth 100000
namespace Go.aK
open Go Go.Proofs
end Go.aK
end
section
set_option maxRecDepth 100000
namespace Go.aK
open Go Go.Proofs
mutual
def gS:T→Int→Int×Int→Int×Int
 | .mk _ _ l,d,s=>lW l (d + 1) (s.1 + 1,max s.2 d)
def lW:List T→Int→Int×Int→Int×Int
 | [],_,s=>s
 | x::r,d,s=>if 2000 < s.1∨200 < s.2 then s else lW r d (gS x d s)
end
def qB (d:Int) (s:Int×Int):Prop:=0≤s.1∧s.1≤2000∧0≤s.2∧s.2≤200∧0≤d∧d≤201
def nG (s:Int×Int):Prop:=0≤s.1∧s.1≤2001∧0≤s.2∧s.2≤201
mutual
theorem xR:∀ (x:T) (d:Int) (s:Int×Int),qB d s→nG (gS x d s)∧(gS x d s).2 ≥ d
 | .mk k n l,d,s,h=>by
   simp only [gS]
   obtain ⟨h1,h2,h3,h4,h5,h6⟩:=h
   have:=Ep l (d + 1) (s.1 + 1,max s.2 d) (by unfold nG;simp only;omega) (by omega) (by simp only;omega)
   refine ⟨this.1,?_⟩
   have h:=this.2
   simp only at h
   omega
theorem Ep:∀ (l:List T) (d:Int) (s:Int×Int),nG s→0≤d→d≤s.2 + 1→nG (lW l d s)∧s.2≤(lW l d s).2
 | [],d,s,h,_,_=>by simp [lW,h]
 | x::r,d,s,h,hd,Jk=>by
   simp only [lW]
   split
   ·exact ⟨h,afW _⟩
   ·rename_i hn
    obtain ⟨h1,h2,h3,h4⟩:=h
    have hx:=xR x d s ⟨h1,by omega,h3,by omega,hd,by omega⟩
    have hr:=Ep r d (gS x d s) hx.1 hd (by omega)
    have:=tZ x d s
    exact ⟨hr.1,by omega⟩
theorem tZ:∀ (x:T) (d:Int) (s:Int×Int),s.2≤(gS x d s).2
 | .mk k n l,d,s=>by
   simp only [gS]
   have:=Az l (d + 1) (s.1 + 1,max s.2 d)
   simp only at this
   omega
theorem Az:∀ (l:List T) (d:Int) (s:Int×Int),s.2≤(lW l d s).2
 | [],d,s=>by simp [lW]
 | x::r,d,s=>by
   simp only [lW]
   split
   ·omega
   ·have h1:=tZ x d s
    have h2:=Az r d (gS x d s)
    omega
end
theorem Km {l:List T} {i:Nat} {d:Int} {s:Int×Int} (h:i < l.length):lW (l.drop i) d s=if 2000 < s.1∨200 < s.2 then s else lW (l.drop (i + 1)) d (gS (l.getD i default) d s):=by
 rw [abr h]
 simp [lW,h]
def fh (s:Int×Int):List aa:=[.cells [.int .i64 s.1,.int .i64 s.2]]
theorem VE (H:List aa) (x:T) (d:Int) (s:Int×Int) (hs:qB d s) :
 ax Tryz.prog 171 [.ptr H.length 0,x.av,.int .i64 d] (H++fh s) fun r H'=>r=.tuple []∧H'=H++fh (gS x d s):=by
 have ih:∀ y∈x.l,∀ (d:Int) (s:Int×Int),qB d s→ax Tryz.prog 171 [.ptr H.length 0,y.av,.int .i64 d] (H++fh s) fun r H'=>r=.tuple []∧H'=H++fh (gS y d s):=
  fun y hy d s hs=>VE H y d s hs
 have e:gS x d s=lW x.l (d + 1) (s.1 + 1,max s.2 d):=by cases x;simp only [gS,T.l]
 obtain ⟨h1,h2,h3,h4,h5,h6⟩:=hs
 have w1:IntKind.i64.wrap (s.1 + 1)=s.1 + 1:=cr _ (by omega)
 have w2:IntKind.i64.wrap (d + 1)=d + 1:=cr _ (by omega)
 refine Pw.2.calls rfl ?_
 simp only [Pw,aG]
 simp only [w1,fh,sZ,Nat.reduceEqDiff,Nat.reduceAdd,Nat.reduceLT,Nat.reduceLeDiff,↓reduceIte,reduceCtorEq]
 intro hl
 have K3:nG (s.1 + 1,max s.2 d):=by unfold nG;simp only;omega
 have hmd:d≤max s.2 d:=by omega
 generalize max s.2 d=m at *
 refine aJ x.l.length (fun i (t:Int×Int)=>nG t∧d≤t.2∧lW (x.l.drop i) (d + 1) t=gS x d s)
  (fun i t=>[(0,.ptr H.length 0),(2,.int .i64 d),(25,.al 0 (cJ x.l)),(26,.int .i64 x.l.length),(27,.int .i64 i)]) (fun i t=>H++fh t) (s.1 + 1,m) ⟨⟨K3,hmd,by rw [e];rfl⟩,aB _ _ _⟩ fun i t hi hI=>?_
 obtain ⟨⟨k1,k2,k3,k4⟩,k5,hI⟩:=hI
 simp only [w2,fh,sZ,Nat.reduceEqDiff,Nat.reduceAdd,Nat.reduceLT,↓reduceIte,reduceCtorEq]
 refine ⟨fun aS=>⟨bN aS,?_⟩,fun jw=>?_⟩
 ·have aS:=bN aS
  rw [Km aS] at hI
  refine ⟨fun hn1=>⟨fun hn2=>?_,fun hn2=>?_⟩,fun hn1=>?_⟩
  ·rw [if_pos (.inr hn2)] at hI;rw [← hI];exact sB (by simp [fh]) rfl
  ·rw [if_neg (by omega)] at hI
   have ho:qB (d + 1) t:=⟨k1,by omega,k3,by omega,by omega,by omega⟩
   have hx:=xR (x.l.getD i default) (d + 1) t ho
   refine af (ih _ (fa aS) (d + 1) t ho) ?_
   rintro r H' ⟨rfl,rfl⟩
   simp only [fh,sZ,Nat.reduceEqDiff,↓reduceIte,reduceCtorEq]
   exact ⟨i + 1,gS (x.l.getD i default) (d + 1) t,⟨aS,hx.1,by omega,hI⟩,by omega,aE (by rw [au i (by omega)]) rfl⟩
  ·rw [if_pos (.inl hn1)] at hI;rw [← hI];exact sB (by simp [fh]) rfl
 ·rw [abu (dh jw)] at hI
  rw [← hI]
  exact sB (by simp [fh]) rfl
termination_by SizeOf.sizeOf x
decreasing_by exact T.lt hy
def vz (s:Int×Int):Bool:=decide (2000 < s.1) || decide (200 < s.2)
theorem ZE (H:List aa) (s:Int×Int):ax Tryz.prog 172 [.ptr H.length 0] (H++fh s) fun r H'=>r=.bool (vz s)∧H'=H++fh s:=by
 refine Py.2.calls rfl ?_
 simp only [Py,aG]
 simp only [fh,sZ,Nat.reduceEqDiff,Nat.reduceAdd,Nat.reduceLT,↓reduceIte,reduceCtorEq]
 refine ⟨fun h=>?_,fun h=>?_⟩
 ·exact Vx (by simp [fh]) rfl (by simp [vz,Int.not_lt.2 h]) rfl
 ·exact Vx (by simp [fh]) rfl (by simp [vz,h]) rfl
def ua (p:T→Bool):List T→Int→Int
 | [],_=>-1
 | x::r,k=>if p x=true then k else ua p r (k + 1)
theorem xS (p:T→Bool):∀ (l:List T) (k:Int),0≤k→(decide (0≤ua p l k)=l.any p)
 | [],k,_=>by simp [ua]
 | x::r,k,h=>by
   simp only [ua,af0]
   split
   ·rename_i hp;simp [hp,h]
   ·rename_i hp;simp [hp,xS p r (k + 1) (by omega)]
theorem AA {p:T→Bool} {l:List T} {i:Nat} {k:Int} (h:i < l.length):ua p (l.drop i) k=if p (l.getD i default)=true then k else ua p (l.drop (i + 1)) (k + 1):=by
 rw [abr h]
 simp [ua,h]
theorem adg (g:Nat) (p:T→Bool) (l:List T) (hf:∀ x∈l,Pure Tryz.prog g [x.av] (.bool (p x))) :
 Pure Tryz.prog 114 [.al 0 (cJ l),.fn (.func g) [] []] (.int .i64 (ua p l 0)):=by
 refine fun H=>DW.2.calls rfl ?_
 simp only [DW,aG]
 simp only [sZ,Nat.reduceEqDiff,Nat.reduceAdd,↓reduceIte,reduceCtorEq]
 intro hl
 refine aD l.length (fun i=>ua p (l.drop i) i=ua p l 0) (fun i=>[(0,.al 0 (cJ l)),(1,.fn (.func g) [] []),(7,.int .i64 l.length),(8,.int .i64 i)]) (fun _=>H) ⟨rfl,aB _ _ _⟩ fun i hi hI=>?_
 simp only [sZ,Nat.reduceEqDiff,Nat.reduceAdd,↓reduceIte,reduceCtorEq]
 refine ⟨fun aS=>?_,fun jw=>?_⟩
 ·have aS:=bN aS
  rw [AA aS] at hI
  refine ⟨aS,ae (hf _ (fa aS)) ?_⟩
  simp only [sZ,Nat.reduceEqDiff,↓reduceIte,reduceCtorEq]
  refine wA (fun hb=>?_) (fun hb=>?_) <;> simp only [sZ,Nat.reduceEqDiff,↓reduceIte,reduceCtorEq]
  ·rw [if_pos hb] at hI
   exact a8 rfl (by rw [← hI])
  ·rw [if_neg (by rw [hb];simp)] at hI
   exact ⟨i + 1,⟨aS,hI⟩,by omega,aE (by rw [au i (by omega)]) rfl⟩
 ·rw [abu (dh jw)] at hI
  exact a8 rfl (by rw [← hI];rfl)
theorem c53 (g:Nat) (p:T→Bool) (l:List T) (hf:∀ x∈l,Pure Tryz.prog g [x.av] (.bool (p x))) :
 Pure Tryz.prog 53 [.al 0 (cJ l),.fn (.func g) [] []] (.bool (l.any p)):=by
 refine fun H=>Sd.2.calls rfl ?_
 simp only [Sd,aG]
 simp only [sZ,Nat.reduceEqDiff,Nat.reduceAdd,↓reduceIte,reduceCtorEq]
 refine ae (adg g p l hf) ?_
 simp only [sZ,↓reduceIte,reduceCtorEq]
 exact a8 rfl (by rw [xS p l 0 (by omega)])
mutual
def T.shaped:T→Bool
 | .mk k n l=>!(decide (n < 0) || (decide (k=1) && decide (0 < l.length)) || (decide (k≠1) && decide (k≠2)) || decide (8 < l.length)) && ew l
def ew:List T→Bool
 | []=>true
 | x::r=>x.shaped && ew r
end
theorem oY:∀ l,ew l=l.all T.shaped
 | []=>rfl
 | x::r=>by simp only [ew,List.all_cons,oY r]
theorem Er (l:List T):(!(l.any fun x=>!x.shaped))=ew l:=by
 rw [oY]
 induction l with
 | nil=>rfl
 | cons x r ih=>simp only [af0,List.all_cons,Bool.not_or,aeN,ih]
theorem T.dU (x:T):x.shaped=(!(decide (x.n < 0) || (decide (x.k=1) && decide (0 < x.l.length)) || (decide (x.k≠1) && decide (x.k≠2)) || decide (8 < x.l.length)) && ew x.l):=by
 cases x;simp only [T.shaped,T.k,T.n,T.l];rfl
theorem Ci {l:List T} {i:Nat} (h:i < l.length):ew (l.drop i)=((l.getD i default).shaped && ew (l.drop (i + 1))):=by
 rw [abr h]
 simp [ew,h]
theorem T.Kn {x:T} (hh:¬ (x.n < 0∨(x.k=1∧0 < x.l.length)∨(x.k≠1∧x.k≠2)∨8 < x.l.length)):x.shaped=ew x.l:=by
 rw [x.dU]
 have h1:decide (x.n < 0)=false:=aca.2 (by simp only [ne_eq,decide_eq_true_eq];omega)
 have h2:(decide (x.k=1) && decide (0 < x.l.length))=false:=aca.2 (by simp only [ne_eq,Ot,decide_eq_true_eq];omega)
 have h3:(decide (x.k≠1) && decide (x.k≠2))=false:=aca.2 (by simp only [ne_eq,Ot,decide_eq_true_eq];omega)
 have h4:decide (8 < x.l.length)=false:=aca.2 (by simp only [ne_eq,decide_eq_true_eq];omega)
 rw [h1,h2,h3,h4];rfl
theorem adh (x:T) (h:Pure Tryz.prog 173 [x.av] (.bool x.shaped)):Pure Tryz.prog 211 [x.av] (.bool (!x.shaped)):=by
 refine fun H=>PL.2.calls rfl ?_
 simp only [PL,aG]
 simp only [sZ,Nat.reduceEqDiff,Nat.reduceAdd,↓reduceIte]
 refine ae h ?_
 simp only [sZ,↓reduceIte,reduceCtorEq]
 exact a8 rfl rfl
theorem ZF (x:T):Pure Tryz.prog 173 [x.av] (.bool x.shaped):=by
 have ih:∀ y∈x.l,Pure Tryz.prog 211 [y.av] (.bool (!y.shaped)):=fun y hy=>adh y (ZF y)
 refine fun H=>Pz.2.calls rfl ?_
 simp only [Pz,aG]
 simp +contextual only [sZ,Nat.reduceEqDiff,Nat.reduceAdd,↓reduceIte,reduceCtorEq]
 have fin:∀ (H':List aa),H'=H→(x.n < 0∨(x.k=1∧0 < x.l.length)∨(x.k≠1∧x.k≠2)∨8 < x.l.length)→bV H.length [RX.t 2] [(2,AV.bool false)] H' fun r H'=>r=AV.bool x.shaped∧H'=H:=by
  rintro H' rfl hh
  refine a8 rfl ?_
  rw [x.dU]
  rcases hh with h | h | h | h <;> simp [h]
 have go:¬ (x.n < 0∨(x.k=1∧0 < x.l.length)∨(x.k≠1∧x.k≠2)∨8 < x.l.length)→x.shaped=ew x.l:=by
  intro hh
  rw [x.dU]
  have h1:decide (x.n < 0)=false:=aca.2 (by simp only [ne_eq,decide_eq_true_eq];omega)
  have h2:(decide (x.k=1) && decide (0 < x.l.length))=false:=aca.2 (by simp only [ne_eq,Ot,decide_eq_true_eq];omega)
  have h3:(decide (x.k≠1) && decide (x.k≠2))=false:=aca.2 (by simp only [ne_eq,Ot,decide_eq_true_eq];omega)
  have h4:decide (8 < x.l.length)=false:=aca.2 (by simp only [ne_eq,decide_eq_true_eq];omega)
  rw [h1,h2,h3,h4];rfl
 refine ⟨fun h=>fin _ rfl (.inl h),fun h=>⟨fun h1 hl=>⟨fun h2=>fin _ rfl (by omega),fun h2=>⟨fun h3=>fin _ rfl (by omega),fun h3=>ae (c53 211 _ _ ih) ?_⟩⟩,
  fun h1=>⟨fun h2=>fin _ rfl (by omega),fun h2 hl=>⟨fun h3=>fin _ rfl (by omega),fun h3=>ae (c53 211 _ _ ih) ?_⟩⟩⟩⟩ <;>
 ·simp only [sZ,↓reduceIte,reduceCtorEq]
  exact a8 rfl (by rw [go (by omega),Er])
termination_by SizeOf.sizeOf x
decreasing_by exact T.lt hy
def T.tree (x:T):Bool:=!vz (gS x 1 (0,0)) && x.shaped
theorem ZG (x:T):Pure Tryz.prog 108 [x.av] (.bool x.tree):=by
 refine fun H=>Pq.2.calls rfl ?_
 simp only [Pq,aG]
 simp only [sZ,Nat.reduceEqDiff,Nat.reduceAdd,↓reduceIte,reduceCtorEq]
 refine af (VE H x 1 (0,0) (by unfold qB;simp)) ?_
 rintro r H' ⟨rfl,rfl⟩
 simp only [sZ,Nat.reduceEqDiff,Nat.reduceAdd,↓reduceIte]
 refine af (ZE H (gS x 1 (0,0))) ?_
 rintro r H' ⟨rfl,rfl⟩
 cases hb:vz (gS x 1 (0,0)) <;> simp +contextual only [sZ,Nat.reduceEqDiff,Nat.reduceAdd,↓reduceIte,reduceCtorEq]
 ·refine ae (ZF x) ?_
  simp only [sZ,Nat.reduceEqDiff,↓reduceIte,reduceCtorEq]
  exact MO rfl (by simp [T.tree,hb])
 ·exact MO rfl (by simp [T.tree,hb])
mutual
def iM:T→Int→Int→Int×Bool
 | .mk _ _ l,left,deep=>if left - 1 < 0∨200 < deep then (left - 1,false) else nH l (left - 1) (deep + 1)
def nH:List T→Int→Int→Int×Bool
 | [],left,_=>(left,true)
 | x::r,left,deep=>if (iM x left deep).2=true then nH r (iM x left deep).1 deep else ((iM x left deep).1,false)
end
mutual
theorem Cj:∀ (x:T) (left deep:Int),(iM x left deep).1≤left∧(0≤left→-1≤(iM x left deep).1∧((iM x left deep).2=true→0≤(iM x left deep).1))
 | .mk k n l,left,deep=>by
   simp only [iM]
   split
   ·simp;omega
   ·rename_i hn
    have:=Iz l (left - 1) (deep + 1)
    exact ⟨by omega,fun _=>this.2 (by omega)⟩
theorem Iz:∀ (l:List T) (left deep:Int),(nH l left deep).1≤left∧(0≤left→-1≤(nH l left deep).1∧((nH l left deep).2=true→0≤(nH l left deep).1))
 | [],left,deep=>by simp [nH];omega
 | x::r,left,deep=>by
   have h1:=Cj x left deep
   simp only [nH]
   split
   ·rename_i hb
    have h2:=Iz r (iM x left deep).1 deep
    exact ⟨by omega,fun h0=>h2.2 ((h1.2 h0).2 hb)⟩
   ·exact ⟨h1.1,fun h0=>⟨(h1.2 h0).1,fun e=>by cases e⟩⟩
end
theorem Ko {l:List T} {i:Nat} {left d:Int} (h:i < l.length):nH (l.drop i) left d=if (iM (l.getD i default) left d).2=true then nH (l.drop (i + 1)) (iM (l.getD i default) left d).1 d else ((iM (l.getD i default) left d).1,false):=by
 rw [abr h]
 simp [nH,h]
theorem ZH (x:T) (left deep:Int) (h0:0≤left) (h1:left≤100000) (h2:0≤deep) (h3:deep≤201) :
 Pure Tryz.prog 214 [x.av,.int .i64 left,.int .i64 deep] (.tuple [.int .i64 (iM x left deep).1,.bool (iM x left deep).2]):=by
 have ih:∀ y∈x.l,∀ (left deep:Int),0≤left→left≤100000→0≤deep→deep≤201→
  Pure Tryz.prog 214 [y.av,.int .i64 left,.int .i64 deep] (.tuple [.int .i64 (iM y left deep).1,.bool (iM y left deep).2]):=fun y hy left deep h0 h1 h2 h3=>ZH y left deep h0 h1 h2 h3
 have e:iM x left deep=if left - 1 < 0∨200 < deep then (left - 1,false) else nH x.l (left - 1) (deep + 1):=by cases x;simp only [iM,T.l]
 have w1:IntKind.i64.wrap (left - 1)=left - 1:=cr _ (by omega)
 have w2:IntKind.i64.wrap (deep + 1)=deep + 1:=cr _ (by omega)
 refine fun H=>YT.2.calls rfl ?_
 simp only [YT,aG]
 simp +contextual only [w1,sZ,Nat.reduceEqDiff,Nat.reduceAdd,↓reduceIte,reduceCtorEq]
 refine ⟨fun h4=>⟨fun h5=>Iw (by decide) rfl rfl (by rw [e,if_pos (.inr h5)];rfl) (by rw [e,if_pos (.inr h5)];rfl),fun h5=>?_⟩,fun h4=>Iw (by decide) rfl rfl (by rw [e,if_pos (.inl h4)];rfl) (by rw [e,if_pos (.inl h4)];rfl)⟩
 have e2:iM x left deep=nH x.l (left - 1) (deep + 1):=by rw [e,if_neg (by omega)]
 refine aJ x.l.length (fun i (s:Int)=>0≤s∧s≤100000∧nH (x.l.drop i) s (deep + 1)=iM x left deep)
  (fun i s=>[(1,.int .i64 s),(2,.int .i64 deep),(3,x.av.ai),(8,.int .i64 i)]) (fun i s=>H) (left - 1) ⟨⟨by omega,by omega,by rw [e2];rfl⟩,aB _ _ _⟩ fun i s hi hI=>?_
 obtain ⟨k0,k1,hI⟩:=hI
 simp +contextual only [w2,sZ,Nat.reduceEqDiff,Nat.reduceAdd,↓reduceIte,reduceCtorEq]
 intro hl
 refine ⟨fun aS=>⟨bN aS,?_⟩,fun jw=>?_⟩
 ·have aS:=bN aS
  rw [Ko aS] at hI
  have hle:=Cj (x.l.getD i default) s (deep + 1)
  refine ae (ih _ (fa aS) s (deep + 1) k0 k1 (by omega) (by omega)) ?_
  simp +contextual only [sZ,Nat.reduceEqDiff,Nat.reduceAdd,Nat.reduceLT,↓reduceIte]
  refine wA (fun hb=>?_) (fun hb=>?_) <;> simp +contextual only [sZ,Nat.reduceEqDiff,↓reduceIte,reduceCtorEq]
  ·rw [if_pos hb] at hI
   exact ⟨i + 1,_,⟨aS,(hle.2 k0).2 hb,by omega,hI⟩,by omega,aE (by rw [au i (by omega)]) rfl⟩
  ·rw [if_neg (by rw [hb];simp)] at hI
   exact Iw (by decide) rfl rfl (by rw [← hI];rfl) (by rw [← hI];rfl)
 ·rw [abu (dh jw)] at hI
  exact Iw (by decide) rfl rfl (by rw [← hI];rfl) (by rw [← hI];rfl)
termination_by SizeOf.sizeOf x
decreasing_by exact T.lt hy
theorem ZI (x:T):Pure Tryz.prog 215 [x.av] (.bool x.shaped):=by
 have ih:∀ y∈x.l,Pure Tryz.prog 215 [y.av] (.bool y.shaped):=fun y hy=>ZI y
 refine fun H=>YU.2.calls rfl ?_
 simp only [YU,aG]
 simp +contextual only [sZ,Nat.reduceEqDiff,Nat.reduceAdd,↓reduceIte,reduceCtorEq,Int.reduceEq]
 have fin:∀ (H':List aa),H'=H→(x.n < 0∨(x.k=1∧0 < x.l.length)∨(x.k≠1∧x.k≠2)∨8 < x.l.length)→bV H.length [RX.t 2] [(2,AV.bool false)] H' fun r H'=>r=AV.bool x.shaped∧H'=H:=by
  rintro H' rfl hh
  refine a8 rfl ?_
  rw [x.dU]
  rcases hh with h | h | h | h <;> simp [h]
 refine ⟨fun h=>⟨fun h1=>⟨fun h2 hl=>⟨fun h3=>fin _ rfl (by omega),fun h3=>?_⟩,fun h2=>fin _ rfl (by omega)⟩,fun h1 hl=>⟨fun h2=>⟨fun h3=>fin _ rfl (by omega),fun h3=>?_⟩,fun h2=>fin _ rfl (by omega)⟩⟩,fun h=>fin _ rfl (by omega)⟩
 all_goals
  have go:x.shaped=ew x.l:=T.Kn (by omega)
  refine aD x.l.length (fun i=>ew (x.l.drop i)=x.shaped) (fun i=>[(1,x.av.ai),(3,.int .i64 i)]) (fun i=>H) ⟨by rw [go];rfl,aB _ _ _⟩ fun i hi hI=>?_
  simp +contextual only [sZ,Nat.reduceEqDiff,Nat.reduceAdd,↓reduceIte,reduceCtorEq]
  intro _
  refine ⟨fun aS=>⟨bN aS,?_⟩,fun jw=>?_⟩
  ·have aS:=bN aS
   rw [Ci aS] at hI
   refine ae (ih _ (fa aS)) ?_
   simp +contextual only [sZ,Nat.reduceEqDiff,↓reduceIte]
   refine wA (fun hb=>?_) (fun hb=>?_) <;> simp +contextual only [sZ,Nat.reduceEqDiff,↓reduceIte,reduceCtorEq]
   ·exact ⟨i + 1,⟨aS,by rw [hb] at hI;simpa using hI⟩,by omega,aE (by rw [au i (by omega)]) rfl⟩
   ·exact a8 rfl (by rw [← hI,hb];rfl)
  ·rw [abu (dh jw)] at hI
   exact a8 rfl (by rw [← hI];rfl)
termination_by SizeOf.sizeOf x
decreasing_by exact T.lt hy
theorem adi (x:T):Pure Tryz.prog 175 [x.av] (.bool ((iM x 2000 1).2 && x.shaped)):=by
 refine fun H=>Ys.2.calls rfl ?_
 simp only [Ys,aG]
 simp +contextual only [sZ,Nat.reduceEqDiff,Nat.reduceAdd,↓reduceIte]
 refine ae (ZH x 2000 1 (by omega) (by omega) (by omega) (by omega)) ?_
 cases hb:(iM x 2000 1).2 <;> simp +contextual only [sZ,Nat.reduceEqDiff,Nat.reduceAdd,Nat.reduceLT,↓reduceIte,reduceCtorEq]
 ·exact a8 rfl rfl
 ·refine ae (ZI x) ?_
  simp +contextual only [sZ,Nat.reduceEqDiff,↓reduceIte,reduceCtorEq]
  exact a8 rfl rfl
end Go.aK
end
section
set_option maxRecDepth 100000
namespace Go.aK
open Go Go.Proofs
mutual
def T.sz:T→Int
 | .mk _ _ l=>1 + yV l
def yV:List T→Int
 | []=>0
 | x::r=>x.sz + yV r
end
mutual
def T.dp:T→Int
 | .mk _ _ l=>1 + GS l
def GS:List T→Int
 | []=>0
 | x::r=>max x.dp (GS r)
end
mutual
theorem T.GU:∀ x:T,1≤x.sz
 | .mk k n l=>by simp only [T.sz];have:=sH l;omega
theorem sH:∀ l:List T,0≤yV l
 | []=>by simp [yV]
 | x::r=>by simp only [yV];have:=T.GU x;have:=sH r;omega
end
mutual
theorem T.Ck:∀ x:T,1≤x.dp
 | .mk k n l=>by simp only [T.dp];have:=pL l;omega
theorem pL:∀ l:List T,0≤GS l
 | []=>by simp [GS]
 | x::r=>by simp only [GS];have:=T.Ck x;have:=pL r;omega
end
def ff (s:Int×Int):Prop:=2000 < s.1∨200 < s.2
mutual
theorem ub:∀ (x:T) (d:Int) (s:Int×Int),qB d s→(¬ ff (gS x d s)↔s.1 + x.sz≤2000∧d + x.dp - 1≤200)∧(¬ ff (gS x d s)→(gS x d s).1=s.1 + x.sz∧(gS x d s).2=max s.2 (d + x.dp - 1))
 | .mk k n l,d,s,h=>by
   obtain ⟨h1,h2,h3,h4,h5,h6⟩:=h
   simp only [gS,T.sz,T.dp]
   have hp:=pL l
   have ih:=AB l (d + 1) (s.1 + 1,max s.2 d) (by unfold nG;simp only;omega) (by omega) (by simp only;omega)
   simp only at ih
   refine ⟨ih.1.trans ⟨fun k=>⟨by omega,by omega⟩,fun k=>⟨by omega,by omega,by omega⟩⟩,fun k=>?_⟩
   have k1:=ih.2 k
   have k2:=ih.1.1 k
   exact ⟨by omega,by omega⟩
theorem AB:∀ (l:List T) (d:Int) (s:Int×Int),nG s→0≤d→d≤s.2 + 1→(¬ ff (lW l d s)↔s.1 + yV l≤2000∧s.2≤200∧d + GS l - 1≤200)∧(¬ ff (lW l d s)→(lW l d s).1=s.1 + yV l∧(lW l d s).2=max s.2 (d + GS l - 1))
 | [],d,s,h,h5,h6=>by
   simp only [lW,yV,GS,ff]
   exact ⟨⟨fun k=>⟨by omega,by omega,by omega⟩,fun k=>by omega⟩,fun k=>⟨by omega,by omega⟩⟩
 | x::r,d,s,h,h5,h6=>by
   obtain ⟨h1,h2,h3,h4⟩:=h
   simp only [lW]
   have Li:=x.GU
   have hd0:=x.Ck
   have hr0:=sH r
   have he0:=pL r
   simp only [yV,GS]
   by_cases ho:2000 < s.1∨200 < s.2
   ·rw [if_pos ho]
    refine ⟨⟨fun k=>absurd ho k,fun k=>?_⟩,fun k=>absurd ho k⟩
    omega
   ·rw [if_neg ho]
    have jM:qB d s:=⟨h1,by omega,h3,by omega,h5,by omega⟩
    have hx:=ub x d s jM
    have ZJ:=xR x d s jM
    have SP:=tZ x d s
    have ih:=AB r d (gS x d s) ZJ.1 h5 (by omega)
    generalize gS x d s=t at *
    by_cases hot:ff t
    ·have hn:ff (lW r d t):=by
      refine Classical.byContradiction fun hc=>?_
      have:=ih.1.1 hc
      unfold ff at hot
      omega
     refine ⟨⟨fun k=>absurd hn k,fun k=>?_⟩,fun k=>absurd hn k⟩
     have:=hx.1.2 (by omega)
     exact absurd hot this
    ·have k1:=hx.2 hot
     have k2:=hx.1.1 hot
     refine ⟨ih.1.trans ⟨fun k=>⟨by omega,by omega,by omega⟩,fun k=>⟨by omega,by omega,by omega⟩⟩,fun k=>?_⟩
     have k3:=ih.2 k
     exact ⟨by omega,by omega⟩
end
theorem uc (s:Int×Int):vz s=true↔ff s:=by simp [vz,ff]
mutual
theorem AD:∀ (x:T) (left d:Int),0≤left→d≤201→((iM x left d).2=true↔x.sz≤left∧d + x.dp - 1≤200)∧((iM x left d).2=true→(iM x left d).1=left - x.sz)
 | .mk k n l,left,d,h0,hd=>by
   simp only [iM,T.sz,T.dp]
   have hp:=pL l
   have hs:=sH l
   by_cases ho:left - 1 < 0∨200 < d
   ·rw [if_pos ho]
    refine ⟨⟨fun k=>(by cases k),fun k=>?_⟩,fun k=>(by cases k)⟩
    omega
   ·rw [if_neg ho]
    have ih:=AE l (left - 1) (d + 1) (by omega) (by omega)
    exact ⟨ih.1.trans ⟨fun k=>⟨by omega,by omega⟩,fun k=>⟨by omega,by omega⟩⟩,fun k=>by have:=ih.2 k;omega⟩
theorem AE:∀ (l:List T) (left d:Int),0≤left→d≤201→((nH l left d).2=true↔yV l≤left∧d + GS l - 1≤200)∧((nH l left d).2=true→(nH l left d).1=left - yV l)
 | [],left,d,h0,hd=>by simp only [nH,yV,GS];exact ⟨⟨fun _=>⟨by omega,by omega⟩,fun _=>trivial⟩,fun _=>by omega⟩
 | x::r,left,d,h0,hd=>by
   simp only [nH,yV,GS]
   have Li:=x.GU
   have hd0:=x.Ck
   have hr0:=sH r
   have he0:=pL r
   have hx:=AD x left d h0 hd
   have hle:=Cj x left d
   cases hb:(iM x left d).2 with
   | false=>
     rw [if_neg (by simp)]
     refine ⟨⟨fun k=>(by cases k),fun k=>?_⟩,fun k=>(by cases k)⟩
     have:=hx.1.2 (by omega)
     rw [hb] at this;cases this
   | true=>
     rw [if_pos rfl]
     have k1:=hx.2 hb
     have k2:=hx.1.1 hb
     have ih:=AE r (iM x left d).1 d ((hle.2 h0).2 hb) hd
     exact ⟨ih.1.trans ⟨fun k=>⟨by omega,by omega⟩,fun k=>⟨by omega,by omega⟩⟩,fun k=>by have:=ih.2 k;omega⟩
end
theorem T.fK (x:T):x.tree=true↔x.sz≤2000∧x.dp≤200∧x.shaped=true:=by
 have h:=(ub x 1 (0,0) (by unfold qB;simp)).1
 unfold T.tree
 rw [Ot,abG,← Bool.not_eq_true,uc]
 constructor
 ·rintro ⟨h1,h2⟩
  have:=h.1 h1
  simp only at this
  exact ⟨by omega,by omega,h2⟩
 ·rintro ⟨h1,h2,h3⟩
  exact ⟨h.2 (by simp only;omega),h3⟩
theorem VF (x:T):((iM x 2000 1).2 && x.shaped)=x.tree:=by
 have h:=(AD x 2000 1 (by omega) (by omega)).1
 rw [abY,Ot,h,T.fK]
 constructor
 ·rintro ⟨⟨h1,h2⟩,h3⟩;exact ⟨h1,by omega,h3⟩
 ·rintro ⟨h1,h2,h3⟩;exact ⟨⟨h1,by omega⟩,h3⟩
theorem ZK (x:T):Pure Tryz.prog 175 [x.av] (.bool x.tree):=by rw [← VF];exact adi x
def ents (vs:List Int):List (AV×AV):=vs.map fun v=>(.int .i64 v,.bool true)
def iW:List Int→AV
 | []=>.ag
 | v::r=>.al 1 (ints (v::r))
theorem g9 (vs:List Int) (n:Int):AV.al 1 (ints (vs++[n]))=iW (vs++[n]):=by
 cases vs <;> rfl
theorem MT (vs:List Int):(iW vs).one=true:=by cases vs <;> rfl
theorem MU (k:Nat) (vs:List Int):(iW vs).bc k=true:=by
 cases vs with
 | nil=>rfl
 | cons v r=>simp only [iW,bW,bf]
theorem oZ (vs:List Int) (n:Int) (o:Nat) (ψ:List AV→Prop):bF 1 8 (iW vs) (.al o [.int .i64 n]) ψ=((vs.length + 1) * 8≤140737488355328∧ψ (ints (vs++[n]))):=by
 cases vs with
 | nil=>simp [iW,nB,ok_int,ints]
 | cons v r=>
   show bF 1 8 (.al 1 (ints (v::r))) _ ψ=_
   rw [nC,ok_int,aw,tY]
   simp
theorem GV (vs:List Int):(iW vs).ab.le (.al 0 (ints vs)):=by
 cases vs with
 | nil=>exact .inr (.inr (.inr (.inl ⟨rfl,0,rfl⟩)))
 | cons v r=>exact le_refl _
end Go.aK
end
section
set_option maxRecDepth 100000
namespace Go.aK
open Go Go.Proofs
mutual
def xT (f:Int→T):T→T
 | .mk k n l=>if k=1 then f n else .mk k n (qC f l)
def qC (f:Int→T):List T→List T
 | []=>[]
 | x::r=>xT f x::qC f r
end
theorem mB (f:Int→T):∀ l,qC f l=l.map (xT f)
 | []=>rfl
 | x::r=>by simp [qC,mB f r]
theorem IA (f:Int→T) (x:T):xT f x=if x.k=1 then f x.n else .mk x.k x.n (qC f x.l):=by cases x;simp only [xT,T.k,T.n,T.l];rfl
def ra:List T→AV
 | []=>.ag
 | v::r=>.al 3 (cJ (v::r))
theorem MV (l:List T) (x:T):cJ l++[x.av]=cJ (l++[x]):=by simp [nE]
theorem pM (vs:List T) (n:T):AV.al 3 (cJ (vs++[n]))=ra (vs++[n]):=by
 cases vs <;> rfl
theorem Es (vs:List T):(ra vs).one=true:=by cases vs <;> rfl
theorem Et (k:Nat) (vs:List T):(ra vs).bc k=true:=by
 cases vs with
 | nil=>rfl
 | cons v r=>simp only [ra,bW,dq]
theorem wC (b:Nat) (vs:List T) (n:T) (o:Nat) (ψ:List AV→Prop):bF 3 b (ra vs) (.al o [n.av]) ψ=((vs.length + 1) * b≤140737488355328∧ψ (cJ (vs++[n]))):=by
 cases vs with
 | nil=>simp [ra,nB,VA,cJ]
 | cons v r=>
   show bF 3 b (.al 3 (cJ (v::r))) _ ψ=_
   rw [nC,VA,sE,MV]
   simp
theorem Kp (vs:List T):(ra vs).drop=.al 0 (cJ vs):=by cases vs <;> rfl
theorem fL {x:T} (h:x.shaped=true):x.l.length≤8∧∀ y∈x.l,y.shaped=true:=by
 rw [x.dU,Ot,abG,ab1] at h
 have h1:=h.1.2
 have h2:=h.2
 rw [oY] at h2
 exact ⟨by simpa using h1,fun y hy=>abF.1 h2 y hy⟩
theorem xU (f:Int→T) {l:List T} {i:Nat} (h:i < l.length):qC f (l.take (i + 1))=qC f (l.take i)++[xT f (l.getD i default)]:=by
 rw [mB,mB,acN,ab3]
 simp [h]
theorem ZL (g:Nat) (cap:List AV) (f:Int→T) (x:T) (cp:cap.map AV.ab=cap) (hb:aj 0 cap=true) (hf:∀ n,Pure Tryz.prog g ([.int .i64 n]++cap) (f n).av) (hs:x.shaped=true) :
 Pure Tryz.prog 176 [x.av,.fn (.func g) [] cap] (xT f x).av:=by
 have ih:∀ y∈x.l,Pure Tryz.prog 176 [y.av,.fn (.func g) [] cap] (xT f y).av:=fun y hy=>ZL g cap f y cp hb hf ((fL hs).2 y hy)
 refine fun H=>Yt.2.calls rfl ?_
 simp only [Yt,aG]
 have hl8:=(fL hs).1
 simp +contextual only [cp,sZ,Nat.reduceEqDiff,Nat.reduceAdd,↓reduceIte,reduceCtorEq]
 refine ⟨fun hk=>ae (hf x.n) ?_,fun hk _=>?_⟩
 ·simp +contextual only [sZ,Nat.reduceEqDiff,Nat.reduceAdd,↓reduceIte,reduceCtorEq]
  exact vv (T.gl _ _) (by rw [IA,if_pos hk])
 ·refine aD x.l.length (fun _=>True) (fun i=>[(1,.fn (.func g) [] cap),(4,.ptr H.length 0),(5,.ptr (H.length + 1) 0),(21,.al 0 (cJ x.l)),(22,.int .i64 x.l.length),(23,.int .i64 i)])
   (fun i=>H++[.cells [.int .i64 0,.int .i64 0,.ag],.cells [.int .i64 x.k,.int .i64 x.n,ra (qC f (x.l.take i))]]) ⟨trivial,aB _ _ _⟩ fun i hi hI=>?_
  simp +contextual only [Kp,sZ,Nat.reduceEqDiff,Nat.reduceAdd,Nat.reduceLT,↓reduceIte,reduceCtorEq]
  refine ⟨fun aS=>⟨bN aS,?_,?_⟩,fun jw=>?_⟩
  ·have aS:=bN aS
   refine ae (ih _ (fa aS)) ?_
   simp +contextual only [wC,pM,Es,Et,sZ,Nat.reduceEqDiff,Nat.reduceAdd,Nat.reduceLT,↓reduceIte]
   refine ⟨by rw [mB];simp;omega,i + 1,aS,by omega,aE (by rw [au i (by omega)]) ?_⟩
   rw [xU f aS]
  ·have aS:=bN aS
   refine ae (ih _ (fa aS)) ?_
   simp +contextual only [wC,pM,Es,Et,sZ,Nat.reduceEqDiff,Nat.reduceAdd,Nat.reduceLT,↓reduceIte]
   refine ⟨by rw [mB];simp;omega,i + 1,aS,by omega,aE (by rw [au i (by omega)]) ?_⟩
   rw [xU f aS]
  ·rw [aaw (dh jw)]
   refine vv (by simp only [tT,bP,ji,bW,dq,c9,aco]) ?_
   rw [IA,if_neg hk];rfl
termination_by SizeOf.sizeOf x
decreasing_by exact T.lt hy
def T0:T:=.mk 0 0 []
end Go.aK
end
section
set_option maxRecDepth 100000
namespace Go.aK
open Go Go.Proofs
end Go.aK
end
section
set_option maxRecDepth 100000
namespace Go.aK
open Go Go.RowKit
mutual
def T.wf:T→Prop
 | .mk k n l=>(-9223372036854775808≤k∧k≤9223372036854775807)∧(-9223372036854775808≤n∧n≤9223372036854775807)∧l.length≤9223372036854775807∧W0 l
def W0:List T→Prop
 | []=>True
 | x::r=>x.wf∧W0 r
end
theorem IB:∀ l:List T,W0 l↔∀ x∈l,x.wf
 | []=>by simp [W0]
 | x::r=>by simp [W0,IB r]
section
variable {H:Type} {enc:TypeId×Value→H} {P:Program} {w:World} {base:Nat} {sp:Nat→Bool} {held:Bool}
structure GW (P:Program) (ti tt tl:TypeId):Prop where
 int:P.underlying ti=some (.int .i64)
 tree:∃ f0 f1 f2:Field,P.underlying tt=some (.struct #[f0,f1,f2])∧f0.type=ti∧f0.offset=0∧f1.type=ti∧f1.offset=1∧f2.type=tl∧f2.offset=2
 list:P.underlying tl=some (.slice tt)
 c1:P.cellsOf ti=1
 c3:P.cellsOf tt=3
 cl:P.cellsOf tl=1
theorem MW {n:Int} (h:(Lit.int .i64 n).wf=true):-9223372036854775808≤n∧n≤9223372036854775807:=by
 simp only [Lit.wf,Ot,decide_eq_true_eq] at h
 revert h
 simp [IntKind.has,IntKind.min,IntKind.max,IntKind.signed,IntKind.bits]
theorem GX {n:Nat} {p:Nat→T→Prop} (h:∀ i,i < n→∃ t,p i t):∃ f:Nat→T,∀ i,i < n→p i (f i):=by
 refine ⟨fun i=>if hi:i < n then Classical.choose (h i hi) else default,fun i hi=>?_⟩
 simp only [dif_pos hi]
 exact Classical.choose_spec (h i hi)
def isT (w:World) (cs:List Value) (t:T):Prop:=aP (eh w) [] cs t.av.cells∧t.wf
def VG (w:World) (cs:List Value) (l:List T):Prop:=(∃ v,cs=[v]∧(∃ y,aW (eh w) [] v y∧(y=.al 0 (cJ l)∨(y=.ag∧l=[]))))∧l.length≤9223372036854775807∧W0 l
theorem VG.rep {cs:List Value} {l:List T} (h:VG w cs l):∃ v,cs=[v]∧aW (eh w) [] v (.al 0 (cJ l)):=by
 obtain ⟨⟨v,rfl,y,hr,hy⟩,_⟩:=h
 refine ⟨v,rfl,?_⟩
 rcases hy with rfl | ⟨rfl,rfl⟩
 ·exact hr
 ·exact hr.drop
def SQ (d:DataW H) (l:List T):Prop:=match d with | .slice es _=>l.length=es.length | _=>l=[]
theorem Kq {ti tt tl:TypeId} (hT:GW P ti tt tl):∀ (fuel:Nat),
 (∀ (cs:List Value) (x:DataW H×List MemPlace),DataW.trod enc P w base sp held fuel tt cs=some x→∃ t:T,isT w cs t)∧
 (∀ (cs:List Value) (x:DataW H×List MemPlace),DataW.trod enc P w base sp held fuel tl cs=some x→∃ l:List T,VG w cs l∧SQ x.1 l):=by
 intro fuel
 induction fuel with
 | zero=>exact ⟨fun cs x h=>by simp [DataW.trod] at h,fun cs x h=>by simp [DataW.trod] at h⟩
 | succ n ih=>
   refine ⟨fun cs x h=>?_,fun cs x h=>?_⟩
   ·obtain ⟨f0,f1,f2,hu,h0,o0,h1,o1,h2,o2⟩:=hT.tree
    obtain ⟨xs,m,hm,rfl,hlen,fx,hf⟩:=DataW.trod_struct hu h
    cases hm
    have g0:=hf 0 f0 rfl
    have g1:=hf 1 f1 rfl
    have g2:=hf 2 f2 rfl
    rw [h0,o0,hT.c1] at g0
    rw [h1,o1,hT.c1] at g1
    rw [h2,o2,hT.cl] at g2
    simp at fx
    rw [hT.c3] at hlen
    match cs,hlen with
    | [a,b,c],_=>
      have e0:xs[0]?=some xs[0]:=by simp [fx]
      have e1:xs[1]?=some xs[1]:=by simp [fx]
      have e2:xs[2]?=some xs[2]:=by simp [fx]
      rw [e0] at g0;rw [e1] at g1;rw [e2] at g2
      obtain ⟨k,ek,_,wk⟩:=DataW.trod_int hT.int g0
      obtain ⟨q,eq,_,wq⟩:=DataW.trod_int hT.int g1
      obtain ⟨l,hl,_⟩:=ih.2 _ _ g2
      obtain ⟨v,ev,hv⟩:=hl.rep
      simp at ek eq ev
      subst ek eq ev
      exact ⟨.mk k q l,.cons _ _ _ _ (.int _ _) (.cons _ _ _ _ (.int _ _) (.cons _ _ _ _ hv .nil)),MW wk,MW wq,hl.2.1,hl.2.2⟩
   ·rcases DataW.trod_slice hT.list h with ⟨rfl,rfl⟩ | ⟨a,len,cap,elems,rest,m,hm,rfl,rfl,hb,hle,cp,R5,jv,_,_⟩
    ·exact ⟨[],⟨⟨_,rfl,.ag,.ag,.inr ⟨rfl,rfl⟩⟩,by simp,trivial⟩,rfl⟩
    cases hm
    rw [hT.c3] at jv
    have hex:∀ i,i < len→∃ t:T,∃ cs',w.cells? base (a.add (i * 3)) 3=some cs'∧isT w cs' t:=by
     intro i hi
     have:=jv i hi
     rw [Oq (by omega)] at this
     obtain ⟨cs',k1,k2⟩:=afh.1 this
     obtain ⟨t,ht⟩:=ih.1 _ _ k2
     exact ⟨t,cs',k1,ht⟩
    obtain ⟨f,hf⟩:=GX hex
    have WM:maxLen=9223372036854775807:=rfl
    refine ⟨(List.range len).map f,⟨⟨_,rfl,_,?_,.inl rfl⟩,by simp;omega,?_⟩,by simp [SQ,R5]⟩
    ·rw [nE,acs]
     refine tW (e:=3) (base:=base) (by decide) hle cp (fun i=>if hi:i < len then Classical.choose (hf i hi) else []) _ fun i hi=>?_
     simp only [dif_pos hi]
     obtain ⟨k1,k2⟩:=Classical.choose_spec (hf i hi)
     exact ⟨k1,k2.1⟩
    ·rw [IB]
     intro x hx
     obtain ⟨i,hi,rfl⟩:=aal.1 hx
     obtain ⟨cs',_,k2⟩:=hf i (abK.1 hi)
     exact k2.2
theorem MX {ti tt tl:TypeId} (hT:GW P ti tt tl) {r:Reach} {b0:Nat} {v:Value} {d:DataW H} {ps:List MemPlace} (kC:Value.okWide P w r b0 tt v) (hd:DataW.Trod enc P w base sp held tt v d ps) :
 ∃ t:T,aW (eh w) [] v t.av∧t.wf:=by
 obtain ⟨f0,f1,f2,hu,_⟩:=hT.tree
 obtain ⟨cs,rfl,_⟩:=WideShapes.okWide_struct hu kC
 obtain ⟨fuel,hf⟩:=hd
 obtain ⟨t,h1,h2⟩:=(Kq hT fuel).1 _ _ hf
 refine ⟨t,?_,h2⟩
 have:aW (eh w) [] (.agg cs.toList.toArray) (.agg t.av.cells):=.agg _ _ h1
 rw [t.pK] at this
 simpa using this
end
end Go.aK
end
section
end
section
set_option maxRecDepth 100000
namespace Go.aK
open Go Go.Proofs
theorem GY {k n:Int} {l:List T} (h:(T.mk k n l).shaped=true) (hk:k=1):l=[]:=by
 rw [T.dU] at h
 simp only [T.k,T.n,T.l,Ot,abG,ab1,aef] at h
 cases l with
 | nil=>rfl
 | cons x r=>
   rcases h.1.1.1.2 with h2 | h2
   ·simp [hk] at h2
   ·simp at h2
theorem GZ {k n:Int} {l:List T} (h:(T.mk k n l).shaped=true):ew l=true:=by
 rw [T.dU,Ot] at h
 exact h.2
def ren (g:Int→Int) (t:T):T:=xT (fun n=>.mk 1 (g n) []) t
mutual
theorem MY:∀ (x:T),x.shaped=true→ren (fun n=>n) x=x
 | .mk k n l,h=>by
   simp only [ren,xT]
   by_cases hk:k=1
   ·rw [if_pos hk,GY h hk,hk]
   ·rw [if_neg hk,IC l (GZ h)]
theorem IC:∀ (l:List T),ew l=true→qC (fun n=>.mk 1 n []) l=l
 | [],_=>rfl
 | x::r,h=>by
   simp only [ew,Ot] at h
   simp only [qC]
   have h1:=MY x h.1
   unfold ren at h1
   rw [h1,IC r h.2]
end
end Go.aK
end
section
set_option maxRecDepth 100000
namespace Go.aK
open Go Go.Proofs
def AF (t:T):Int×Int:=if t.sz≤2000∧t.dp≤200 then (t.sz,t.dp) else (2001,201)
theorem adk (t:T):(¬ ff (gS t 1 (0,0))↔t.sz≤2000∧t.dp≤200)∧(¬ ff (gS t 1 (0,0))→gS t 1 (0,0)=(t.sz,t.dp)):=by
 have h:=ub t 1 (0,0) (by unfold qB;simp)
 have hd:=t.Ck
 refine ⟨h.1.trans ⟨fun k=>⟨by omega,by omega⟩,fun k=>⟨by simp only;omega,by omega⟩⟩,fun k=>?_⟩
 have:=h.2 k
 exact Prod.ext (by simpa using this.1) (by have:=this.2;simp only at this ⊢;omega)
theorem aiw (t:T):Pure Tryz.prog 122 [t.av] (.tuple [.int .i64 (AF t).1,.int .i64 (AF t).2]):=by
 refine fun H=>XW.2.calls rfl ?_
 simp only [XW,aG]
 simp +contextual only [sZ,Nat.reduceEqDiff,Nat.reduceAdd,↓reduceIte,reduceCtorEq]
 refine af (VE H t 1 (0,0) (by unfold qB;simp)) ?_
 rintro r H' ⟨rfl,rfl⟩
 simp +contextual only [sZ,Nat.reduceEqDiff,Nat.reduceAdd,↓reduceIte]
 refine af (ZE H (gS t 1 (0,0))) ?_
 rintro r H' ⟨rfl,rfl⟩
 have h0:=adk t
 cases hb:vz (gS t 1 (0,0)) with
 | true=>
   have hn:¬ (t.sz≤2000∧t.dp≤200):=fun h=>h0.1.2 h ((uc _).1 hb)
   simp +contextual only [fh,sZ,Nat.reduceEqDiff,↓reduceIte,reduceCtorEq]
   exact Au (by decide) rfl rfl (by rw [AF,if_neg hn];rfl) (by rw [AF,if_neg hn];rfl)
 | false=>
   have hn:¬ ff (gS t 1 (0,0)):=fun h=>by rw [(uc _).2 h] at hb;cases hb
   have h1:=h0.1.1 hn
   rw [h0.2 hn]
   simp +contextual only [fh,sZ,Nat.reduceEqDiff,Nat.reduceAdd,Nat.reduceLT,↓reduceIte,reduceCtorEq]
   exact Au (by decide) rfl rfl (by rw [AF,if_pos h1];rfl) (by rw [AF,if_pos h1];rfl)
theorem adl (a b:List Int) (o o':Nat):Pure Tryz.prog 198 [.al o (ints a),.al o' (ints b)] (.bool (decide (a=b))):=by
 refine fun H=>YI.2.calls rfl ?_
 simp only [YI,aG]
 simp +contextual only [sZ,Nat.reduceEqDiff,Nat.reduceAdd,↓reduceIte,reduceCtorEq]
 refine fun _ _=>⟨fun dJ=>a8 rfl ?_,fun hl=>?_⟩
 ·rw [decide_eq_false]
  intro h;subst h;exact dJ rfl
 have hl:a.length=b.length:=by omega
 refine aD a.length (fun i=>decide (a.drop i=b.drop i)=decide (a=b)) (fun i=>[(0,.al o (ints a)),(1,.al o' (ints b)),(5,.int .i64 i)]) (fun i=>H) ⟨rfl,aB _ _ _⟩ fun i hi hI=>?_
 simp +contextual only [sZ,Nat.reduceEqDiff,↓reduceIte,reduceCtorEq]
 intro _
 refine ⟨fun aS=>⟨bN aS,?_⟩,fun jw=>?_⟩
 ·have aS:=bN aS
  have VH:i < b.length:=by omega
  rw [abr aS,abr VH] at hI
  have e1:a.getD i 0=a[i]:=by simp [aS]
  have e2:b.getD i 0=b[i]:=by simp [VH]
  rw [e1,e2]
  refine ⟨VH,fun dJ=>a8 rfl ?_,fun he=>⟨i + 1,⟨aS,?_⟩,by omega,aE (by rw [au i (by omega)]) rfl⟩⟩
  ·rw [← hI,decide_eq_false]
   intro h;exact dJ (List.cons.inj h).1
  ·rw [← hI,he]
   exact decide_eq_decide.2 (by rw [List.cons.injEq];simp only [true_and])
 ·have jw:=dh jw
  rw [abu jw,abu (by omega)] at hI
  exact a8 rfl (by rw [← hI];rfl)
theorem VI (l:List T):rE 3 (cJ l)=True:=by
 simp only [rE,eq_iff_iff,iff_true]
 intro y hy
 rw [nE] at hy
 obtain ⟨z,_,rfl⟩:=aal.1 hy
 exact ⟨z.iL,z.qZ⟩
end Go.aK
end
section
set_option maxRecDepth 100000
namespace Go.aK
open Go Go.Proofs
theorem adm (n:Int):Pure Tryz.prog 177 [.int .i64 n] (T.mk 1 n []).av:=by
 refine fun H=>Yu.2.calls rfl ?_
 simp only [Yu,aG]
 simp +contextual only [sZ,Nat.reduceEqDiff,Nat.reduceAdd,↓reduceIte,reduceCtorEq]
 exact vv (T.gl _ (.mk 1 n [])) rfl
theorem adn (t:T) (h:t.shaped=true):Pure Tryz.prog 120 [t.av] t.av:=by
 refine fun H=>XU.2.calls rfl ?_
 simp only [XU,aG]
 simp +contextual only [sZ,Nat.reduceEqDiff,Nat.reduceAdd,↓reduceIte]
 refine ae (ZL 177 [] (fun n=>.mk 1 n []) t rfl rfl (fun n=>adm n) h) ?_
 have e:xT (fun n=>.mk 1 n []) t=t:=MY t h
 rw [e]
 simp +contextual only [sZ,Nat.reduceEqDiff,Nat.reduceAdd,↓reduceIte,reduceCtorEq]
 exact vv (T.gl _ t) rfl
def sub (l:List T) (t:T):T:=xT (fun n=>l.getD n.toNat default) t
end Go.aK
end
section
namespace Go.eI
open Go.aK
mutual
def code:T→List Int
 | .mk k n l=>k::n::(l.length:Int)::AG l
def AG:List T→List Int
 | []=>[]
 | x::r=>code x++AG r
end
mutual
theorem Eu:∀ (a b:T) (r s:List Int),code a++r=code b++s→a=b∧r=s
 | .mk k n l,.mk k' n' l',r,s,h=>by
   simp only [code,List.cons_append,List.cons.injEq] at h
   obtain ⟨h1,h2,h3,h4⟩:=h
   obtain ⟨h5,h6⟩:=AH l l' r s (by omega) h4
   exact ⟨by rw [h1,h2,h5],h6⟩
theorem AH:∀ (l m:List T) (r s:List Int),l.length=m.length→AG l++r=AG m++s→l=m∧r=s
 | [],[],r,s,_,h=>⟨rfl,by simpa [AG] using h⟩
 | x::l,y::m,r,s,hl,h=>by
   simp only [AG,abb] at h
   obtain ⟨h1,h2⟩:=Eu x y _ _ h
   obtain ⟨h3,h4⟩:=AH l m r s (by simpa using hl) h2
   exact ⟨by rw [h1,h3],h4⟩
 | [],_::_,_,_,h,_=>by simp at h
 | _::_,[],_,_,h,_=>by simp at h
end
theorem ID {a b:T} (h:code a=code b):a=b:=(Eu a b [] [] (by rw [h])).1
instance:DecidableEq T:=fun a b=>decidable_of_iff (code a=code b) ⟨ID,fun h=>by rw [h]⟩
def Cl (a b:T):Prop:=code a≤code b
instance (a b:T):Decidable (Cl a b):=inferInstanceAs (Decidable (code a≤code b))
theorem Ev {a b:T} (h1:Cl a b) (h2:Cl b a):a=b:=ID (List.le_antisymm h1 h2)
theorem AI (a b:T):Cl a b∨Cl b a:=List.le_total _ _
theorem AJ {a b c:T} (h1:Cl a b) (h2:Cl b c):Cl a c:=List.le_trans h1 h2
def ins (x:T):List T→List T
 | []=>[x]
 | y::r=>if Cl x y then x::y::r else y::ins x r
def yW:List T→List T
 | []=>[]
 | x::r=>ins x (yW r)
theorem Ew (x:T):∀ l,(ins x l).Perm (x::l)
 | []=>List.Perm.refl _
 | y::r=>by
   simp only [ins]
   split
   ·exact List.Perm.refl _
   ·exact ((Ew x r).cons y).trans (List.Perm.swap _ _ _)
theorem mC:∀ l,(yW l).Perm l
 | []=>List.Perm.refl _
 | x::r=>(Ew x _).trans ((mC r).cons x)
theorem Ey (x y:T):∀ l,ins x (ins y l)=ins y (ins x l)
 | []=>by
   simp only [ins]
   by_cases h1:Cl x y <;> by_cases h2:Cl y x <;> simp only [h1,h2,if_true,if_false,ins]
   ·rw [Ev h1 h2]
   ·rcases AI x y with h | h
    ·exact absurd h h1
    ·exact absurd h h2
 | z::r=>by
   simp only [ins]
   by_cases hx:Cl x z <;> by_cases hy:Cl y z <;> simp only [hx,hy,if_true,if_false,ins]
   ·by_cases h1:Cl x y <;> by_cases h2:Cl y x <;> simp only [h1,h2,hx,hy,if_true,if_false,ins]
    ·rw [Ev h1 h2]
    ·rcases AI x y with h | h
     ·exact absurd h h1
     ·exact absurd h h2
   ·have h2:¬ Cl y x:=fun h=>hy (AJ h hx)
    simp only [h2,hy,if_false,ins]
   ·have h2:¬ Cl x y:=fun h=>hx (AJ h hy)
    simp only [h2,hx,if_false,ins]
   ·rw [Ey x y r]
theorem VJ {l m:List T} (h:l.Perm m):yW l=yW m:=by
 induction h with
 | nil=>rfl
 | cons x _ ih=>simp only [yW,ih]
 | swap x y l=>simp only [yW];exact Ey _ _ _
 | trans _ _ h1 h2=>rw [h1,h2]
theorem IE {l m:List T}:yW l=yW m↔l.Perm m:=⟨fun h=>(mC l).symm.trans (h ▸ mC m),VJ⟩
theorem Q0 {x:T} {l:List T}:x∈yW l↔x∈l:=(mC l).mem_iff
mutual
def wt:T→Nat
 | .mk _ _ l=>1 + fM l
def fM:List T→Nat
 | []=>0
 | x::r=>wt x + fM r
end
theorem IF {x:T}:∀ {l:List T},x∈l→wt x≤fM l
 | y::r,h=>by
   simp only [fM]
   rcases aai.1 h with rfl | h
   ·omega
   ·have:=IF h;omega
theorem dH (a:T):0 < wt a:=by cases a;simp only [wt];omega
theorem cR {a x:T} (h:x∈a.l):wt x < wt a:=by
 cases a with
 | mk k n l=>have:=IF (l:=l) h;simp only [wt];omega
structure Od where
 pl:Int→Int
 sp:Int→Int
mutual
def norm (O:Od):T→T
 | .mk k n l=>if k=2 then .mk 2 (O.pl n) (if O.sp (O.pl n)=3 then yW (Ez O l) else Ez O l) else .mk 1 n []
def Ez (O:Od):List T→List T
 | []=>[]
 | x::r=>norm O x::Ez O r
end
theorem AK (O:Od):∀ l,Ez O l=l.map (norm O)
 | []=>rfl
 | x::r=>by simp [Ez,AK O r]
def Lx (G:T→T→Prop):List T→List T→Prop
 | [],_=>False
 | _::_,[]=>True
 | x::l,y::m=>x=y∧Lx G l m∨G x y
def side (s:Int) (l:List T):List T:=if s=2 then l.reverse else l
def Mu (G:T→T→Prop) (l m:List T):Prop:=
 (∃ x∈l,m.count x < l.count x)∧∀ y∈m,l.count y < m.count y→∃ x∈l,m.count x < l.count x∧G x y
def Fm (sp:Int→Int) (G:T→T→Prop) (a b:T):Prop:=
 a.k=2∧((∃ x∈a.l,x=b∨G x b)∨b.k=2∧(
  (b.n < a.n∧∀ y∈b.l,G a y)∨
  (b.n=a.n∧sp a.n≠3∧(∀ y∈b.l,G a y)∧Lx G (side (sp a.n) a.l) (side (sp a.n) b.l))∨
  (b.n=a.n∧sp a.n=3∧Mu G a.l b.l)))
theorem jC {s:Int} {l:List T} {x:T}:x∈side s l↔x∈l:=by unfold side;split <;> simp
theorem EA {G G':T→T→Prop}:∀ {l m:List T},(∀ x∈l,∀ y∈m,(G x y↔G' x y))→(Lx G l m↔Lx G' l m)
 | [],_,_=>Iff.rfl
 | _::_,[],_=>Iff.rfl
 | x::l,y::m,h=>by
   simp only [Lx]
   rw [EA (fun x hx y hy=>h x (aaF _ hx) y (aaF _ hy)),h x aaW y aaW]
theorem EB {sp:Int→Int} {G G':T→T→Prop} {a b:T} (h1:∀ x∈a.l,(G x b↔G' x b)) (h2:∀ y∈b.l,(G a y↔G' a y)) (h3:∀ x∈a.l,∀ y∈b.l,(G x y↔G' x y)) :
 Fm sp G a b↔Fm sp G' a b:=by
 have e1:(∃ x∈a.l,x=b∨G x b)↔(∃ x∈a.l,x=b∨G' x b):=⟨fun ⟨x,hx,h⟩=>⟨x,hx,by rwa [← h1 x hx]⟩,fun ⟨x,hx,h⟩=>⟨x,hx,by rwa [h1 x hx]⟩⟩
 have e2:(∀ y∈b.l,G a y)↔(∀ y∈b.l,G' a y):=⟨fun h y hy=>(h2 y hy).1 (h y hy),fun h y hy=>(h2 y hy).2 (h y hy)⟩
 have e3:Lx G (side (sp a.n) a.l) (side (sp a.n) b.l)↔Lx G' (side (sp a.n) a.l) (side (sp a.n) b.l):=EA fun x hx y hy=>h3 x (jC.1 hx) y (jC.1 hy)
 have e4:Mu G a.l b.l↔Mu G' a.l b.l:=by
  unfold Mu
  refine and_congr Iff.rfl ⟨fun h y hy hc=>?_,fun h y hy hc=>?_⟩ <;> obtain ⟨x,hx,Jz,hg⟩:=h y hy hc
  ·exact ⟨x,hx,Jz,(h3 x hx y hy).1 hg⟩
  ·exact ⟨x,hx,Jz,(h3 x hx y hy).2 hg⟩
 unfold Fm
 rw [e1,e2,e3,e4]
def OJ (sp:Int→Int):Nat→T→T→Prop
 | 0=>fun _ _=>False
 | f + 1=>Fm sp (OJ sp f)
def Gt (sp:Int→Int) (a b:T):Prop:=OJ sp (wt a + wt b) a b
theorem gT (sp:Int→Int):∀ (f g:Nat) (a b:T),wt a + wt b≤f→wt a + wt b≤g→(OJ sp f a b↔OJ sp g a b)
 | 0,_,a,b,h,_=>by have:=dH a;omega
 | _ + 1,0,a,b,_,h=>by have:=dH a;omega
 | f + 1,g + 1,a,b,h1,h2=>by
   simp only [OJ]
   refine EB (fun x hx=>?_) (fun y hy=>?_) (fun x hx y hy=>?_)
   ·have:=cR hx;exact gT sp f g x b (by omega) (by omega)
   ·have:=cR hy;exact gT sp f g a y (by omega) (by omega)
   ·have:=cR hx;have:=cR hy;exact gT sp f g x y (by omega) (by omega)
theorem xV {sp:Int→Int} {a b:T}:Gt sp a b↔Fm sp (Gt sp) a b:=by
 have e:OJ sp (wt a + wt b) a b↔OJ sp (wt a + wt b + 1) a b:=gT sp _ _ a b (by omega) (by omega)
 unfold Gt
 rw [e]
 show Fm sp (OJ sp (wt a + wt b)) a b↔_
 refine EB (fun x hx=>?_) (fun y hy=>?_) (fun x hx y hy=>?_)
 ·have:=cR hx;exact gT sp _ _ x b (by omega) (by omega)
 ·have:=cR hy;exact gT sp _ _ a y (by omega) (by omega)
 ·have:=cR hx;have:=cR hy;exact gT sp _ _ x y (by omega) (by omega)
section
variable {sp:Int→Int}
theorem AL {a b:T} (h:Gt sp a b):a.k=2:=(xV.1 h).1
theorem rb {a b x:T} (ha:a.k=2) (hx:x∈a.l) (h:x=b∨Gt sp x b):Gt sp a b:=xV.2 ⟨ha,.inl ⟨x,hx,h⟩⟩
theorem nV {l m:List T} {x:T} (h:m.count x < l.count x):x∈l:=abN.1 (by omega)
theorem sI {a b:T} (h:Gt sp a b):(∃ x∈a.l,x=b∨Gt sp x b)∨b.k=2∧(∀ y∈b.l,Gt sp a y)∧(
 b.n < a.n∨(b.n=a.n∧sp a.n≠3∧Lx (Gt sp) (side (sp a.n) a.l) (side (sp a.n) b.l))∨(b.n=a.n∧sp a.n=3∧Mu (Gt sp) a.l b.l)):=by
 obtain ⟨ha,h | ⟨hb,h | h | h⟩⟩:=xV.1 h
 ·exact .inl h
 ·exact .inr ⟨hb,h.2,.inl h.1⟩
 ·exact .inr ⟨hb,h.2.2.1,.inr (.inl ⟨h.1,h.2.1,h.2.2.2⟩)⟩
 ·refine .inr ⟨hb,fun y hy=>?_,.inr (.inr h)⟩
  obtain ⟨_,_,_,h2⟩:=h
  by_cases hc:a.l.count y < b.l.count y
  ·obtain ⟨x,hx,_,hg⟩:=h2 y hy hc
   exact rb ha hx (.inr hg)
  ·have:0 < b.l.count y:=abN.2 hy
   exact rb ha (abN.1 (by omega)) (.inl rfl)
theorem ZM {a b:T} (ha:a.k=2) (hb:b.k=2) (h1:∀ y∈b.l,Gt sp a y) (h2:b.n < a.n∨(b.n=a.n∧sp a.n≠3∧Lx (Gt sp) (side (sp a.n) a.l) (side (sp a.n) b.l))∨(b.n=a.n∧sp a.n=3∧Mu (Gt sp) a.l b.l)):Gt sp a b:=by
 refine xV.2 ⟨ha,.inr ⟨hb,?_⟩⟩
 rcases h2 with h | h | h
 ·exact .inl ⟨h,h1⟩
 ·exact .inr (.inl ⟨h.1,h.2.1,h1,h.2.2⟩)
 ·exact .inr (.inr h)
theorem Q3:∀ {a b y:T},Gt sp a b→b.k=2→y∈b.l→Gt sp a y:=by
 intro a
 induction h:wt a using Nat.strongRecOn generalizing a with
 | _ n ih=>
   intro b y vA hb hy
   rcases sI vA with ⟨x,hx,rfl | hg⟩ | ⟨_,h1,_⟩
   ·exact rb (AL vA) hx (.inr (rb hb hy (.inl rfl)))
   ·exact rb (AL vA) hx (.inr (ih _ (by have:=cR hx;omega) rfl hg hb hy))
   ·exact h1 y hy
theorem MZ {G:T→T→Prop}:∀ {l:List T},Lx G l l→∃ x∈l,G x x
 | x::l,h=>by
   rcases h with ⟨_,h⟩ | h
   ·obtain ⟨y,hy,hg⟩:=MZ h;exact ⟨y,aaF _ hy,hg⟩
   ·exact ⟨x,aaW,h⟩
theorem xW:∀ a:T,¬ Gt sp a a:=by
 intro a
 induction h:wt a using Nat.strongRecOn generalizing a with
 | _ n ih=>
   intro hg
   rcases sI hg with ⟨x,hx,rfl | Q4⟩ | ⟨_,_,h1 | ⟨_,_,h1⟩ | ⟨_,_,h1⟩⟩
   ·have:=cR hx;omega
   ·exact ih (wt x) (by have:=cR hx;omega) x rfl (Q3 Q4 (AL hg) hx)
   ·omega
   ·obtain ⟨x,hx,Q4⟩:=MZ h1
    have hx:=jC.1 hx
    exact ih (wt x) (by have:=cR hx;omega) x rfl Q4
   ·obtain ⟨⟨x,_,hx⟩,_⟩:=h1;omega
theorem M4 {G:T→T→Prop} {S:List T} (irr:∀ x∈S,¬ G x x) (tr:∀ x∈S,∀ y∈S,∀ z∈S,G x y→G y z→G x z) (P:T→Prop)
 (step:∀ z∈S,(∀ x∈S,G x z→P x)→P z):∀ z∈S,P z:=by
 classical
 intro z
 induction h:S.countP (fun w=>decide (G w z)) using Nat.strongRecOn generalizing z with
 | _ n ih=>
   intro hz
   refine step z hz fun x hx hg=>ih (S.countP fun w=>decide (G w x)) ?_ x rfl hx
   subst h
   have key:∀ (l:List T),(∀ w∈l,w∈S)→l.countP (fun w=>decide (G w x))≤l.countP (fun w=>decide (G w z))∧(x∈l→l.countP (fun w=>decide (G w x)) < l.countP (fun w=>decide (G w z))):=by
    intro l
    induction l with
    | nil=>intro _;exact ⟨rC _,fun h=>by cases h⟩
    | cons w l ihl=>
      intro hl
      obtain ⟨i1,i2⟩:=ihl fun w hw=>hl w (aaF _ hw)
      have hw:=hl w aaW
      by_cases h1:G w x
      ·have h2:G w z:=tr w hw x hx z hz h1 hg
       have dJ:x≠w:=fun e=>irr x hx (by rw [← e] at h1;exact h1)
       simp only [aem,h1,h2,decide_true,if_true]
       refine ⟨by omega,fun hm=>?_⟩
       rcases aai.1 hm with e | hm
       ·exact absurd e dJ
       ·have:=i2 hm;omega
      ·by_cases h2:G w z
       ·simp only [aem,h1,h2,decide_true,decide_false,if_true]
        refine ⟨by simp;omega,fun _=>by simp;omega⟩
       ·have dJ:x≠w:=fun e=>h2 (e ▸ hg)
        simp only [aem,h1,h2,decide_false]
        refine ⟨by simpa using i1,fun hm=>?_⟩
        rcases aai.1 hm with e | hm
        ·exact absurd e dJ
        ·simpa using i2 hm
   exact (key S fun _ h=>h).2 hx
theorem M5 {G:T→T→Prop} {l m k:List T} (irr:∀ x∈l++m++k,¬ G x x) (tr:∀ x∈l++m++k,∀ y∈l++m++k,∀ z∈l++m++k,G x y→G y z→G x z)
 (h1:Mu G l m) (h2:Mu G m k):Mu G l k:=by
 have il:∀ {x},x∈l→x∈l++m++k:=fun h=>by simp [h]
 have im:∀ {x},x∈m→x∈l++m++k:=fun h=>by simp [h]
 have ik:∀ {x},x∈k→x∈l++m++k:=fun h=>by simp [h]
 have up:∀ z∈l++m++k,(l.count z < m.count z∨m.count z < k.count z)→∃ x∈l,k.count x < l.count x∧G x z:=by
  refine M4 irr tr _ fun z hz ih hc=>?_
  rcases hc with hc | hc
  ·obtain ⟨x1,uU,Ou,KQ⟩:=h1.2 z (nV hc) hc
   by_cases hk:k.count x1 < l.count x1
   ·exact ⟨x1,uU,hk,KQ⟩
   ·obtain ⟨x,hx,mW,hg⟩:=ih x1 (il uU) KQ (.inr (by omega))
    exact ⟨x,hx,mW,tr x (il hx) x1 (il uU) z hz hg KQ⟩
  ·obtain ⟨x1,uU,Ou,KQ⟩:=h2.2 z (nV hc) hc
   by_cases hk:l.count x1 < m.count x1
   ·obtain ⟨x,hx,mW,hg⟩:=ih x1 (im uU) KQ (.inl hk)
    exact ⟨x,hx,mW,tr x (il hx) x1 (im uU) z hz hg KQ⟩
   ·exact ⟨x1,abN.1 (by omega),by omega,KQ⟩
 constructor
 ·obtain ⟨x0,Li,OU⟩:=h1.1
  by_cases hk:k.count x0 < l.count x0
  ·exact ⟨x0,Li,hk⟩
  ·obtain ⟨x,hx,hc,_⟩:=up x0 (il Li) (.inr (by omega))
   exact ⟨x,hx,hc⟩
 ·intro y hy hc
  refine up y (ik hy) ?_
  by_cases h:l.count y < m.count y
  ·exact .inl h
  ·exact .inr (by omega)
theorem EC {G:T→T→Prop}:∀ {l m k:List T},(∀ x∈l,∀ y∈m,∀ z∈k,G x y→G y z→G x z)→Lx G l m→Lx G m k→Lx G l k
 | [],_,_,_,h,_=>h.elim
 | _::_,[],_,_,_,h=>h.elim
 | _::_,_::_,[],_,_,_=>trivial
 | x::l,y::m,z::k,tr,h1,h2=>by
   have ih:=@EC G l m k fun x hx y hy z hz=>tr x (aaF _ hx) y (aaF _ hy) z (aaF _ hz)
   rcases h1 with ⟨rfl,h1⟩ | h1 <;> rcases h2 with ⟨rfl,h2⟩ | h2
   ·exact .inl ⟨rfl,ih h1 h2⟩
   ·exact .inr h2
   ·exact .inr h1
   ·exact .inr (tr x aaW y aaW z aaW h1 h2)
theorem Cm:∀ (N:Nat) {a b c:T},wt a≤N→wt b≤N→wt c≤N→Gt sp a b→Gt sp b c→Gt sp a c:=by
 intro N
 induction N with
 | zero=>intro a b c h;have:=dH a;omega
 | succ N ihN=>
 intro a b c
 induction h:wt a + wt b + wt c using Nat.strongRecOn generalizing a b c with
 | _ n ih=>
   intro la lb lc vA SR
   rcases sI vA with ⟨x,hx,rfl | hg⟩ | ⟨hb,h1,h2⟩
   ·exact rb (AL vA) hx (.inr SR)
   ·have:=cR hx
    exact rb (AL vA) hx (.inr (ih (wt x + wt b + wt c) (by omega) rfl (by omega) lb lc hg SR))
   rcases sI SR with ⟨y,hy,rfl | hg⟩ | ⟨hc,h3,h4⟩
   ·exact h1 y hy
   ·have:=cR hy
    exact ih (wt a + wt y + wt c) (by omega) rfl la (by omega) lc (h1 y hy) hg
   have h5:∀ z∈c.l,Gt sp a z:=fun z hz=>by
    have:=cR hz
    exact ih (wt a + wt b + wt z) (by omega) rfl la lb (by omega) vA (h3 z hz)
   refine ZM (AL vA) hc h5 ?_
   rcases h2 with h2 | ⟨e2,s2,h2⟩ | ⟨e2,s2,h2⟩ <;> rcases h4 with h4 | ⟨e4,s4,h4⟩ | ⟨e4,s4,h4⟩
   ·exact .inl (by omega)
   ·exact .inl (by omega)
   ·exact .inl (by omega)
   ·exact .inl (by omega)
   ·refine .inr (.inl ⟨by omega,s2,?_⟩)
    rw [e2] at h4
    refine EC (fun x hx y hy z hz=>?_) h2 h4
    have:=cR (jC.1 hx);have:=cR (jC.1 hy);have:=cR (jC.1 hz)
    exact ihN (by omega) (by omega) (by omega)
   ·rw [e2] at s4;exact absurd s4 s2
   ·exact .inl (by omega)
   ·rw [e2] at s4;exact absurd s2 s4
   ·refine .inr (.inr ⟨by omega,s2,?_⟩)
    have small:∀ x∈a.l++b.l++c.l,wt x≤N:=by
     intro x hx
     simp only [abJ] at hx
     rcases hx with (hx | hx) | hx <;> have:=cR hx <;> omega
    exact M5 (fun x _=>xW x) (fun x hx y hy z hz=>ihN (small x hx) (small y hy) (small z hz)) h2 h4
theorem gt_trans {a b c:T}:Gt sp a b→Gt sp b c→Gt sp a c:=Cm (wt a + wt b + wt c) (by omega) (by omega) (by omega)
theorem ZN {l m X Y C:List T} (hl:l.Perm (X++C)) (hm:m.Perm (Y++C)) (h0:X≠[]) (h1:∀ y∈Y,∃ x∈X,Gt sp x y):Mu (Gt sp) l m:=by
 have cl:∀ z,l.count z=X.count z + C.count z:=fun z=>by rw [hl.count_eq,adY]
 have cm:∀ z,m.count z=Y.count z + C.count z:=fun z=>by rw [hm.count_eq,adY]
 have up:∀ z∈X++Y,z∈Y→∃ x∈X,Y.count x < X.count x∧Gt sp x z:=by
  refine M4 (G:=Gt sp) (fun x _=>xW x) (fun x _ y _ z _=>gt_trans) _ fun z hz ih hy=>?_
  obtain ⟨x1,uU,KQ⟩:=h1 z hy
  by_cases hc:Y.count x1 < X.count x1
  ·exact ⟨x1,uU,hc,KQ⟩
  ·have:0 < X.count x1:=abN.2 uU
   obtain ⟨x,hx,mW,hg⟩:=ih x1 (by simp [uU]) KQ (abN.1 (by omega))
   exact ⟨x,hx,mW,gt_trans hg KQ⟩
 have inl:∀ {x},x∈X→x∈l:=fun hx=>hl.mem_iff.2 (by simp [hx])
 constructor
 ·obtain ⟨x,hx⟩:=List.exists_mem_of_ne_nil X h0
  by_cases hc:Y.count x < X.count x
  ·exact ⟨x,inl hx,by rw [cl,cm];omega⟩
  ·have:0 < X.count x:=abN.2 hx
   obtain ⟨x',rD,Jz,_⟩:=up x (by simp [hx]) (abN.1 (by omega))
   exact ⟨x',inl rD,by rw [cl,cm];omega⟩
 ·intro y hy hc
  rw [cl,cm] at hc
  have hyY:y∈Y:=abN.1 (by omega)
  obtain ⟨x,hx,Jz,hg⟩:=up y (by simp [hyY]) hyY
  exact ⟨x,inl hx,by rw [cl,cm];omega,hg⟩
def Q5 (X Y:List T):Prop:=∀ z,z∈X→z∉Y
theorem M6 {G:T→T→Prop} {l m X Y C:List T} (hl:l.Perm (X++C)) (hm:m.Perm (Y++C)) (hd:Q5 X Y):Mu G l m↔X≠[]∧∀ y∈Y,∃ x∈X,G x y:=by
 have cl:∀ z,l.count z=X.count z + C.count z:=fun z=>by rw [hl.count_eq,adY]
 have cm:∀ z,m.count z=Y.count z + C.count z:=fun z=>by rw [hm.count_eq,adY]
 have inl:∀ {x},x∈X→x∈l:=fun hx=>hl.mem_iff.2 (by simp [hx])
 have inm:∀ {x},x∈Y→x∈m:=fun hx=>hm.mem_iff.2 (by simp [hx])
 have cX:∀ {z},m.count z < l.count z↔z∈X:=by
  intro z
  rw [cl,cm]
  constructor
  ·intro h;exact abN.1 (by omega)
  ·intro h
   have h1:0 < X.count z:=abN.2 h
   have h2:Y.count z=0:=List.count_eq_zero.2 (hd z h)
   omega
 have cY:∀ {z},l.count z < m.count z↔z∈Y:=by
  intro z
  rw [cl,cm]
  constructor
  ·intro h;exact abN.1 (by omega)
  ·intro h
   have h1:0 < Y.count z:=abN.2 h
   have h2:X.count z=0:=List.count_eq_zero.2 (fun hx=>hd z hx h)
   omega
 constructor
 ·rintro ⟨⟨x,_,hx⟩,h2⟩
  refine ⟨fun e=>(by have hm:=cX.1 hx;rw [e] at hm;cases hm),fun y hy=>?_⟩
  obtain ⟨x,_,hx,hg⟩:=h2 y (inm hy) (cY.2 hy)
  exact ⟨x,cX.1 hx,hg⟩
 ·rintro ⟨h1,h2⟩
  refine ⟨?_,fun y _ hy=>?_⟩
  ·obtain ⟨x,hx⟩:=List.exists_mem_of_ne_nil X h1
   exact ⟨x,inl hx,cX.2 hx⟩
  ·obtain ⟨x,hx,hg⟩:=h2 y (cY.1 hy)
   exact ⟨x,inl hx,cX.2 hx,hg⟩
theorem qD {l m X Y C:List T} (hl:l.Perm (X++C)) (hm:m.Perm (Y++C)) (hd:Q5 X Y):l.Perm m↔X=[]∧Y=[]:=by
 constructor
 ·intro h
  have hc:∀ z,X.count z=Y.count z:=fun z=>by
   have h1:=hl.count_eq z
   have h2:=hm.count_eq z
   have h3:=h.count_eq z
   rw [adY] at h1 h2
   omega
  constructor
  ·cases hX:X with
   | nil=>rfl
   | cons x r=>
     have h1:x∈X:=by rw [hX];simp
     have h2:0 < Y.count x:=by rw [← hc];exact abN.2 h1
     exact absurd (abN.1 h2) (hd x h1)
  ·cases hY:Y with
   | nil=>rfl
   | cons x r=>
     have h1:x∈Y:=by rw [hY];simp
     have h2:0 < X.count x:=by rw [hc];exact abN.2 h1
     exact absurd h1 (hd x (abN.1 h2))
 ·rintro ⟨rfl,rfl⟩
  exact hl.trans hm.symm
mutual
def sb (sp:Int→Int) (f:Int→T):T→T
 | .mk k n l=>if k=2 then .mk 2 n (if sp n=3 then yW (sbs sp f l) else sbs sp f l) else f n
def sbs (sp:Int→Int) (f:Int→T):List T→List T
 | []=>[]
 | x::r=>sb sp f x::sbs sp f r
end
theorem ED (s:Int) (g:T→T) (l:List T):side s (l.map g)=(side s l).map g:=by unfold side;split <;> simp
theorem T.ext {a b:T} (h1:a.k=b.k) (h2:a.n=b.n) (h3:a.l=b.l):a=b:=by
 cases a;cases b;simp only [T.k,T.n,T.l] at h1 h2 h3;rw [h1,h2,h3]
end
end Go.eI
end
section
namespace Go.eI
open Go.aK
def E (O:Od) (a b:T):Prop:=norm O a=norm O b
def R (O:Od) (a b:T):Prop:=Gt O.sp (norm O a) (norm O b)
theorem kmk (k n:Int) (l:List T):(T.mk k n l).k=k:=rfl
section
variable {O:Od}
theorem pN {a:T} (h:a.k=2):(norm O a).k=2∧(norm O a).n=O.pl a.n∧(O.sp (O.pl a.n)=3→(norm O a).l=yW (a.l.map (norm O)))∧(O.sp (O.pl a.n)≠3→(norm O a).l=a.l.map (norm O)):=by
 cases a with
 | mk k n l=>
   simp only [T.k] at h
   subst h
   simp only [norm,if_true,T.k,T.n,T.l,AK,true_and]
   exact ⟨fun h=>by rw [if_pos h],fun h=>by rw [if_neg h]⟩
theorem xX {a:T} (h:a.k≠2):norm O a=.mk 1 a.n []:=by
 cases a with
 | mk k n l=>simp only [kmk] at h;simp only [norm];rw [if_neg h];rfl
theorem ud {a:T}:(norm O a).k=2↔a.k=2:=by
 by_cases h:a.k=2
 ·simp [h,(pN h).1]
 ·rw [xX h,kmk];simp [h]
theorem sJ {a x:T} (h:a.k=2):x∈(norm O a).l↔∃ y∈a.l,norm O y=x:=by
 obtain ⟨_,_,h1,h2⟩:=pN (O:=O) h
 by_cases hs:O.sp (O.pl a.n)=3
 ·rw [h1 hs,Q0,aal]
 ·rw [h2 hs,aal]
theorem Q6 {G:T→T→Prop} {l m l' m':List T} (h1:l.Perm l') (h2:m.Perm m'):Mu G l m↔Mu G l' m':=by
 unfold Mu
 simp only [h1.count_eq,h2.count_eq,h1.mem_iff,h2.mem_iff]
theorem SS {a b:T}:E O a b↔(a.k=2∧b.k=2∧O.pl a.n=O.pl b.n∧(if O.sp (O.pl a.n)=3 then (a.l.map (norm O)).Perm (b.l.map (norm O)) else a.l.map (norm O)=b.l.map (norm O)))∨(a.k≠2∧b.k≠2∧a.n=b.n):=by
 by_cases ha:a.k=2
 ·by_cases hb:b.k=2
  ·obtain ⟨ka,na,pa,qa⟩:=pN (O:=O) ha
   obtain ⟨kb,nb,pb,qb⟩:=pN (O:=O) hb
   simp only [ha,hb,true_and,ne_eq,not_true_eq_false,false_and,or_false]
   unfold E
   constructor
   ·intro h
    have hn:O.pl a.n=O.pl b.n:=by rw [← na,← nb,h]
    refine ⟨hn,?_⟩
    have hl:(norm O a).l=(norm O b).l:=by rw [h]
    split
    ·rename_i hs
     rw [pa hs,pb (by rw [← hn];exact hs)] at hl
     exact IE.1 hl
    ·rename_i hs
     rw [qa hs,qb (by rw [← hn];exact hs)] at hl
     exact hl
   ·rintro ⟨hn,hl⟩
    refine T.ext (by rw [ka,kb]) (by rw [na,nb,hn]) ?_
    split at hl
    ·rename_i hs
     rw [pa hs,pb (by rw [← hn];exact hs)]
     exact IE.2 hl
    ·rename_i hs
     rw [qa hs,qb (by rw [← hn];exact hs)]
     exact hl
  ·simp only [ha,hb,ne_eq,not_true_eq_false,false_and,and_false,or_false,iff_false]
   intro h
   have:=ud (O:=O) (a:=a)
   unfold E at h
   rw [h,ud] at this
   exact hb (this.2 ha)
 ·by_cases hb:b.k=2
  ·simp only [ha,hb,ne_eq,not_true_eq_false,false_and,and_false,or_false,iff_false]
   intro h
   have:=ud (O:=O) (a:=b)
   unfold E at h
   rw [← h,ud] at this
   exact ha (this.2 hb)
  ·simp only [ha,hb,ne_eq,not_false_eq_true,false_and,true_and,false_or]
   unfold E
   rw [xX ha,xX hb]
   simp
theorem qE {a b:T}:R O a b↔a.k=2∧((∃ x∈a.l,E O x b∨R O x b)∨b.k=2∧(
 (O.pl b.n < O.pl a.n∧∀ y∈b.l,R O a y)∨
 (O.pl b.n=O.pl a.n∧O.sp (O.pl a.n)≠3∧(∀ y∈b.l,R O a y)∧Lx (Gt O.sp) (side (O.sp (O.pl a.n)) (a.l.map (norm O))) (side (O.sp (O.pl a.n)) (b.l.map (norm O))))∨
 (O.pl b.n=O.pl a.n∧O.sp (O.pl a.n)=3∧Mu (Gt O.sp) (a.l.map (norm O)) (b.l.map (norm O))))):=by
 unfold R
 rw [xV]
 unfold Fm
 rw [ud,ud]
 refine and_congr_right fun ha=>?_
 obtain ⟨ka,na,pa,qa⟩:=pN (O:=O) ha
 refine or_congr ?_ (and_congr_right fun hb=>?_)
 ·constructor
  ·rintro ⟨x,hx,h⟩
   obtain ⟨y,hy,rfl⟩:=(sJ ha).1 hx
   exact ⟨y,hy,h⟩
  ·rintro ⟨x,hx,h⟩
   exact ⟨_,(sJ ha).2 ⟨x,hx,rfl⟩,h⟩
 ·obtain ⟨kb,nb,pb,qb⟩:=pN (O:=O) hb
  have e:(∀ y∈(norm O b).l,Gt O.sp (norm O a) y)↔∀ y∈b.l,Gt O.sp (norm O a) (norm O y):=by
   constructor
   ·intro h y hy;exact h _ ((sJ hb).2 ⟨y,hy,rfl⟩)
   ·intro h y hy;obtain ⟨z,hz,rfl⟩:=(sJ hb).1 hy;exact h z hz
  rw [e,na,nb]
  refine or_congr Iff.rfl (or_congr ?_ ?_)
  ·refine and_congr_right fun hn=>and_congr_right fun hs=>?_
   rw [qa hs,qb (by rw [hn];exact hs)]
  ·refine and_congr_right fun hn=>and_congr_right fun hs=>?_
   exact Q6 (by rw [pa hs];exact mC _) (by rw [pb (by rw [hn];exact hs)];exact mC _)
theorem ZO {a b:T} (h:E O a b):¬ R O a b:=by unfold R;rw [show norm O a=norm O b from h];exact xW _
theorem Q7 {a b c:T} (h1:R O a b) (h2:R O b c):R O a c:=gt_trans h1 h2
theorem ZP {a b x:T} (ha:a.k=2) (hx:x∈a.l) (h:E O x b∨R O x b):R O a b:=qE.2 ⟨ha,.inl ⟨x,hx,h⟩⟩
end
inductive zC (p:Int→Prop):T→Prop
 | mk (k n:Int) (l:List T) (h1:k=2→p n) (h2:∀ x∈l,zC p x):zC p (.mk k n l)
theorem zC.op {p:Int→Prop} {a:T} (h:zC p a) (hk:a.k=2):p a.n:=by cases h with | mk k n l h1 _=>exact h1 hk
theorem zC.mem {p:Int→Prop} {a x:T} (h:zC p a) (hx:x∈a.l):zC p x:=by cases h with | mk k n l _ h2=>exact h2 x hx
end Go.eI
end
section
set_option maxRecDepth 100000
namespace Go.aK
open Go Go.Proofs Go.eI
abbrev Nd:=T×List Int
def bu:List Int→AV
 | []=>.ag
 | v::r=>.al 0 (ints (v::r))
def G8 (p:Nd):AV:=.agg [.int .i64 p.1.k,.int .i64 p.1.n,.al 0 (cJ p.1.l),bu p.2]
def fj (l:List Nd):List AV:=l.map G8
def zN:AV:=.agg [.int .i64 0,.int .i64 0,.ag,.ag]
theorem aI (l:List Int):(bu l).one=true∧(bu l).ab=bu l∧(∀ n,(bu l).bc n=true)∧(bu l).val=true∧(bu l).cells=[bu l]:=by
 cases l with
 | nil=>exact ⟨rfl,rfl,fun _=>rfl,rfl,rfl⟩
 | cons v r=>exact ⟨rfl,rfl,fun n=>by rw [bu,bW];exact bf n _,rfl,rfl⟩
theorem Q8 (p:Nd):jW 4 (G8 p):=by
 obtain ⟨t,ks⟩:=p
 cases ks with
 | nil=>exact ⟨rfl,rfl,by simp [G8,bu,AV.cells,dq,bP,c9,ji,bW,It],rfl⟩
 | cons v r=>exact ⟨rfl,rfl,by simp [G8,bu,AV.cells,dq,bP,c9,ji,bW,bf],rfl⟩
theorem Co:jW 4 (bS zN):=⟨rfl,rfl,rfl,rfl⟩
theorem kT (l:List Nd):∀ x∈fj l,jW 4 x:=by
 intro x hx;obtain ⟨p,_,rfl⟩:=aal.1 hx;exact Q8 p
def ba:List T→Nat→List Int
 | [],_=>[]
 | x::r,n=>(n:Int)::ba r (n + wt x)
mutual
def xY:T→Nat→List Nd
 | .mk k n l,i=>(.mk k n l,ba l (i + 1))::dl l (i + 1)
def dl:List T→Nat→List Nd
 | [],_=>[]
 | x::r,i=>xY x i++dl r (i + wt x)
end
mutual
theorem sK:∀ (t:T) (i:Nat),(xY t i).length=wt t
 | .mk k n l,i=>by rw [xY,List.length_cons,iN,wt];omega
theorem iN:∀ (l:List T) (i:Nat),(dl l i).length=fM l
 | [],_=>rfl
 | x::r,i=>by rw [dl,aaf,sK,iN,fM]
end
theorem pO (t:T) (i:Nat):xY t i=(t,ba t.l (i + 1))::dl t.l (i + 1):=by cases t;rw [xY];rfl
theorem xZ (t:T):wt t=fM t.l + 1:=by cases t;rw [wt];exact aeW _ _
theorem mD:∀ (l:List T) (x:T) (i:Nat),dl (l++[x]) i=dl l i++xY x (i + fM l)
 | [],x,i=>by simp [dl,fM]
 | y::r,x,i=>by rw [List.cons_append,dl,dl,mD r x,abb,fM];congr 3;omega
theorem jD:∀ (l:List T) (x:T) (i:Nat),ba (l++[x]) i=ba l i++[((i + fM l:Nat):Int)]
 | [],x,i=>by simp [ba,fM]
 | y::r,x,i=>by rw [List.cons_append,ba,ba,jD r x,fM];simp;omega
theorem mE {l:List T} {i:Nat} (h:i < l.length):fM (l.take (i + 1))=fM (l.take i) + wt (l.getD i default):=by
 have e:∀ (a:List T) (x:T),fM (a++[x])=fM a + wt x:=by
  intro a x;induction a with
  | nil=>simp [fM]
  | cons y r ih=>rw [List.cons_append,fM,fM,ih];omega
 rw [abT h,e]
 simp [h]
theorem cZ:∀ (l:List T) (i:Nat),fM (l.take i)≤fM l
 | [],i=>by simp [fM]
 | x::r,0=>by simp [fM]
 | x::r,i + 1=>by rw [List.take_succ_cons,fM,fM];have:=cZ r i;omega
theorem cS:∀ (l:List T) (i:Nat),(ba l i).length=l.length
 | [],_=>rfl
 | x::r,i=>by rw [ba,List.length_cons,cS,List.length_cons]
theorem gI:∀ l:List T,l.length≤fM l
 | []=>by simp
 | x::r=>by rw [List.length_cons,fM];have:=gI r;have:=dH x;omega
def nI (t:T):AV:=.agg [.int .i64 t.k,.int .i64 t.n,.al 0 (cJ t.l),.al 0 []]
theorem sL (t:T):jW 4 (nI t):=⟨rfl,rfl,by simp [nI,AV.cells,dq,bP,ji,bW,aj],rfl⟩
theorem bdN (t:T) (φ:AV→Prop):cH [.int .i64 0,.int .i64 0,.ag,.ag] [(0,3,t.av)] φ=φ (.agg [.int .i64 t.k,.int .i64 t.n,.al 0 (cJ t.l),.ag]):=by
 cases t with
 | mk k n l=>
 simp only [cH,iB,T.av,eq_iff_iff]
 constructor
 ·rintro ⟨_,_,_,h⟩;exact h
 ·exact fun h=>⟨rfl,rfl,by decide,h⟩
theorem ZQ (t:T):a7 (.agg [.int .i64 t.k,.int .i64 t.n,.al 0 (cJ t.l),.ag])=nI t:=rfl
theorem RO.aO {z:AV} {base:Nat} {v:AV} {xs:List AV} {G:List aa} (h:RO z base v xs G):aO 1 v=True:=by
 rcases h with ⟨_,rfl⟩ | ⟨id,cap,_,rfl,_⟩ <;> simp [Go.aK.aO]
theorem eV (l:List Int):(iW l).one=true∧(iW l).ab=bu l∧(iW l).val=true∧(iW l).cells=[iW l]:=by
 cases l with
 | nil=>exact ⟨rfl,rfl,rfl,rfl⟩
 | cons v r=>exact ⟨rfl,rfl,rfl,rfl⟩
def ZR (base:Nat) (H:List aa) (xs:List AV) (r:AV) (H':List aa):Prop:=RO zN base r xs H'∧H'.take base=H.take base∧H.length≤H'.length
theorem sM (a b:List Nd):fj (a++b)=fj a++fj b:=by simp [fj]
theorem sN (a:List Nd):(fj a).length=a.length:=by simp [fj]
theorem adq:∀ (N:Nat) (t:T),wt t≤N→∀ (base:Nat) (v:AV) (xs:List AV) (H:List aa),RO zN base v xs H→(∀ x∈xs,jW 4 x)→base≤H.length→(xs.length + wt t) * 64≤140737488355328→
 ax Tryz.prog 132 [t.av,v] H (ZR base H (xs++fj (xY t xs.length))):=by
 intro N
 induction N with
 | zero=>intro t ht;have:=dH t;omega
 | succ N ih=>
 intro t ht base v xs H hR fx hbase hb
 have hw:=xZ t
 have ZS:=gI t.l
 refine Iy.2.calls rfl ?_
 simp only [Iy,aG]
 obtain ⟨o1,o2,o3,o4⟩:=hR.one
 simp +contextual only [o3,hR.len,hR.aO,bdN,ZQ,sZ,Nat.reduceEqDiff,Nat.reduceAdd,↓reduceIte,reduceCtorEq]
 refine MQ Co hR fx 0 [nI t] (by simp) (by simp [sL]) (by simp;omega) hbase fun v1 G1 VK VL hj1 vS=>?_
 obtain ⟨o1',o2',o3',o4'⟩:=VK.one
 simp +contextual only [sZ]
 intro _
 have eS:∀ i,(xs++nI t::fj (dl (t.l.take i) (xs.length + 1))).length=xs.length + 1 + fM (t.l.take i):=by intro i;simp [sN,iN];omega
 have jM:∀ i,∀ x∈xs++nI t::fj (dl (t.l.take i) (xs.length + 1)),jW 4 x:=by
  intro i x hx
  rcases abJ.1 hx with hx | hx
  ·exact fx x hx
  ·rcases aai.1 hx with rfl | hx
   ·exact sL t
   ·exact kT _ x hx
 refine aJ t.l.length (fun i (p:AV×List aa)=>RO zN base p.1 (xs++nI t::fj (dl (t.l.take i) (xs.length + 1))) p.2∧p.2.take base=H.take base∧H.length≤p.2.length)
  (fun i p=>[(1,p.1),(5,.int .i64 xs.length),(6,iW (ba (t.l.take i) (xs.length + 1))),(17,.al 0 (cJ t.l)),(18,.int .i64 t.l.length),(19,.int .i64 i)])
  (fun i p=>p.2) (v1,G1) ⟨⟨VK,VL,vS⟩,aB _ _ _⟩ fun i p hi hI=>?_
 obtain ⟨v,G⟩:=p
 obtain ⟨hR,hG,hl⟩:=hI
 simp only at hR hG hl
 obtain ⟨o1,o2,o3,o4⟩:=hR.one
 have hle:=cZ t.l i
 have FY:=cS (t.l.take i) (xs.length + 1)
 have Q9:(t.l.take i).length≤t.l.length:=by simp;omega
 simp +contextual only [o3,hR.len,hR.aO,eS,oZ,(eV _).2.1,g9,sZ,Nat.reduceEqDiff,Nat.reduceAdd,↓reduceIte,reduceCtorEq]
 refine ⟨fun aS=>⟨bN aS,by omega,?_⟩,fun jw=>?_⟩
 ·have aS:=bN aS
  have hwt:=mE aS
  have hnext:=cZ t.l (i + 1)
  have e2:t.l.take (i + 1)=t.l.take i++[t.l.getD i default]:=by rw [abT aS];simp [aS]
  refine af (ih (t.l.getD i default) (by have:=cR (fa aS);omega) base v _ G hR (jM i) (by omega) (by rw [eS];omega)) ?_
  rintro r G' ⟨zD,eR,xh⟩
  obtain ⟨o1',o2',o3',o4'⟩:=zD.one
  simp +contextual only [o3',sZ,Nat.reduceEqDiff,↓reduceIte]
  refine ⟨i + 1,(r,G'),⟨aS,?_,eR.trans hG,abX hl xh⟩,by omega,aE ?_ rfl⟩
  ·rw [eS] at zD
   rw [e2,mD,sM,← List.cons_append,← abb]
   exact zD
  ·rw [e2,jD,au i (by omega)]
 ·have k9:i=t.l.length:=by have:=dh jw;omega
  subst k9
  rw [abp] at hR
  have vW:=eS t.l.length
  have G9:=jM t.l.length
  rw [abp] at vW G9
  have gr:(xs++nI t::fj (dl t.l (xs.length + 1))).set xs.length (G8 (t,ba t.l (xs.length + 1)))=xs++fj (xY t xs.length):=by
   rw [adr _ _ (rC _),adj,afe,pO];rfl
  have jv:(xs++nI t::fj (dl t.l (xs.length + 1))).getD xs.length .any=nI t:=by simp
  generalize xs++nI t::fj (dl t.l (xs.length + 1))=ys at hR vW G9 gr jv
  rcases hR with ⟨rfl,_⟩ | ⟨id,cap,bn,rfl,hg,cp,_⟩
  ·simp at vW
   omega
  have wh:=(aaJ.1 hg).1
  obtain ⟨k1,k2,k3,k4,k5⟩:=aI (ba t.l (xs.length + 1))
  simp +contextual only [hg,iV,abp,sZ,Nat.reduceEqDiff,↓reduceIte,reduceCtorEq]
  refine ⟨by omega,?_⟩
  refine Ch G9 (by omega) (by decide) (y:=G8 (t,ba t.l (xs.length + 1))) k1 k4 (by rw [k2];exact k3 _) (by rw [jv,k2];rfl) ?_
  simp +contextual only [sZ,Nat.reduceEqDiff,↓reduceIte,reduceCtorEq]
  rw [gr]
  refine aX (G.length) (by omega) (by rw [aA,if_pos rfl,fJ];simpa using wh) ?_
  rw [aA,if_pos rfl,aaw (by simp)]
  refine ⟨.inr ⟨id,cap,bn,?_,?_,?_,?_⟩,?_,by simpa using hl⟩
  ·rw [← gr];simp
  ·rw [yS wh]
  ·rw [← gr];simpa using cp
  ·rw [pO];simp [fj]
  ·rw [abI bn];exact hG
end Go.aK
end
section
set_option maxRecDepth 100000
namespace Go.aK
open Go Go.Proofs Go.eI
def o6 (l:List Nd):AV:=if l=[] then .ag else .al 0 (fj l)
def dV (ps ss:List Int):AV:=.agg [.al 0 (ints ps),.al 0 (ints ss)]
def kU (ps ss:List Int) (l:List Nd) (e g:Nat):aa:=.cells [.al 0 (ints ps),.al 0 (ints ss),o6 l,.map e,.map g]
theorem bdD (ps ss:List Int) (a b:Nat) (φ:AV→Prop):cH [.ag,.ag,.ag,.jN,.jN] [(0,2,.agg [.al 0 (ints ps),.al 0 (ints ss)]),(3,1,.map a),(4,1,.map b)] φ=φ (.agg [.al 0 (ints ps),.al 0 (ints ss),.ag,.map a,.map b]):=by
 simp only [cH,iB,eq_iff_iff]
 constructor
 ·rintro ⟨_,_,_,_,_,_,_,_,_,h⟩;exact h
 ·exact fun h=>⟨rfl,rfl,by simp,rfl,rfl,by simp [ah,AV.cells],rfl,rfl,by simp [ah,AV.cells],h⟩
theorem Ra (a b:AV) (H:List aa) (φ:AV→Prop):aV (some 2) (.ai (.agg [a,b])) H φ=φ (.agg [a,b]):=by simp [aV,AV.cells]
theorem EE (id:Nat) (H:List aa) (K:AV→List aa→Prop):fY 3004 (.ptr id 0) H K=Bz 4 id 2 H (K (.ptr id 0)):=rfl
def SU (H:List aa) (ps ss:List Int) (ts:List T) (r:AV) (H':List aa):Prop:=
 r=.tuple [.ptr (H.length + 2) 0,bu (ba ts 0)]∧H'=H++[.map [],.map [],kU ps ss (dl ts 0) H.length (H.length + 1)]
theorem ku (l:List T):(fj (dl l 0)).length=fM l:=by rw [sN,iN]
theorem EF {l:List Nd} (h:fj l=[]):l=[]:=acp.1 h
theorem M7 {C:List aa→Nat→List aa→Prop} {n0 a b m:Nat} {env:Env} {H H':List aa} {R:AV→List aa→Prop} {x y:AV} (hm:n0≤m) (hC:C H m H') (hx:(get env a).ab=x) (hy:(get env b).ab=y) (bx:x.bc m=true) (tc:y.bc m=true)
 (hR:R (.tuple [x,y]) H'):jA C n0 [.t a,.t b] env H R:=by
 subst hx;subst hy
 exact ⟨m,H',hm,hC,_,b8 _,by show aj m [(get env a).ab,(get env b).ab]=true;rw [bP,bP,c9,bx,tc];rfl,hR⟩
theorem Ha {n0 m:Nat} {G:List aa} (hm:m≤G.length) (hb:∀ (j:Nat) (o:aa),n0≤j→j < m→G[j]?=some o→o=.dead∨o.bc (j + 1)=true):nT n0 G m (G.take m):=by
 refine ⟨by simp,fun j o ho=>?_⟩
 rw [aax] at ho
 split at ho
 ·rename_i hj
  by_cases h0:n0≤j
  ·rcases hb j o h0 hj ho with h | h
   ·exact .inl h
   ·exact .inr ⟨ho,fun _=>h⟩
  ·exact .inr ⟨ho,fun h=>by omega⟩
 ·cases ho
theorem x7 (n:Nat) (l:List Nd):aj n (fj l)=true:=
 (a9 _ _).2 fun x hx=>by
   obtain ⟨⟨t,ks⟩,_,rfl⟩:=aal.1 hx
   cases ks with
   | nil=>simp [G8,bu,AV.bc,dq,aj]
   | cons v r=>simp [G8,bu,AV.bc,dq,bf,aj]
theorem AM (ps ss:List Int) (l:List Nd) (n:Nat):(kU ps ss l n (n + 1)).bc (n + 2 + 1)=true:=by
 have h:(o6 l).bc (n + 2 + 1)=true:=by
  unfold o6
  split
  ·rfl
  ·rw [bW]
   exact x7 _ _
 simp only [kU,aa.bc,bP,c9,bW,bf,h,L5]
 simp;omega
theorem ZT (ps ss:List Int) (ts:List T) (H:List aa) (hb:fM ts * 64≤140737488355328):ax Tryz.prog 75 [dV ps ss,.al 0 (cJ ts)] H (SU H ps ss ts):=by
 refine ZD.2.xK rfl ?_
 simp only [ZD,aG,dV]
 have ZS:=gI ts
 simp +contextual only [bdD,Ra,sZ,Nat.reduceEqDiff,Nat.reduceAdd,↓reduceIte,reduceCtorEq]
 refine ⟨by simp;omega,fun _=>?_⟩
 have e0:∀ (l:List aa) (x:aa),(H++x::l)[H.length]?=some x:=by simp
 refine iK ts.length (fun i (p:AV×List aa)=>RO zN (H.length + 3) p.1 (fj (dl (ts.take i) 0)) p.2∧H.length + 3≤p.2.length∧
  p.2.take (H.length + 3)=H++[.map [],.map [],.cells [.al 0 (ints ps),.al 0 (ints ss),p.1,.map H.length,.map (H.length + 1)]])
  (fun i p=>[(6,.ptr (H.length + 2) 0),(7,iW (ba (ts.take i) 0)),(15,.al 0 (cJ ts)),(16,.int .i64 ts.length),(17,.int .i64 i)])
  (fun i p=>p.2) (.ag,_) ⟨⟨.inl ⟨rfl,rfl⟩,by simp,?_⟩,kr _ _ _⟩ fun i p hi hI=>?_
 ·rw [aaw (by simp)]
 obtain ⟨v,G⟩:=p
 obtain ⟨hR,hl,hG⟩:=hI
 simp only at hR hl hG
 obtain ⟨o1,o2,o3,o4⟩:=hR.one
 have gget:∀ j,j < H.length + 3→G[j]?=(H++[.map [],.map [],.cells [.al 0 (ints ps),.al 0 (ints ss),v,.map H.length,.map (H.length + 1)]])[j]?:=by
  intro j hj;rw [← hG,aax,if_pos hj]
 have g2:G[H.length + 2]?=some (.cells [.al 0 (ints ps),.al 0 (ints ss),v,.map H.length,.map (H.length + 1)]):=by rw [gget _ (by omega)];simp
 have hle:=cZ ts i
 have FY:=cS (ts.take i) 0
 have Q9:(ts.take i).length≤ts.length:=by simp;omega
 simp +contextual only [o3,g2,hR.len,hR.aO,ku,oZ,(eV _).2.1,g9,sZ,Nat.reduceEqDiff,Nat.reduceAdd,Nat.reduceLT,↓reduceIte,reduceCtorEq]
 refine ⟨fun aS=>⟨bN aS,by omega,?_⟩,fun jw=>?_⟩
 ·have aS:=bN aS
  have hwt:=mE aS
  have hnext:=cZ ts (i + 1)
  have e2:ts.take (i + 1)=ts.take i++[ts.getD i default]:=by rw [abT aS];simp [aS]
  have hc:=adq (wt (ts.getD i default)) (ts.getD i default) (rC _) (H.length + 3) v _ G hR (kT _) hl (by rw [ku];omega)
  refine af hc ?_
  rintro r G' ⟨zD,eR,xh⟩
  obtain ⟨o1',o2',o3',o4'⟩:=zD.one
  have g2':G'[H.length + 2]?=some (.cells [.al 0 (ints ps),.al 0 (ints ss),v,.map H.length,.map (H.length + 1)]):=by
   have:(G'.take (H.length + 3))[H.length + 2]?=(G.take (H.length + 3))[H.length + 2]?:=by rw [eR]
   rw [aax,aax,if_pos (by omega),if_pos (by omega)] at this
   rw [this,g2]
  have ey:=zD.bc (rC _)
  simp +contextual only [kQ,o1',o2',o3',o4',g2',ey,sZ,Nat.reduceEqDiff,Nat.reduceAdd,Nat.reduceLeDiff,↓reduceIte]
  refine ⟨by omega,i + 1,(r,_),⟨aS,?_,by simp;omega,?_⟩,by omega,sC ?_ rfl⟩
  ·have h1:=zD.set (j:=H.length + 2) (by omega) (.cells (ah [.al 0 (ints ps),.al 0 (ints ss),v,.map H.length,.map (H.length + 1)] 2 [r]))
   rw [ku] at h1
   rw [e2,mD,sM,abM]
   exact h1
  ·rw [aeu,eR,hG]
   simp [ah]
  ·rw [e2,jD,au i (by omega),abM]
 ·have k9:i=ts.length:=by have:=dh jw;omega
  subst k9
  rw [abp] at hR
  have fin:∀ (G':List aa),G'.length=G.length→G'.take (H.length + 3)=H++[.map [],.map [],kU ps ss (dl ts 0) H.length (H.length + 1)]→jA (nT H.length) H.length [.t 4,.t 5] [(4,.ptr (H.length + 2) 0),(5,bu (ba ts 0))] G' (SU H ps ss ts):=by
   intro G' xh eR
   refine M7 (m:=H.length + 3) (by omega) (Ha (by omega) fun j o h1 h2 ho=>.inr ?_) (x:=.ptr (H.length + 2) 0) (y:=bu (ba ts 0)) rfl ?_ ?_ ((aI _).2.2.1 _) ⟨rfl,eR⟩
   ·have h3:(G'.take (H.length + 3))[j]?=some o:=by rw [aax,if_pos h2];exact ho
    rw [eR,abt h1] at h3
    have:j=H.length∨j=H.length + 1∨j=H.length + 2:=by omega
    rcases this with rfl | rfl | rfl
    ·simp at h3;subst h3;rfl
    ·simp at h3;subst h3;rfl
    ·simp at h3;subst h3;exact AM ps ss _ _
   ·have h2:=(aI (ba ts 0)).2.1
    simp [aA,h2]
   ·rw [qV];simp
  rw [EE]
  unfold Bz
  rw [g2]
  rcases hR with ⟨e1,rfl⟩ | ⟨id,cap,bn,rfl,hg,cp,dJ⟩
  ·simp +contextual only [List.getElem?_cons_succ,List.getElem?_cons_zero,abp,(eV _).2.1,(aI _).2.1,sZ,Nat.reduceEqDiff,↓reduceIte,reduceCtorEq]
   refine fin G rfl ?_
   rw [hG,kU,o6,if_pos (EF e1)]
  ·simp +contextual only [List.getElem?_cons_succ,List.getElem?_cons_zero,abp,(eV _).2.1,(aI _).2.1,sZ,Nat.reduceEqDiff,↓reduceIte,reduceCtorEq]
   refine xP (by decide) Co (kT _) (fun x hx=>?_) hg cp ⟨?_,?_,?_⟩
   ·obtain ⟨q,_,rfl⟩:=aal.1 hx;rfl
   ·rw [yQ (by omega)];exact g2
   ·rw [bW];exact x7 _ _
   ·refine fin _ (by simp) ?_
    rw [aeu,aeu,hG]
    have e1:∀ X:List aa,X.length≤id→X.set id .dead=X:=fun X h=>List.set_eq_of_length_le h
    rw [e1 _ (by simp;omega),kU,o6,if_neg (fun e=>dJ (by rw [e];rfl))]
    simp
end Go.aK
end
