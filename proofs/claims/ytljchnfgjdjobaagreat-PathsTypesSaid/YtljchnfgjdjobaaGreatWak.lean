/- Part 11 of 20 of the proof. -/
import Derived.Test.YtljchnfgjdjobaaGreatWaj
import Derived.Test.YtljchnfgjdjobaaGreatWag
import Derived.KernelRfl
import Derived.Test.YtljchnfgjdjobaaGreatWai
import Derived.SizedLaws
set_option linter.unusedVariables false
set_option linter.unusedSimpArgs false
set_option linter.defProp false
set_option linter.unusedSectionVars false
section
namespace Go.aI
open Go
structure j4 (esz:Nat) (x:AV):Prop where
 len:x.cells.length=esz
 un:x.cells.map AV.ab=x.cells
 bl:al 0 x.cells=true
 one:x.cells.all AV.one=true
theorem j4.flat {esz:Nat}:∀ {xs:List AV},(∀ x∈xs,j4 esz x)→(flat xs).length=xs.length * esz∧(flat xs).map AV.ab=flat xs∧(∀ n,al n (flat xs)=true)∧(Go.aI.flat xs).all AV.one=true
 | [],_=>⟨by simp [Go.aI.flat],rfl,fun _=>rfl,rfl⟩
 | x::r,h=>by
   obtain ⟨h1,h2,h3,h4⟩:=j4.flat (xs:=r) fun y hy=>h y (aaK _ hy)
   have hx:=h x aa2
   have e:Go.aI.flat (x::r)=x.cells++Go.aI.flat r:=rfl
   rw [e]
   refine ⟨by rw [aaj,hx.len,h1,List.length_cons,acm];omega,by rw [acG,hx.un,h2],fun n=>?_,by rw [List.all_append,hx.one,h4];rfl⟩
   rw [bI];exact ⟨bF (acR n) _ hx.bl,h3 n⟩
theorem pi (xs ys:List AV):flat (xs++ys)=flat xs++flat ys:=by simp [flat]
theorem kX {esz:Nat} {z:AV} (hz:j4 esz (bR z)) (n:Nat):∀ x∈List.replicate n (bR z),j4 esz x:=fun x hx=>by rw [acz hx];exact hz
theorem sJ {esz:Nat} {z:AV} (hz:j4 esz (bR z)) (n:Nat):(cT z n).length=n * esz:=by
 have:=(j4.flat (kX hz n)).1
 rwa [ada] at this
theorem Az {esz:Nat} {z:AV} (hz:j4 esz (bR z)) (n k:Nat) (h:k≤n):(cT z n).drop (k * esz)=cT z (n - k):=by
 have e:cT z n=cT z k++cT z (n - k):=by
  unfold cT
  rw [← pi,agr]
  congr 2;omega
 rw [e,adr (by rw [sJ hz];omega),aaN (by rw [sJ hz];omega)]
 rfl
def bB (z:AV) (xs:List AV) (cap:Nat):aa:=.cells (flat xs++cT z (cap - xs.length))
def RO (z:AV) (base:Nat) (v:AV) (xs:List AV) (G:List aa):Prop:=
 (xs=[]∧v=.ag)∨∃ id cap,base≤id∧v=.a7 id 0 xs.length cap∧G[id]?=some (bB z xs cap)∧xs.length≤cap∧xs≠[]
theorem RO.one {z:AV} {base:Nat} {v:AV} {xs:List AV} {G:List aa} (h:RO z base v xs G):v.one=true∧v.val=true∧v.ab=v∧v.cells=[v]:=by
 rcases h with ⟨_,rfl⟩ | ⟨id,cap,_,rfl,_⟩ <;> exact ⟨rfl,rfl,rfl,rfl⟩
theorem RO.bb {z:AV} {base:Nat} {v:AV} {xs:List AV} {G:List aa} (h:RO z base v xs G) {n:Nat} (hn:G.length≤n):v.bb n=true:=by
 rcases h with ⟨_,rfl⟩ | ⟨id,cap,_,rfl,c,_⟩
 ·rfl
 ·have:=(aa0.1 c).1
  rw [fL];simp;omega
theorem RO.set {z:AV} {base:Nat} {v:AV} {xs:List AV} {G:List aa} (h:RO z base v xs G) {j:Nat} (hj:j < base) (o:aa):RO z base v xs (G.set j o):=by
 rcases h with h | ⟨id,cap,a,b,c,d⟩
 ·exact .inl h
 ·exact .inr ⟨id,cap,a,b,by rw [zS (by omega)];exact c,d⟩
theorem RO.len {z:AV} {base:Nat} {v:AV} {xs:List AV} {G:List aa} (h:RO z base v xs G) {H:List aa} (φ:AV→Prop):fj v H φ=φ (.int .i64 xs.length):=by
 rcases h with ⟨rfl,rfl⟩ | ⟨id,cap,_,rfl,_⟩ <;> rfl
theorem Nb {esz bytes:Nat} {z:AV} (hz:j4 esz (bR z)) {base:Nat} {v:AV} {xs:List AV} {G:List aa} (h:RO z base v xs G) (eR:∀ x∈xs,j4 esz x) (o:Nat) (ys:List AV) (hy:ys≠[]) (rO:∀ x∈ys,j4 esz x)
 (hb:(xs.length + ys.length) * bytes≤140737488355328) (hG:base≤G.length) {K:AV→List aa→Prop}
 (hK:∀ v' G',RO z base v' (xs++ys) G'→G'.take base=G.take base→(∀ j,j < base→G'[j]?=G[j]?)→G.length≤G'.length→K v' G'):cV esz bytes z v (.aj o ys) G K:=by
 have jF:qQ esz ys:=fun y hy=>⟨(rO y hy).len,(rO y hy).one⟩
 obtain ⟨f1,f2,f3,f4⟩:=j4.flat rO
 obtain ⟨g1,g2,g3,g4⟩:=j4.flat eR
 have wh:=sJ hz
 have l8:∀ n m,al n (cT z m)=true:=fun n m=>(j4.flat (kX hz m)).2.2.1 n
 unfold cV
 simp only [dA]
 refine ⟨jF,?_⟩
 rcases h with ⟨rfl,rfl⟩ | ⟨id,cap,bn,rfl,hg,hle,_⟩
 ·refine ⟨by simpa using hb,fun e=>absurd e hy,fun _ cap hc _=>⟨?_,hK _ _ (.inr ⟨G.length,cap,hG,by simp,?_,by simpa using hc,by simpa using hy⟩) ?_ ?_ (by simp)⟩⟩
  ·rw [f2,bI];exact ⟨f3 _,l8 _ _⟩
  ·rw [f2];simp [bB]
  ·rw [aa1 hG]
  ·intro j hj;rw [zR (by omega)]
 ·have wv:=(aa0.1 hg).1
  simp only [hg,bB,aaj,g1,wh,ach,List.drop_zero]
  refine ⟨hb,hle,by rw [← acm];exact Nat.le_of_eq (by congr 1;omega),fun hroom=>⟨by rw [f2];exact f3 _,?_⟩,fun kq dM hc _=>⟨?_,?_⟩⟩
  ·rw [f2]
   refine hK _ _ (.inr ⟨id,cap,bn,by simp,?_,by simpa using hroom,by simp [hy]⟩) ?_ ?_ (by simp)
   ·rw [aai wv,bB]
    congr 2
    unfold ah
    rw [f1,aa1 (by rw [g1];exact tv _),aaJ (by rw [g1];exact tv _),aej,aaN (by rw [g1];omega),g1,
     show xs.length * esz + ys.length * esz - xs.length * esz=ys.length * esz by omega,Az hz _ _ (by omega),pi,List.nil_append,aaj]
    rw [show cap - xs.length - ys.length=cap - (xs.length + ys.length) by omega,aa6]
   ·rw [ace (by omega)]
   ·intro j hj;rw [zS (by omega)]
  ·rw [aa1 (by rw [g1];exact tv _),aaJ (by rw [g1];exact tv _),g2,f2,bI,bI];exact ⟨⟨g3 _,f3 _⟩,l8 _ _⟩
  ·rw [aa1 (by rw [g1];exact tv _),aaJ (by rw [g1];exact tv _),g2,f2,← pi]
   refine hK _ _ (.inr ⟨G.length,dM,hG,by simp,?_,by simpa using hc,by simp [hy]⟩) ?_ ?_ (by simp)
   ·simp [bB]
   ·rw [aa1 hG]
   ·intro j hj;rw [zR (by omega)]
theorem ri {esz:Nat}:∀ {xs:List AV} (_:∀ x∈xs,j4 esz x) (i:Nat),i < xs.length→(flat xs).drop (i * esz)=(xs.getD i .any).cells++flat (xs.drop (i + 1))
 | [],_,i,h=>by simp at h
 | x::r,hx,0,_=>by simp [flat]
 | x::r,hx,i + 1,h=>by
   have hl:=(hx x aa2).len
   have e:flat (x::r)=x.cells++flat r:=rfl
   rw [e,show (i + 1) * esz=x.cells.length + i * esz by rw [hl,acm];omega,aej,List.getD_cons_succ,List.drop_succ_cons]
   have:=ri (xs:=r) (fun y hy=>hx y (aaK _ hy)) i (by simpa using h)
   simp [this]
theorem AA {esz:Nat} {z:AV} {c:Nat} (hc:c < esz) (v:AV):∀ {xs:List AV} (_:∀ x∈xs,j4 esz x) (i:Nat) {y:AV} (rest:List AV),i < xs.length→y.cells=(xs.getD i .any).cells.set c v→
 (flat xs++rest).set (i * esz + c) v=flat (xs.set i y)++rest
 | [],_,i,_,_,h,_=>by simp at h
 | x::r,hx,0,y,rest,_,hy=>by
   have hl:=(hx x aa2).len
   have e:flat (x::r)=x.cells++flat r:=rfl
   rw [afM,e,show flat (y::r)=y.cells++flat r from rfl,hy,ags,ach,aa6,agw _ _ (by omega),aa6]
   rfl
 | x::r,hx,i + 1,y,rest,h,hy=>by
   have hl:=(hx x aa2).len
   have e:flat (x::r)=x.cells++flat r:=rfl
   have ih:=AA (z:=z) hc v (xs:=r) (fun y hy=>hx y (aaK _ hy)) i rest (y:=y) (by simpa using h) (by simpa using hy)
   rw [agG,e,show flat (x::r.set i y)=x.cells++flat (r.set i y) from rfl,aa6,aa6,← ih,show (i + 1) * esz + c=x.cells.length + (i * esz + c) by rw [hl,acm];omega]
   rw [ad4 _ _ (by omega)]
   congr 2;omega
theorem l9 (e id N c i:Nat) (k:IntKind) (φ:AV→Prop):aE e (.a7 id 0 N c) (.int k (i:Int)) φ=(i < N∧φ (.ptr id (i * e))):=by
 simp only [aE,zV,ach,eq_iff_iff]
 constructor
 ·rintro ⟨_,h⟩;exact h
 ·exact fun h=>⟨by omega,h⟩
theorem lF {α:Type} (l:List α) (i:Nat) (x:α) (h:i < l.length):ah l i [x]=l.set i x:=by
 unfold ah
 rw [af0,if_pos h]
 rfl
theorem Ch {esz cap id:Nat} {z:AV} {ys:List AV} (rO:∀ x∈ys,j4 esz x) {i c:Nat} (hi:i < ys.length) (hc:c < esz) {v y:AV} (h1:v.one=true) (h2:v.val=true) (h3:v.ab.bb 0=true) (hy:y.cells=(ys.getD i .any).cells.set c v.ab)
 {H:List aa} {K:List aa→Prop} (hK:K (H.set id (bB z (ys.set i y) cap))):iS (some (bB z ys cap)) 1 id (i * esz + c) v H K:=by
 obtain ⟨g1,g2,g3,g4⟩:=j4.flat rO
 have hle:i * esz + esz≤ys.length * esz:=by rw [← Nat.succ_mul];exact acO _ hi
 simp only [bB,xV,z8 h1,h2,List.length_cons,List.length_nil,List.all_cons,List.all_nil,h1,List.map_cons,List.map_nil]
 refine ⟨trivial,trivial,by rw [aaj,g1];omega,rfl,bF (acR _) [v.ab] (by rw [bN,da,h3];rfl),?_⟩
 rw [lF _ _ _ (by rw [aaj,g1];omega),AA (z:=z) hc v.ab rO i _ hi hy]
 have e:(ys.set i y).length=ys.length:=by simp
 simp only [bB,e] at hK
 exact hK
theorem IE {esz:Nat} (h0:1 < esz):∀ {xs:List AV} (_:∀ x∈xs,j4 esz x) (_:∀ x∈xs,AV.agg x.cells=x) (rest:List AV),chunks esz xs.length (flat xs++rest)=xs
 | [],_,_,_=>rfl
 | x::r,hx,ha,rest=>by
   have hl:=(hx x aa2)
   have e:flat (x::r)=x.cells++flat r:=rfl
   rw [List.length_cons,chunks,if_neg (by omega),e,aa6,aa1 (by rw [hl.len];omega),aaJ (by rw [hl.len];omega),hl.un,ha x aa2]
   rw [show List.drop esz (x.cells++(flat r++rest))=flat r++rest by rw [← hl.len,agB],IE h0 (fun y hy=>hx y (aaK _ hy)) (fun y hy=>ha y (aaK _ hy))]
theorem xY {esz id cap:Nat} (h0:1 < esz) {z:AV} (hz:j4 esz (bR z)) {xs:List AV} {H:List aa} (hx:∀ x∈xs,j4 esz x) (ha:∀ x∈xs,AV.agg x.cells=x) (h:H[id]?=some (bB z xs cap)) (hl:xs.length≤cap) {K:AV→List aa→Prop} (hK:K (.aj 0 xs) (H.set id .dead)):ee esz (.a7 id 0 xs.length cap) H K:=by
 obtain ⟨g1,g2,g3,g4⟩:=j4.flat hx
 simp only [ee,h,bB,List.drop_zero,IE h0 hx ha]
 refine ⟨by omega,hl,by simp [g1],?_,hK⟩
 rw [List.all_append,g4,show (cT z (cap - xs.length)).all AV.one=true from (j4.flat (kX hz _)).2.2.2];rfl
end Go.aI
end
section
set_option maxRecDepth 100000
set_option maxHeartbeats 0
namespace Go.aI
open Go Go.Proofs
noncomputable def ZY:=aH Tryz.call58 Tryz.func58 Tryz.ntmps58 [(3,0,2),(3,2,2),(3,3,1)] [(0,[0]),(1,[0,4]),(2,[2]),(3,[2])] []
noncomputable def ZZ:=aH Tryz.call75 Tryz.func75 Tryz.ntmps75 [(0,0,1),(5,2,1000),(6,0,1),(6,8,1),(7,6,2),(7,9,2),(9,0,6004)] [(0,[1,2]),(1,[1,6]),(2,[1,6,7]),(3,[6,7,15,16,17]),(4,[6,7,15,16,17,18]),(5,[6,7,9,15,16,17]),(6,[6,7,9,15,16,17]),(7,[6,7,15,16,17]),(8,[6,7,15,16,17]),(9,[4,5])] [(7,(.take 1 true (.take 2 true (.take 3 true (.take 4 true (.take 5 true (.take 0 false (.br 6 (.take 7 true (.take 8 true (.br 9 .done .nil))) .nil))))))))]
noncomputable def Tl:=aH Tryz.call118 Tryz.func118 Tryz.ntmps118 [(3,0,2),(3,2,2),(3,3,1)] [(0,[0]),(1,[0,4]),(2,[2]),(3,[2])] []
noncomputable def IF:=aH Tryz.call132 Tryz.func132 Tryz.ntmps132 [(0,0,1),(2,0,1),(2,4,2),(2,5,1),(6,2,1000),(7,0,1),(7,5,1),(8,1,1),(8,2,2),(8,3,1),(11,0,1),(11,1,1)] [(0,[1,2]),(1,[1,2,5]),(2,[1,2,5]),(3,[1,2,5,6]),(4,[1,5,6,17,18,19]),(5,[1,5,6,17,18,19,20]),(6,[1,5,6,8,17,18,19]),(7,[1,5,6,8,17,18,19]),(8,[1,5,6,17,18,19]),(9,[1,5,6,17,18,19]),(10,[1]),(11,[4])] []
noncomputable def Tm:=aH Tryz.call139 Tryz.func139 Tryz.ntmps139 [(10,9,2000),(15,0,1),(15,4,1),(21,0,1),(21,4,1),(23,2,3000)] [(0,[0,1,2]),(1,[0,1,2,9]),(2,[0,1,2,9,10]),(3,[0,1,2,9,10,11,12]),(4,[0,1,9,10,11,12,26,27,28]),(5,[0,1,9,10,11,12,26,27,28,29]),(6,[0,1,9,10,11,12,13,14,26,27,28]),(7,[0,1,9,10,11,12,13,14,26,27,28,33,34,35]),(8,[0,1,9,10,11,12,13,14,26,27,28,33,34,35,36]),(9,[0,1,9,10,11,12,13,14,15,16,26,27,28,33,34,35]),(10,[0,1,9,10,11,12,13,14,15,26,27,28,33,34,35,50]),(11,[0,1,9,10,11,12,13,15,26,27,28]),(12,[0,1,9,10,11,12,13,26,27,28]),(13,[0,1,9,10,11,12,13,14,26,27,28,33,34,35]),(14,[0,1,9,10,11,12,13,26,27,28,63]),(15,[0,1,9,10,11,12,26,27,28]),(16,[0,1,9,10,11,12,26,27,28]),(17,[10,11,12,69,70,71]),(18,[10,11,12,69,70,71,72]),(19,[10,11,12,17,18,69,70,71]),(20,[10,11,12,17,69,70,71,77]),(21,[10,11,12,69,70,71]),(22,[10,11,12,69,70,71]),(23,[6,7,8])] []
noncomputable def Tn:=aH Tryz.call149 Tryz.func149 Tryz.ntmps149 [(1,2,1),(3,1,2000),(4,0,3000)] [(0,[0,1]),(1,[0,1]),(2,[0,8]),(3,[0]),(4,[4])] []
noncomputable def To:=aH Tryz.call185 Tryz.func185 Tryz.ntmps185 [(5,3,2000),(6,19,2000)] [(0,[0,1,2]),(1,[0,1,2,7,8]),(2,[0,1,2,7,38]),(3,[6]),(4,[0,9,10]),(5,[0,9,10,11]),(6,[6])] [(4,(.take 0 true (.take 1 true (.take 2 true (.take 3 true (.take 4 true (.take 5 true (.take 6 true (.take 7 true (.take 8 true (.take 9 true (.take 10 true (.take 11 true (.take 12 true (.take 13 true (.take 14 true (.take 15 true (.take 16 true (.take 17 true (.take 18 true (.take 19 true (.take 20 true (.take 21 true .done))))))))))))))))))))))),(6,(.take 0 true (.take 1 true (.take 2 true (.take 3 true (.take 4 true (.take 5 true (.take 6 true (.take 7 true (.take 8 true (.take 9 true (.take 10 true (.take 11 true (.take 12 true (.take 13 true (.take 14 true (.take 15 true (.take 16 true (.take 17 true (.take 18 true (.br 19 (.take 20 true (.take 21 true (.take 22 true .done))) .nil)))))))))))))))))))))]
noncomputable def Tp:=aH Tryz.call199 Tryz.func199 Tryz.ntmps199 [] [(0,[0,2,3]),(1,[0,2,3,9]),(2,[0,2,3]),(3,[0,2,3])] [(3,(.take 0 true (.take 1 true (.take 4 true (.take 5 true (.take 6 true (.take 7 true (.take 8 true (.take 9 true (.take 10 true (.take 11 true (.take 12 true (.take 2 false (.take 3 false (.br 13 (.take 14 true (.br 15 .done .nil)) .nil)))))))))))))))]
end Go.aI
end
section
set_option maxRecDepth 100000
namespace Go.aI
open Go
inductive T where
 | mk (k n:Int) (l:List T)
 deriving Inhabited
mutual
def T.av:T→AV
 | .mk k n l=>.agg [.int .i64 k,.int .i64 n,.aj 0 (ca l)]
def ca:List T→List AV
 | []=>[]
 | x::r=>x.av::ca r
end
def T.k:T→Int | .mk k _ _=>k
def T.n:T→Int | .mk _ n _=>n
def T.l:T→List T | .mk _ _ l=>l
theorem T.vE (x:T):x.av=.agg [.int .i64 x.k,.int .i64 x.n,.aj 0 (ca x.l)]:=by cases x;rfl
theorem nL:∀ l,ca l=l.map T.av
 | []=>rfl
 | x::r=>by simp [ca,nL r]
theorem sK (l:List T):(ca l).length=l.length:=by simp [nL]
theorem Ew (l:List T) (i:Nat) (h:i < l.length):(ca l).getD i .any=(l.getD i default).av:=by
 simp [nL,h]
mutual
theorem T.ma (n:Nat):∀ x:T,x.av.bb n=true
 | .mk k m l=>by simp [T.av,AV.bb,al,dT n l]
theorem dT (n:Nat):∀ l:List T,al n (ca l)=true
 | []=>rfl
 | x::r=>by simp [ca,al,T.ma n x,dT n r]
end
theorem T.ud (x:T):AV.agg x.av.cells=x.av:=by cases x;rfl
theorem T.xZ (x:T):x.av.val=true:=by cases x;rfl
theorem T.rj (x:T):x.av.cells.all AV.one=true:=by cases x;rfl
theorem T.pj (x:T):x.av.ab=x.av:=by cases x;rfl
theorem T.sL (x:T):x.av.drop=x.av:=by cases x;rfl
theorem T.Ey (x:T):x.av.cells.map AV.ab=x.av.cells:=by cases x;rfl
theorem T.Hd (x:T):x.av.cells.map AV.drop=x.av.cells:=by cases x;rfl
theorem T.iU (x:T):x.av.cells.length=3:=by cases x;rfl
theorem Nc (o:Nat) (l:List T):(∀ (own:Nat) (xs:List AV),AV.aj o (ca l)=AV.aj own xs→∀ z∈xs,z.cells.length=3)=True:=by
 simp only [eq_iff_iff,iff_true]
 intro own xs e z hz
 cases e
 rw [nL] at hz
 obtain ⟨y,_,rfl⟩:=aan.1 hz
 exact y.iU
theorem RA (e o:Nat) (l:List T) (k:IntKind) (i:Nat) (φ:AV→Prop):aE e (.aj o (ca l)) (.int k (i:Int)) φ=(i < l.length∧φ (.ai (l.getD i default).av)):=by
 simp only [aE,sK,zV,eq_iff_iff]
 constructor
 ·rintro ⟨_,h,h2⟩;rw [Ew _ _ h] at h2;exact ⟨h,h2⟩
 ·rintro ⟨h,h2⟩;rw [Ew _ _ h];exact ⟨by omega,h,h2⟩
theorem Ez (x:T) (H:List aa) (φ:AV→Prop):aY (some 3) (.ai x.av) H φ=φ x.av:=by
 simp [aY,T.iU,T.ud]
theorem adL (a b c:AV) (x:T):ah [a,b,c] 0 x.av.cells=x.av.cells:=by simp [ah,T.iU]
theorem adM (n:Nat) (x:T):al n x.av.cells=true:=cG (x.ma _)
theorem RB (x:T) (φ:AV→Prop):c8 (some (.cells x.av.cells)) (some 3) 0 φ=φ x.av:=by
 have e:List.map AV.drop (List.take 3 (List.drop 0 x.av.cells))=x.av.cells:=by cases x;rfl
 simp only [c8,e,T.ud]
 simp [T.iU]
theorem fk (x:T) (φ:AV→Prop):ap 0 none (.ai x.av) φ=φ (.ai (.int .i64 x.k)):=by
 cases x;simp [ap,apart,T.av,AV.cells,T.k,AV.one]
theorem fn_ (x:T) (φ:AV→Prop):ap 1 none (.ai x.av) φ=φ (.ai (.int .i64 x.n)):=by
 cases x;simp [ap,apart,T.av,AV.cells,T.n,AV.one]
theorem fl (x:T) (φ:AV→Prop):ap 2 none (.ai x.av) φ=φ (.ai (.aj 0 (ca x.l))):=by
 cases x;simp [ap,apart,T.av,AV.cells,T.l,AV.one]
def ints (l:List Int):List AV:=l.map (AV.int .i64)
theorem aw (l:List Int):(ints l).length=l.length:=by simp [ints]
theorem aT (n:Nat) (l:List Int):al n (ints l)=true:=by
 rw [a9];intro x hx;obtain ⟨y,_,rfl⟩:=aan.1 hx;rfl
theorem dS (o:Nat) (l:List Int):(∀ (own:Nat) (xs:List AV),AV.aj o (ints l)=AV.aj own xs→∀ z∈xs,z.cells.length=1)=True:=by
 simp only [eq_iff_iff,iff_true]
 intro own xs e z hz
 cases e
 obtain ⟨y,_,rfl⟩:=aan.1 hz
 rfl
theorem Nf (e o:Nat) (l:List Int) (k:IntKind) (i:Nat) (φ:AV→Prop):aE e (.aj o (ints l)) (.int k (i:Int)) φ=(i < l.length∧φ (.ai (.int .i64 (l.getD i 0)))):=by
 simp only [aE,aw,zV,eq_iff_iff]
 constructor
 ·rintro ⟨_,h,h2⟩;refine ⟨h,?_⟩;simpa [ints,h] using h2
 ·rintro ⟨h,h2⟩;refine ⟨by omega,h,?_⟩;simpa [ints,h] using h2
theorem ue (l:List Int) (n:Int):ints l++[.int .i64 n]=ints (l++[n]):=by simp [ints]
theorem ok_int (k:IntKind) (n:Int):qQ 1 [.int k n]=True:=by simp [qQ,AV.cells,AV.one]
theorem nM (l:List Int):qQ 1 (ints l)=True:=by
 simp only [qQ,eq_iff_iff,iff_true]
 intro y hy
 obtain ⟨z,_,rfl⟩:=aan.1 hy
 exact ⟨rfl,rfl⟩
theorem V7 (x:T):qQ 3 [x.av]=True:=by
 simp only [qQ,eq_iff_iff,iff_true]
 intro y hy
 rw [aat] at hy
 subst hy
 exact ⟨x.iU,x.rj⟩
theorem V8 (k:IntKind) (n:Int):aU (.int k n)=.int k n:=agI
theorem adN (x:T):aU x.av=x.av:=by cases x;rfl
theorem bs0 (z:AV) (esz:Nat) (φ:List AV→Prop):bm (List.replicate 0 z) esz [] φ=φ []:=agI
theorem bs1 (z x:AV) (esz:Nat) (φ:List AV→Prop):bm (List.replicate 1 (aU z)) esz [(0,x)] φ=(x.val=true∧x.cells.length=esz∧φ [aU x]):=by
 simp [bm]
theorem bs2 (z x y:AV) (esz:Nat) (φ:List AV→Prop):bm (List.replicate 2 (aU z)) esz [(0,x),(1,y)] φ=(x.val=true∧x.cells.length=esz∧y.val=true∧y.cells.length=esz∧φ [aU x,aU y]):=by
 simp [bm,List.replicate]
theorem bs3 (z x y u:AV) (esz:Nat) (φ:List AV→Prop):bm (List.replicate 3 (aU z)) esz [(0,x),(1,y),(2,u)] φ=(x.val=true∧x.cells.length=esz∧y.val=true∧y.cells.length=esz∧u.val=true∧u.cells.length=esz∧φ [aU x,aU y,aU u]):=by
 simp [bm,List.replicate]
@[congr] theorem O6 {xs:List AV} {esz:Nat} {ps ps':List (Nat×AV)} {φ:List AV→Prop} (h:iv ps=ps'):bm xs esz ps φ=bm xs esz ps' φ:=by subst h;rfl
def V9:=(hV (hV (hV (hV @or_true @true_or) (hV @true_and @and_true)) (hV (hV @true_implies @acY) (hV @acJ (hV @Bool.not_true @Bool.not_false)))) (hV (hV (hV @decide_true @decide_false) (hV @Classical.not_not @not_true_eq_false)) (hV (hV @not_false_eq_true @false_implies) (hV @Int.not_le (hV @Int.not_lt @tv)))))
def Wa:=(hV (hV (hV (hV (hV @sK @T.ma) (hV @dT @T.xZ)) (hV (hV @T.rj @T.pj) (hV @T.sL @T.Ey))) (hV (hV (hV @T.Hd @T.iU) (hV @T.ud @Nc)) (hV (hV @RA @Ez) (hV @adL (hV @adM @RB))))) (hV (hV (hV (hV @fk @fn_) (hV @fl @aw)) (hV (hV @aT @dS) (hV @Nf @ue))) (hV (hV (hV @ok_int @V7) (hV @nM @V8)) (hV (hV @adN @bs0) (hV @bs1 (hV @bs2 @bs3))))))
theorem sZa {α:Type} (a b:α) (h:Decidable True):(if True then a else b)=a:=if_pos trivial
def sZ:=hV V6 (hV Wa (hV V9 (hV @sZa (hV @ne_eq.{1} (hV @forall_const.{1} (hV @implies_true.{0} (hV @implies_true.{1} (hV @List.nil_append.{0} (hV @ack.{0} (hV @List.cons_append.{0} (hV @List.length_cons.{0} @List.length_nil.{0})))))))))))
end Go.aI
end
section
end
section
set_option maxRecDepth 100000
namespace Go.aI
open Go Go.Proofs
theorem fM {l:List T} {i:Nat} (h:i < l.length):l.getD i default∈l:=by simp [h]
theorem T.lt {x y:T} (h:x∈y.l):SizeOf.sizeOf x < SizeOf.sizeOf y:=by
 cases y with
 | mk k n l=>
   have:=List.sizeOf_lt_of_mem h
   simp only [T.l] at this
   simp only [T.mk.sizeOf_spec]
   omega
end Go.aI
end
section
set_option maxRecDepth 100000
namespace Go.aI
open Go Go.Proofs
end Go.aI
end
section
set_option maxRecDepth 100000
namespace Go.aI
open Go Go.Proofs
mutual
def gW:T→Int→Int×Int→Int×Int
 | .mk _ _ l,d,s=>mb l (d + 1) (s.1 + 1,max s.2 d)
def mb:List T→Int→Int×Int→Int×Int
 | [],_,s=>s
 | x::r,d,s=>if 2000 < s.1∨200 < s.2 then s else mb r d (gW x d s)
end
def qJ (d:Int) (s:Int×Int):Prop:=0≤s.1∧s.1≤2000∧0≤s.2∧s.2≤200∧0≤d∧d≤201
def nN (s:Int×Int):Prop:=0≤s.1∧s.1≤2001∧0≤s.2∧s.2≤201
mutual
theorem x7:∀ (x:T) (d:Int) (s:Int×Int),qJ d s→nN (gW x d s)∧(gW x d s).2 ≥ d
 | .mk k n l,d,s,h=>by
   simp only [gW]
   obtain ⟨h1,h2,h3,h4,h5,h6⟩:=h
   have:=EA l (d + 1) (s.1 + 1,max s.2 d) (by unfold nN;simp only;omega) (by omega) (by simp only;omega)
   refine ⟨this.1,?_⟩
   have h:=this.2
   simp only at h
   omega
theorem EA:∀ (l:List T) (d:Int) (s:Int×Int),nN s→0≤d→d≤s.2 + 1→nN (mb l d s)∧s.2≤(mb l d s).2
 | [],d,s,h,_,_=>by simp [mb,h]
 | x::r,d,s,h,hd,Ju=>by
   simp only [mb]
   split
   ·exact ⟨h,agD _⟩
   ·rename_i hn
    obtain ⟨h1,h2,h3,h4⟩:=h
    have hx:=x7 x d s ⟨h1,by omega,h3,by omega,hd,by omega⟩
    have hr:=EA r d (gW x d s) hx.1 hd (by omega)
    have:=uf x d s
    exact ⟨hr.1,by omega⟩
theorem uf:∀ (x:T) (d:Int) (s:Int×Int),s.2≤(gW x d s).2
 | .mk k n l,d,s=>by
   simp only [gW]
   have:=AB l (d + 1) (s.1 + 1,max s.2 d)
   simp only at this
   omega
theorem AB:∀ (l:List T) (d:Int) (s:Int×Int),s.2≤(mb l d s).2
 | [],d,s=>by simp [mb]
 | x::r,d,s=>by
   simp only [mb]
   split
   ·omega
   ·have h1:=uf x d s
    have h2:=AB r d (gW x d s)
    omega
end
theorem Kz {l:List T} {i:Nat} {d:Int} {s:Int×Int} (h:i < l.length):mb (l.drop i) d s=if 2000 < s.1∨200 < s.2 then s else mb (l.drop (i + 1)) d (gW (l.getD i default) d s):=by
 rw [aaP h]
 simp [mb,h]
def fm (s:Int×Int):List aa:=[.cells [.int .i64 s.1,.int .i64 s.2]]
theorem Wb (H:List aa) (x:T) (d:Int) (s:Int×Int) (hs:qJ d s) :
 ax Tryz.prog 171 [.ptr H.length 0,x.av,.int .i64 d] (H++fm s) fun r H'=>r=.tuple []∧H'=H++fm (gW x d s):=by
 have ih:∀ y∈x.l,∀ (d:Int) (s:Int×Int),qJ d s→ax Tryz.prog 171 [.ptr H.length 0,y.av,.int .i64 d] (H++fm s) fun r H'=>r=.tuple []∧H'=H++fm (gW y d s):=
  fun y hy d s hs=>Wb H y d s hs
 have e:gW x d s=mb x.l (d + 1) (s.1 + 1,max s.2 d):=by cases x;simp only [gW,T.l]
 obtain ⟨h1,h2,h3,h4,h5,h6⟩:=hs
 have w1:IntKind.i64.wrap (s.1 + 1)=s.1 + 1:=dk _ (by omega)
 have w2:IntKind.i64.wrap (d + 1)=d + 1:=dk _ (by omega)
 refine PZ.2.calls rfl ?_
 simp only [PZ,aH]
 simp only [w1,fm,sZ,Nat.reduceEqDiff,Nat.reduceAdd,Nat.reduceLT,Nat.reduceLeDiff,↓reduceIte,reduceCtorEq]
 intro hl
 have Lm:nN (s.1 + 1,max s.2 d):=by unfold nN;simp only;omega
 have hmd:d≤max s.2 d:=by omega
 generalize max s.2 d=m at *
 refine aG x.l.length (fun i (t:Int×Int)=>nN t∧d≤t.2∧mb (x.l.drop i) (d + 1) t=gW x d s)
  (fun i t=>[(0,.ptr H.length 0),(2,.int .i64 d),(25,.aj 0 (ca x.l)),(26,.int .i64 x.l.length),(27,.int .i64 i)]) (fun i t=>H++fm t) (s.1 + 1,m) ⟨⟨Lm,hmd,by rw [e];rfl⟩,aA _ _ _⟩ fun i t hi hI=>?_
 obtain ⟨⟨k1,k2,k3,k4⟩,k5,hI⟩:=hI
 simp only [w2,fm,sZ,Nat.reduceEqDiff,Nat.reduceAdd,Nat.reduceLT,↓reduceIte,reduceCtorEq]
 refine ⟨fun aP=>⟨bA aP,?_⟩,fun iq=>?_⟩
 ·have aP:=bA aP
  rw [Kz aP] at hI
  refine ⟨fun hn1=>⟨fun hn2=>?_,fun hn2=>?_⟩,fun hn1=>?_⟩
  ·rw [if_pos (.inr hn2)] at hI;rw [← hI];exact jJ (by simp [fm]) rfl
  ·rw [if_neg (by omega)] at hI
   have ho:qJ (d + 1) t:=⟨k1,by omega,k3,by omega,by omega,by omega⟩
   have hx:=x7 (x.l.getD i default) (d + 1) t ho
   refine af (ih _ (fM aP) (d + 1) t ho) ?_
   rintro r H' ⟨rfl,rfl⟩
   simp only [fm,sZ,Nat.reduceEqDiff,↓reduceIte,reduceCtorEq]
   exact ⟨i + 1,gW (x.l.getD i default) (d + 1) t,⟨aP,hx.1,by omega,hI⟩,by omega,aD (by rw [aq i (by omega)]) rfl⟩
  ·rw [if_pos (.inl hn1)] at hI;rw [← hI];exact jJ (by simp [fm]) rfl
 ·rw [aaN (cc iq)] at hI
  rw [← hI]
  exact jJ (by simp [fm]) rfl
termination_by SizeOf.sizeOf x
decreasing_by exact T.lt hy
def vF (s:Int×Int):Bool:=decide (2000 < s.1) || decide (200 < s.2)
theorem Z0 (H:List aa) (s:Int×Int):ax Tryz.prog 172 [.ptr H.length 0] (H++fm s) fun r H'=>r=.bool (vF s)∧H'=H++fm s:=by
 refine P1.2.calls rfl ?_
 simp only [P1,aH]
 simp only [fm,sZ,Nat.reduceEqDiff,Nat.reduceAdd,Nat.reduceLT,↓reduceIte,reduceCtorEq]
 refine ⟨fun h=>?_,fun h=>?_⟩
 ·exact V4 (by simp [fm]) rfl (by simp [vF,Int.not_lt.2 h]) rfl
 ·exact V4 (by simp [fm]) rfl (by simp [vF,h]) rfl
def ug (p:T→Bool):List T→Int→Int
 | [],_=>-1
 | x::r,k=>if p x=true then k else ug p r (k + 1)
theorem x8 (p:T→Bool):∀ (l:List T) (k:Int),0≤k→(decide (0≤ug p l k)=l.any p)
 | [],k,_=>by simp [ug]
 | x::r,k,h=>by
   simp only [ug,af8]
   split
   ·rename_i hp;simp [hp,h]
   ·rename_i hp;simp [hp,x8 p r (k + 1) (by omega)]
theorem AD {p:T→Bool} {l:List T} {i:Nat} {k:Int} (h:i < l.length):ug p (l.drop i) k=if p (l.getD i default)=true then k else ug p (l.drop (i + 1)) (k + 1):=by
 rw [aaP h]
 simp [ug,h]
theorem adP (g:Nat) (p:T→Bool) (l:List T) (hf:∀ x∈l,Pure Tryz.prog g [x.av] (.bool (p x))) :
 Pure Tryz.prog 114 [.aj 0 (ca l),.fn (.func g) [] []] (.int .i64 (ug p l 0)):=by
 refine fun H=>D4.2.calls rfl ?_
 simp only [D4,aH]
 simp only [sZ,Nat.reduceEqDiff,Nat.reduceAdd,↓reduceIte,reduceCtorEq]
 intro hl
 refine ay l.length (fun i=>ug p (l.drop i) i=ug p l 0) (fun i=>[(0,.aj 0 (ca l)),(1,.fn (.func g) [] []),(7,.int .i64 l.length),(8,.int .i64 i)]) (fun _=>H) ⟨rfl,aA _ _ _⟩ fun i hi hI=>?_
 simp only [sZ,Nat.reduceEqDiff,Nat.reduceAdd,↓reduceIte,reduceCtorEq]
 refine ⟨fun aP=>?_,fun iq=>?_⟩
 ·have aP:=bA aP
  rw [AD aP] at hI
  refine ⟨aP,ae (hf _ (fM aP)) ?_⟩
  simp only [sZ,Nat.reduceEqDiff,↓reduceIte,reduceCtorEq]
  refine sE (fun hb=>?_) (fun hb=>?_) <;> simp only [sZ,Nat.reduceEqDiff,↓reduceIte,reduceCtorEq]
  ·rw [if_pos hb] at hI
   exact aM rfl (by rw [← hI])
  ·rw [if_neg (by rw [hb];simp)] at hI
   exact ⟨i + 1,⟨aP,hI⟩,by omega,aD (by rw [aq i (by omega)]) rfl⟩
 ·rw [aaN (cc iq)] at hI
  exact aM rfl (by rw [← hI];rfl)
theorem c53 (g:Nat) (p:T→Bool) (l:List T) (hf:∀ x∈l,Pure Tryz.prog g [x.av] (.bool (p x))) :
 Pure Tryz.prog 53 [.aj 0 (ca l),.fn (.func g) [] []] (.bool (l.any p)):=by
 refine fun H=>SR.2.calls rfl ?_
 simp only [SR,aH]
 simp only [sZ,Nat.reduceEqDiff,Nat.reduceAdd,↓reduceIte,reduceCtorEq]
 refine ae (adP g p l hf) ?_
 simp only [sZ,↓reduceIte,reduceCtorEq]
 exact aM rfl (by rw [x8 p l 0 (by omega)])
mutual
def T.shaped:T→Bool
 | .mk k n l=>!(decide (n < 0) || (decide (k=1) && decide (0 < l.length)) || (decide (k≠1) && decide (k≠2)) || decide (8 < l.length)) && dU l
def dU:List T→Bool
 | []=>true
 | x::r=>x.shaped && dU r
end
theorem lG:∀ l,dU l=l.all T.shaped
 | []=>rfl
 | x::r=>by simp only [dU,List.all_cons,lG r]
theorem EB (l:List T):(!(l.any fun x=>!x.shaped))=dU l:=by
 rw [lG]
 induction l with
 | nil=>rfl
 | cons x r ih=>simp only [af8,List.all_cons,Bool.not_or,aft,ih]
theorem T.dD (x:T):x.shaped=(!(decide (x.n < 0) || (decide (x.k=1) && decide (0 < x.l.length)) || (decide (x.k≠1) && decide (x.k≠2)) || decide (8 < x.l.length)) && dU x.l):=by
 cases x;simp only [T.shaped,T.k,T.n,T.l];rfl
theorem Ci {l:List T} {i:Nat} (h:i < l.length):dU (l.drop i)=((l.getD i default).shaped && dU (l.drop (i + 1))):=by
 rw [aaP h]
 simp [dU,h]
theorem T.KA {x:T} (hh:¬ (x.n < 0∨(x.k=1∧0 < x.l.length)∨(x.k≠1∧x.k≠2)∨8 < x.l.length)):x.shaped=dU x.l:=by
 rw [x.dD]
 have h1:decide (x.n < 0)=false:=acM.2 (by simp only [ne_eq,decide_eq_true_eq];omega)
 have h2:(decide (x.k=1) && decide (0 < x.l.length))=false:=acM.2 (by simp only [ne_eq,zU,decide_eq_true_eq];omega)
 have h3:(decide (x.k≠1) && decide (x.k≠2))=false:=acM.2 (by simp only [ne_eq,zU,decide_eq_true_eq];omega)
 have h4:decide (8 < x.l.length)=false:=acM.2 (by simp only [ne_eq,decide_eq_true_eq];omega)
 rw [h1,h2,h3,h4];rfl
theorem adR (x:T) (h:Pure Tryz.prog 173 [x.av] (.bool x.shaped)):Pure Tryz.prog 211 [x.av] (.bool (!x.shaped)):=by
 refine fun H=>Qf.2.calls rfl ?_
 simp only [Qf,aH]
 simp only [sZ,Nat.reduceEqDiff,Nat.reduceAdd,↓reduceIte]
 refine ae h ?_
 simp only [sZ,↓reduceIte,reduceCtorEq]
 exact aM rfl rfl
theorem Z1 (x:T):Pure Tryz.prog 173 [x.av] (.bool x.shaped):=by
 have ih:∀ y∈x.l,Pure Tryz.prog 211 [y.av] (.bool (!y.shaped)):=fun y hy=>adR y (Z1 y)
 refine fun H=>P2.2.calls rfl ?_
 simp only [P2,aH]
 simp +contextual only [sZ,Nat.reduceEqDiff,Nat.reduceAdd,↓reduceIte,reduceCtorEq]
 have fin:∀ (H':List aa),H'=H→(x.n < 0∨(x.k=1∧0 < x.l.length)∨(x.k≠1∧x.k≠2)∨8 < x.l.length)→bS H.length [RX.t 2] [(2,AV.bool false)] H' fun r H'=>r=AV.bool x.shaped∧H'=H:=by
  rintro H' rfl hh
  refine aM rfl ?_
  rw [x.dD]
  rcases hh with h | h | h | h <;> simp [h]
 have go:¬ (x.n < 0∨(x.k=1∧0 < x.l.length)∨(x.k≠1∧x.k≠2)∨8 < x.l.length)→x.shaped=dU x.l:=by
  intro hh
  rw [x.dD]
  have h1:decide (x.n < 0)=false:=acM.2 (by simp only [ne_eq,decide_eq_true_eq];omega)
  have h2:(decide (x.k=1) && decide (0 < x.l.length))=false:=acM.2 (by simp only [ne_eq,zU,decide_eq_true_eq];omega)
  have h3:(decide (x.k≠1) && decide (x.k≠2))=false:=acM.2 (by simp only [ne_eq,zU,decide_eq_true_eq];omega)
  have h4:decide (8 < x.l.length)=false:=acM.2 (by simp only [ne_eq,decide_eq_true_eq];omega)
  rw [h1,h2,h3,h4];rfl
 refine ⟨fun h=>fin _ rfl (.inl h),fun h=>⟨fun h1 hl=>⟨fun h2=>fin _ rfl (by omega),fun h2=>⟨fun h3=>fin _ rfl (by omega),fun h3=>ae (c53 211 _ _ ih) ?_⟩⟩,
  fun h1=>⟨fun h2=>fin _ rfl (by omega),fun h2 hl=>⟨fun h3=>fin _ rfl (by omega),fun h3=>ae (c53 211 _ _ ih) ?_⟩⟩⟩⟩ <;>
 ·simp only [sZ,↓reduceIte,reduceCtorEq]
  exact aM rfl (by rw [go (by omega),EB])
termination_by SizeOf.sizeOf x
decreasing_by exact T.lt hy
def T.tree (x:T):Bool:=!vF (gW x 1 (0,0)) && x.shaped
theorem Z2 (x:T):Pure Tryz.prog 108 [x.av] (.bool x.tree):=by
 refine fun H=>PT.2.calls rfl ?_
 simp only [PT,aH]
 simp only [sZ,Nat.reduceEqDiff,Nat.reduceAdd,↓reduceIte,reduceCtorEq]
 refine af (Wb H x 1 (0,0) (by unfold qJ;simp)) ?_
 rintro r H' ⟨rfl,rfl⟩
 simp only [sZ,Nat.reduceEqDiff,Nat.reduceAdd,↓reduceIte]
 refine af (Z0 H (gW x 1 (0,0))) ?_
 rintro r H' ⟨rfl,rfl⟩
 cases hb:vF (gW x 1 (0,0)) <;> simp +contextual only [sZ,Nat.reduceEqDiff,Nat.reduceAdd,↓reduceIte,reduceCtorEq]
 ·refine ae (Z1 x) ?_
  simp only [sZ,Nat.reduceEqDiff,↓reduceIte,reduceCtorEq]
  exact M9 rfl (by simp [T.tree,hb])
 ·exact M9 rfl (by simp [T.tree,hb])
theorem adS (x:T):Pure Tryz.prog 178 [x.av] (.bool (!x.tree)):=by
 refine fun H=>P3.2.calls rfl ?_
 simp only [P3,aH]
 simp only [sZ,Nat.reduceEqDiff,Nat.reduceAdd,↓reduceIte]
 refine ae (Z2 x) ?_
 simp only [sZ,↓reduceIte,reduceCtorEq]
 exact aM rfl rfl
def kY (l:List T):Bool:=l.all T.tree
theorem adT (l:List T):Pure Tryz.prog 121 [.aj 0 (ca l)] (.int .i64 (if kY l=true then 0 else 4)):=by
 refine fun H=>PV.2.calls rfl ?_
 simp only [PV,aH]
 simp only [sZ,Nat.reduceAdd,↓reduceIte,reduceCtorEq]
 refine ae (c53 178 _ l fun x _=>adS x) ?_
 have e:(l.any fun x=>!x.tree)=!kY l:=by
  unfold kY
  induction l with
  | nil=>rfl
  | cons x r ih=>simp only [af8,List.all_cons,ih,Bool.not_and]
 rw [e]
 cases kY l <;> simp +contextual only [sZ,↓reduceIte,reduceCtorEq]
 ·exact aM rfl rfl
 ·exact aM rfl rfl
mutual
def iV:T→Int→Int→Int×Bool
 | .mk _ _ l,left,deep=>if left - 1 < 0∨200 < deep then (left - 1,false) else nO l (left - 1) (deep + 1)
def nO:List T→Int→Int→Int×Bool
 | [],left,_=>(left,true)
 | x::r,left,deep=>if (iV x left deep).2=true then nO r (iV x left deep).1 deep else ((iV x left deep).1,false)
end
mutual
theorem Cj:∀ (x:T) (left deep:Int),(iV x left deep).1≤left∧(0≤left→-1≤(iV x left deep).1∧((iV x left deep).2=true→0≤(iV x left deep).1))
 | .mk k n l,left,deep=>by
   simp only [iV]
   split
   ·simp;omega
   ·rename_i hn
    have:=IG l (left - 1) (deep + 1)
    exact ⟨by omega,fun _=>this.2 (by omega)⟩
theorem IG:∀ (l:List T) (left deep:Int),(nO l left deep).1≤left∧(0≤left→-1≤(nO l left deep).1∧((nO l left deep).2=true→0≤(nO l left deep).1))
 | [],left,deep=>by simp [nO];omega
 | x::r,left,deep=>by
   have h1:=Cj x left deep
   simp only [nO]
   split
   ·rename_i hb
    have h2:=IG r (iV x left deep).1 deep
    exact ⟨by omega,fun h0=>h2.2 ((h1.2 h0).2 hb)⟩
   ·exact ⟨h1.1,fun h0=>⟨(h1.2 h0).1,fun e=>by cases e⟩⟩
end
theorem KB {l:List T} {i:Nat} {left d:Int} (h:i < l.length):nO (l.drop i) left d=if (iV (l.getD i default) left d).2=true then nO (l.drop (i + 1)) (iV (l.getD i default) left d).1 d else ((iV (l.getD i default) left d).1,false):=by
 rw [aaP h]
 simp [nO,h]
theorem Z3 (x:T) (left deep:Int) (h0:0≤left) (h1:left≤100000) (h2:0≤deep) (h3:deep≤201) :
 Pure Tryz.prog 214 [x.av,.int .i64 left,.int .i64 deep] (.tuple [.int .i64 (iV x left deep).1,.bool (iV x left deep).2]):=by
 have ih:∀ y∈x.l,∀ (left deep:Int),0≤left→left≤100000→0≤deep→deep≤201→
  Pure Tryz.prog 214 [y.av,.int .i64 left,.int .i64 deep] (.tuple [.int .i64 (iV y left deep).1,.bool (iV y left deep).2]):=fun y hy left deep h0 h1 h2 h3=>Z3 y left deep h0 h1 h2 h3
 have e:iV x left deep=if left - 1 < 0∨200 < deep then (left - 1,false) else nO x.l (left - 1) (deep + 1):=by cases x;simp only [iV,T.l]
 have w1:IntKind.i64.wrap (left - 1)=left - 1:=dk _ (by omega)
 have w2:IntKind.i64.wrap (deep + 1)=deep + 1:=dk _ (by omega)
 refine fun H=>Zb.2.calls rfl ?_
 simp only [Zb,aH]
 simp +contextual only [w1,sZ,Nat.reduceEqDiff,Nat.reduceAdd,↓reduceIte,reduceCtorEq]
 refine ⟨fun h4=>⟨fun h5=>IC (by decide) rfl rfl (by rw [e,if_pos (.inr h5)];rfl) (by rw [e,if_pos (.inr h5)];rfl),fun h5=>?_⟩,fun h4=>IC (by decide) rfl rfl (by rw [e,if_pos (.inl h4)];rfl) (by rw [e,if_pos (.inl h4)];rfl)⟩
 have e2:iV x left deep=nO x.l (left - 1) (deep + 1):=by rw [e,if_neg (by omega)]
 refine aG x.l.length (fun i (s:Int)=>0≤s∧s≤100000∧nO (x.l.drop i) s (deep + 1)=iV x left deep)
  (fun i s=>[(1,.int .i64 s),(2,.int .i64 deep),(3,x.av.ai),(8,.int .i64 i)]) (fun i s=>H) (left - 1) ⟨⟨by omega,by omega,by rw [e2];rfl⟩,aA _ _ _⟩ fun i s hi hI=>?_
 obtain ⟨k0,k1,hI⟩:=hI
 simp +contextual only [w2,sZ,Nat.reduceEqDiff,Nat.reduceAdd,↓reduceIte,reduceCtorEq]
 intro hl
 refine ⟨fun aP=>⟨bA aP,?_⟩,fun iq=>?_⟩
 ·have aP:=bA aP
  rw [KB aP] at hI
  have hle:=Cj (x.l.getD i default) s (deep + 1)
  refine ae (ih _ (fM aP) s (deep + 1) k0 k1 (by omega) (by omega)) ?_
  simp +contextual only [sZ,Nat.reduceEqDiff,Nat.reduceAdd,Nat.reduceLT,↓reduceIte]
  refine sE (fun hb=>?_) (fun hb=>?_) <;> simp +contextual only [sZ,Nat.reduceEqDiff,↓reduceIte,reduceCtorEq]
  ·rw [if_pos hb] at hI
   exact ⟨i + 1,_,⟨aP,(hle.2 k0).2 hb,by omega,hI⟩,by omega,aD (by rw [aq i (by omega)]) rfl⟩
  ·rw [if_neg (by rw [hb];simp)] at hI
   exact IC (by decide) rfl rfl (by rw [← hI];rfl) (by rw [← hI];rfl)
 ·rw [aaN (cc iq)] at hI
  exact IC (by decide) rfl rfl (by rw [← hI];rfl) (by rw [← hI];rfl)
termination_by SizeOf.sizeOf x
decreasing_by exact T.lt hy
theorem Z4 (x:T):Pure Tryz.prog 215 [x.av] (.bool x.shaped):=by
 have ih:∀ y∈x.l,Pure Tryz.prog 215 [y.av] (.bool y.shaped):=fun y hy=>Z4 y
 refine fun H=>Zc.2.calls rfl ?_
 simp only [Zc,aH]
 simp +contextual only [sZ,Nat.reduceEqDiff,Nat.reduceAdd,↓reduceIte,reduceCtorEq,Int.reduceEq]
 have fin:∀ (H':List aa),H'=H→(x.n < 0∨(x.k=1∧0 < x.l.length)∨(x.k≠1∧x.k≠2)∨8 < x.l.length)→bS H.length [RX.t 2] [(2,AV.bool false)] H' fun r H'=>r=AV.bool x.shaped∧H'=H:=by
  rintro H' rfl hh
  refine aM rfl ?_
  rw [x.dD]
  rcases hh with h | h | h | h <;> simp [h]
 refine ⟨fun h=>⟨fun h1=>⟨fun h2 hl=>⟨fun h3=>fin _ rfl (by omega),fun h3=>?_⟩,fun h2=>fin _ rfl (by omega)⟩,fun h1 hl=>⟨fun h2=>⟨fun h3=>fin _ rfl (by omega),fun h3=>?_⟩,fun h2=>fin _ rfl (by omega)⟩⟩,fun h=>fin _ rfl (by omega)⟩
 all_goals
  have go:x.shaped=dU x.l:=T.KA (by omega)
  refine ay x.l.length (fun i=>dU (x.l.drop i)=x.shaped) (fun i=>[(1,x.av.ai),(3,.int .i64 i)]) (fun i=>H) ⟨by rw [go];rfl,aA _ _ _⟩ fun i hi hI=>?_
  simp +contextual only [sZ,Nat.reduceEqDiff,Nat.reduceAdd,↓reduceIte,reduceCtorEq]
  intro _
  refine ⟨fun aP=>⟨bA aP,?_⟩,fun iq=>?_⟩
  ·have aP:=bA aP
   rw [Ci aP] at hI
   refine ae (ih _ (fM aP)) ?_
   simp +contextual only [sZ,Nat.reduceEqDiff,↓reduceIte]
   refine sE (fun hb=>?_) (fun hb=>?_) <;> simp +contextual only [sZ,Nat.reduceEqDiff,↓reduceIte,reduceCtorEq]
   ·exact ⟨i + 1,⟨aP,by rw [hb] at hI;simpa using hI⟩,by omega,aD (by rw [aq i (by omega)]) rfl⟩
   ·exact aM rfl (by rw [← hI,hb];rfl)
  ·rw [aaN (cc iq)] at hI
   exact aM rfl (by rw [← hI];rfl)
termination_by SizeOf.sizeOf x
decreasing_by exact T.lt hy
theorem adU (x:T):Pure Tryz.prog 175 [x.av] (.bool ((iV x 2000 1).2 && x.shaped)):=by
 refine fun H=>YQ.2.calls rfl ?_
 simp only [YQ,aH]
 simp +contextual only [sZ,Nat.reduceEqDiff,Nat.reduceAdd,↓reduceIte]
 refine ae (Z3 x 2000 1 (by omega) (by omega) (by omega) (by omega)) ?_
 cases hb:(iV x 2000 1).2 <;> simp +contextual only [sZ,Nat.reduceEqDiff,Nat.reduceAdd,Nat.reduceLT,↓reduceIte,reduceCtorEq]
 ·exact aM rfl rfl
 ·refine ae (Z4 x) ?_
  simp +contextual only [sZ,Nat.reduceEqDiff,↓reduceIte,reduceCtorEq]
  exact aM rfl rfl
end Go.aI
end
section
set_option maxRecDepth 100000
namespace Go.aI
open Go Go.Proofs
mutual
def T.sz:T→Int
 | .mk _ _ l=>1 + lh l
def lh:List T→Int
 | []=>0
 | x::r=>x.sz + lh r
end
mutual
def T.dp:T→Int
 | .mk _ _ l=>1 + He l
def He:List T→Int
 | []=>0
 | x::r=>max x.dp (He r)
end
mutual
theorem T.Hf:∀ x:T,1≤x.sz
 | .mk k n l=>by simp only [T.sz];have:=gK l;omega
theorem gK:∀ l:List T,0≤lh l
 | []=>by simp [lh]
 | x::r=>by simp only [lh];have:=T.Hf x;have:=gK r;omega
end
mutual
theorem T.Ck:∀ x:T,1≤x.dp
 | .mk k n l=>by simp only [T.dp];have:=pV l;omega
theorem pV:∀ l:List T,0≤He l
 | []=>by simp [He]
 | x::r=>by simp only [He];have:=T.Ck x;have:=pV r;omega
end
def fh (s:Int×Int):Prop:=2000 < s.1∨200 < s.2
mutual
theorem uh:∀ (x:T) (d:Int) (s:Int×Int),qJ d s→(¬ fh (gW x d s)↔s.1 + x.sz≤2000∧d + x.dp - 1≤200)∧(¬ fh (gW x d s)→(gW x d s).1=s.1 + x.sz∧(gW x d s).2=max s.2 (d + x.dp - 1))
 | .mk k n l,d,s,h=>by
   obtain ⟨h1,h2,h3,h4,h5,h6⟩:=h
   simp only [gW,T.sz,T.dp]
   have hp:=pV l
   have ih:=AE l (d + 1) (s.1 + 1,max s.2 d) (by unfold nN;simp only;omega) (by omega) (by simp only;omega)
   simp only at ih
   refine ⟨ih.1.trans ⟨fun k=>⟨by omega,by omega⟩,fun k=>⟨by omega,by omega,by omega⟩⟩,fun k=>?_⟩
   have k1:=ih.2 k
   have k2:=ih.1.1 k
   exact ⟨by omega,by omega⟩
theorem AE:∀ (l:List T) (d:Int) (s:Int×Int),nN s→0≤d→d≤s.2 + 1→(¬ fh (mb l d s)↔s.1 + lh l≤2000∧s.2≤200∧d + He l - 1≤200)∧(¬ fh (mb l d s)→(mb l d s).1=s.1 + lh l∧(mb l d s).2=max s.2 (d + He l - 1))
 | [],d,s,h,h5,h6=>by
   simp only [mb,lh,He,fh]
   exact ⟨⟨fun k=>⟨by omega,by omega,by omega⟩,fun k=>by omega⟩,fun k=>⟨by omega,by omega⟩⟩
 | x::r,d,s,h,h5,h6=>by
   obtain ⟨h1,h2,h3,h4⟩:=h
   simp only [mb]
   have LA:=x.Hf
   have hd0:=x.Ck
   have hr0:=gK r
   have he0:=pV r
   simp only [lh,He]
   by_cases ho:2000 < s.1∨200 < s.2
   ·rw [if_pos ho]
    refine ⟨⟨fun k=>absurd ho k,fun k=>?_⟩,fun k=>absurd ho k⟩
    omega
   ·rw [if_neg ho]
    have jF:qJ d s:=⟨h1,by omega,h3,by omega,h5,by omega⟩
    have hx:=uh x d s jF
    have Z5:=x7 x d s jF
    have Tq:=uf x d s
    have ih:=AE r d (gW x d s) Z5.1 h5 (by omega)
    generalize gW x d s=t at *
    by_cases hot:fh t
    ·have hn:fh (mb r d t):=by
      refine Classical.byContradiction fun hc=>?_
      have:=ih.1.1 hc
      unfold fh at hot
      omega
     refine ⟨⟨fun k=>absurd hn k,fun k=>?_⟩,fun k=>absurd hn k⟩
     have:=hx.1.2 (by omega)
     exact absurd hot this
    ·have k1:=hx.2 hot
     have k2:=hx.1.1 hot
     refine ⟨ih.1.trans ⟨fun k=>⟨by omega,by omega,by omega⟩,fun k=>⟨by omega,by omega,by omega⟩⟩,fun k=>?_⟩
     have k3:=ih.2 k
     exact ⟨by omega,by omega⟩
end
theorem ui (s:Int×Int):vF s=true↔fh s:=by simp [vF,fh]
mutual
theorem AF:∀ (x:T) (left d:Int),0≤left→d≤201→((iV x left d).2=true↔x.sz≤left∧d + x.dp - 1≤200)∧((iV x left d).2=true→(iV x left d).1=left - x.sz)
 | .mk k n l,left,d,h0,hd=>by
   simp only [iV,T.sz,T.dp]
   have hp:=pV l
   have hs:=gK l
   by_cases ho:left - 1 < 0∨200 < d
   ·rw [if_pos ho]
    refine ⟨⟨fun k=>(by cases k),fun k=>?_⟩,fun k=>(by cases k)⟩
    omega
   ·rw [if_neg ho]
    have ih:=AG l (left - 1) (d + 1) (by omega) (by omega)
    exact ⟨ih.1.trans ⟨fun k=>⟨by omega,by omega⟩,fun k=>⟨by omega,by omega⟩⟩,fun k=>by have:=ih.2 k;omega⟩
theorem AG:∀ (l:List T) (left d:Int),0≤left→d≤201→((nO l left d).2=true↔lh l≤left∧d + He l - 1≤200)∧((nO l left d).2=true→(nO l left d).1=left - lh l)
 | [],left,d,h0,hd=>by simp only [nO,lh,He];exact ⟨⟨fun _=>⟨by omega,by omega⟩,fun _=>trivial⟩,fun _=>by omega⟩
 | x::r,left,d,h0,hd=>by
   simp only [nO,lh,He]
   have LA:=x.Hf
   have hd0:=x.Ck
   have hr0:=gK r
   have he0:=pV r
   have hx:=AF x left d h0 hd
   have hle:=Cj x left d
   cases hb:(iV x left d).2 with
   | false=>
     rw [if_neg (by simp)]
     refine ⟨⟨fun k=>(by cases k),fun k=>?_⟩,fun k=>(by cases k)⟩
     have:=hx.1.2 (by omega)
     rw [hb] at this;cases this
   | true=>
     rw [if_pos rfl]
     have k1:=hx.2 hb
     have k2:=hx.1.1 hb
     have ih:=AG r (iV x left d).1 d ((hle.2 h0).2 hb) hd
     exact ⟨ih.1.trans ⟨fun k=>⟨by omega,by omega⟩,fun k=>⟨by omega,by omega⟩⟩,fun k=>by have:=ih.2 k;omega⟩
end
theorem T.dg (x:T):x.tree=true↔x.sz≤2000∧x.dp≤200∧x.shaped=true:=by
 have h:=(uh x 1 (0,0) (by unfold qJ;simp)).1
 unfold T.tree
 rw [zU,abX,← Bool.not_eq_true,ui]
 constructor
 ·rintro ⟨h1,h2⟩
  have:=h.1 h1
  simp only at this
  exact ⟨by omega,by omega,h2⟩
 ·rintro ⟨h1,h2,h3⟩
  exact ⟨h.2 (by simp only;omega),h3⟩
theorem Wc (x:T):((iV x 2000 1).2 && x.shaped)=x.tree:=by
 have h:=(AF x 2000 1 (by omega) (by omega)).1
 rw [acw,zU,h,T.dg]
 constructor
 ·rintro ⟨⟨h1,h2⟩,h3⟩;exact ⟨h1,by omega,h3⟩
 ·rintro ⟨h1,h2,h3⟩;exact ⟨⟨h1,by omega⟩,h3⟩
theorem Tr (x:T):Pure Tryz.prog 175 [x.av] (.bool x.tree):=by rw [← Wc];exact adU x
theorem Ng {p:T→Bool} {l:List T} {i:Nat} (h:i < l.length):(l.drop i).all p=(p (l.getD i default) && (l.drop (i + 1)).all p):=by
 rw [aaP h,List.all_cons]
 simp [h]
theorem adV (l:List T):Pure Tryz.prog 243 [.aj 0 (ca l)] (.bool (kY l)):=by
 refine fun H=>Zu.2.calls rfl ?_
 simp only [Zu,aH]
 simp +contextual only [sZ,Nat.reduceAdd,↓reduceIte,reduceCtorEq]
 refine ay l.length (fun i=>(l.drop i).all T.tree=kY l) (fun i=>[(0,.aj 0 (ca l)),(3,.int .i64 i)]) (fun i=>H) ⟨rfl,aA _ _ _⟩ fun i hi hI=>?_
 simp +contextual only [sZ,Nat.reduceEqDiff,Nat.reduceAdd,↓reduceIte,reduceCtorEq]
 intro _
 refine ⟨fun aP=>⟨bA aP,?_⟩,fun iq=>?_⟩
 ·have aP:=bA aP
  rw [Ng aP] at hI
  refine ae (Tr _) ?_
  simp +contextual only [sZ,Nat.reduceEqDiff,↓reduceIte,reduceCtorEq]
  refine sE (fun hb=>?_) (fun hb=>?_) <;> simp +contextual only [sZ,↓reduceIte,reduceCtorEq]
  ·exact ⟨i + 1,⟨aP,by rw [hb] at hI;simpa using hI⟩,by omega,aD (by rw [aq i (by omega)]) rfl⟩
  ·exact aM rfl (by rw [← hI,hb];rfl)
 ·rw [aaN (cc iq)] at hI
  exact aM rfl (by rw [← hI];rfl)
def ents (vs:List Int):List (AV×AV):=vs.map fun v=>(.int .i64 v,.bool true)
theorem rk (n:Int):∀ (vs:List Int) (i:Nat),(n∈vs→∃ j,dn 0 (.int .i64 n) (ents vs) i=some (some (j,.bool true)))∧(n∉vs→dn 0 (.int .i64 n) (ents vs) i=some none)
 | [],i=>⟨fun h=>(by cases h),fun _=>rfl⟩
 | v::r,i=>by
   have ih:=rk n r (i + 1)
   simp only [ents,List.map_cons,dn,cK,if_true]
   by_cases hv:n=v
   ·subst hv
    simp
   ·simp only [Xi,hv,false_or]
    exact ih
theorem Cl (n:Int) (vs:List Int) (φ:AV→Prop):gJ (some (.map (ents vs))) 0 (.bool false) (.int .i64 n) false φ=φ (.bool (decide (n∈vs))):=by
 have h:=rk n vs 0
 unfold gJ
 by_cases hn:n∈vs
 ·obtain ⟨j,hj⟩:=h.1 hn
  simp [hj,hn,nJ]
 ·simp [h.2 hn,hn,cK,aU,bm.aU,nJ]
theorem IH {n:Int} {vs:List Int} (hn:n∉vs) (id:Nat) (H:List aa) (K:List aa→Prop):ft (some (.map (ents vs))) 0 id (.int .i64 n) (.bool true) H K=K (H.set id (.map (ents (vs++[n])))):=by
 have h:=(rk n vs 0).2 hn
 unfold ft
 simp only [h]
 simp [cK,iR,sD,wF,ents,aU,bm.aU,nJ]
def gX:List Int→AV
 | []=>.ag
 | v::r=>.aj 1 (ints (v::r))
theorem fX (vs:List Int) (n:Int):AV.aj 1 (ints (vs++[n]))=gX (vs++[n]):=by
 cases vs <;> rfl
theorem EC (vs:List Int):(gX vs).one=true:=by cases vs <;> rfl
theorem ED (k:Nat) (vs:List Int):(gX vs).bb k=true:=by
 cases vs with
 | nil=>rfl
 | cons v r=>simp only [gX,bM,aT]
theorem nP (vs:List Int) (n:Int) (o:Nat) (ψ:List AV→Prop):bw 1 8 (gX vs) (.aj o [.int .i64 n]) ψ=((vs.length + 1) * 8≤140737488355328∧ψ (ints (vs++[n]))):=by
 cases vs with
 | nil=>simp [gX,lE,ok_int,ints]
 | cons v r=>
   show bw 1 8 (.aj 1 (ints (v::r))) _ ψ=_
   rw [j3,ok_int,aw,ue]
   simp
def cU (vs:List Int):List aa:=[.cells [gX vs],.map (ents vs)]
def Cm (vs:List Int) (x:T):List Int:=if x.k=1∧x.n∉vs then vs++[x.n] else vs
theorem adW (H:List aa) (x:T) (vs:List Int) (hl:vs.length≤1000000) :
 ax Tryz.prog 246 [x.av,.ai (.map (H.length + 1)),.ptr H.length 0] (H++cU vs) fun r H'=>r=.tuple []∧H'=H++cU (Cm vs x):=by
 refine Qo.2.calls rfl ?_
 simp only [Qo,aH]
 simp +contextual only [cU,Cl,sZ,Nat.reduceEqDiff,Nat.reduceAdd,↓reduceIte,reduceCtorEq]
 refine ⟨fun hk=>⟨fun hn=>?_,fun hn=>?_⟩,fun hk=>?_⟩
 ·exact jJ (by simp [cU]) (by simp [Cm,hk,hn,cU])
 ·rw [IH hn]
  simp +contextual only [nP,fX,EC,ED,sZ,Nat.reduceEqDiff,Nat.reduceAdd,Nat.reduceLT,↓reduceIte,reduceCtorEq]
  refine ⟨by omega,?_⟩
  exact jJ (by simp [cU]) (by simp [Cm,hk,hn,cU])
 ·exact jJ (by simp [cU]) (by simp [Cm,hk,cU])
mutual
def lH:T→List Int→List Int
 | .mk k n l,vs=>dy l (if k=1∧n∉vs then vs++[n] else vs)
def dy:List T→List Int→List Int
 | [],vs=>vs
 | x::r,vs=>dy r (lH x vs)
end
mutual
theorem uj:∀ (x:T) (vs:List Int),((lH x vs).length:Int)≤vs.length + x.sz
 | .mk k n l,vs=>by
   simp only [lH,T.sz]
   have:=x9 l (if k=1∧n∉vs then vs++[n] else vs)
   split at this
   ·rename_i h;rw [if_pos h];simp only [aaj,List.length_cons,List.length_nil] at this;omega
   ·rename_i h;rw [if_neg h];omega
theorem x9:∀ (l:List T) (vs:List Int),((dy l vs).length:Int)≤vs.length + lh l
 | [],vs=>by simp [dy,lh]
 | x::r,vs=>by
   simp only [dy,lh]
   have h1:=uj x vs
   have h2:=x9 r (lH x vs)
   omega
end
theorem vG {l:List T} {i:Nat} {vs:List Int} (h:i < l.length):dy (l.drop i) vs=dy (l.drop (i + 1)) (lH (l.getD i default) vs):=by
 rw [aaP h]
 simp [dy,h]
theorem sM {l:List T} {i:Nat} (h:i < l.length):lh (l.drop i)=(l.getD i default).sz + lh (l.drop (i + 1)):=by
 rw [aaP h]
 simp [lh,h]
theorem Z6 (H:List aa) (x:T) (vs:List Int) (hl:vs.length + x.sz≤1000000) :
 ax Tryz.prog 245 [x.av,.fn (.func 246) [] [.ai (.map (H.length + 1)),.ptr H.length 0]] (H++cU vs) fun r H'=>r=.tuple []∧H'=H++cU (lH x vs):=by
 have ih:∀ y∈x.l,∀ (vs:List Int),vs.length + y.sz≤1000000→ax Tryz.prog 245 [y.av,.fn (.func 246) [] [.ai (.map (H.length + 1)),.ptr H.length 0]] (H++cU vs) fun r H'=>r=.tuple []∧H'=H++cU (lH y vs):=
  fun y hy vs h=>Z6 H y vs h
 have e:lH x vs=dy x.l (Cm vs x):=by cases x;simp only [lH,Cm,T.k,T.n,T.l];rfl
 have es:x.sz=1 + lh x.l:=by cases x;simp only [T.sz,T.l]
 have X6:=gK x.l
 have ha:((Cm vs x).length:Int)≤vs.length + 1:=by
  unfold Cm;split
  ·simp only [aaj,List.length_cons,List.length_nil];omega
  ·omega
 refine Qn.2.calls rfl ?_
 simp only [Qn,aH]
 simp +contextual only [cU,sZ,Nat.reduceEqDiff,Nat.reduceAdd,↓reduceIte,reduceCtorEq]
 refine af (adW H x vs (by omega)) ?_
 rintro r H' ⟨rfl,rfl⟩
 simp +contextual only [cU,sZ,Nat.reduceEqDiff,↓reduceIte]
 intro FM
 refine aG x.l.length (fun i (s:List Int)=>(s.length:Int) + lh (x.l.drop i)≤1000000∧dy (x.l.drop i) s=lH x vs)
  (fun i s=>[(1,.fn (.func 246) [] [.ai (.map (H.length + 1)),.ptr H.length 0]),(10,.aj 0 (ca x.l)),(11,.int .i64 x.l.length),(12,.int .i64 i)]) (fun i s=>H++cU s) (Cm vs x) ⟨⟨by rw [List.drop_zero];omega,by rw [e];rfl⟩,aA _ _ _⟩ fun i s hi hI=>?_
 obtain ⟨k1,hI⟩:=hI
 simp +contextual only [cU,sZ,Nat.reduceEqDiff,Nat.reduceAdd,↓reduceIte,reduceCtorEq]
 refine ⟨fun aP=>⟨bA aP,?_⟩,fun iq=>?_⟩
 ·have aP:=bA aP
  rw [vG aP] at hI
  rw [sM aP] at k1
  have hp:=gK (x.l.drop (i + 1))
  refine af (ih _ (fM aP) s (by omega)) ?_
  rintro r H' ⟨rfl,rfl⟩
  simp +contextual only [cU,sZ,Nat.reduceEqDiff,↓reduceIte]
  have:=uj (x.l.getD i default) s
  exact ⟨i + 1,_,⟨aP,by omega,hI⟩,by omega,aD (by rw [aq i (by omega)]) rfl⟩
 ·rw [aaN (cc iq)] at hI
  rw [← hI]
  exact jJ (by simp [cU]) rfl
termination_by SizeOf.sizeOf x
decreasing_by exact T.lt hy
theorem ya (vs:List Int):(gX vs).ab.le (.aj 0 (ints vs)):=by
 cases vs with
 | nil=>exact .inr (.inr (.inr (.inl ⟨rfl,0,rfl⟩)))
 | cons v r=>exact le_refl _
theorem adX (l:List T) (hl:lh l≤1000000):Pure Tryz.prog 237 [.aj 0 (ca l)] (.aj 0 (ints (dy l []))):=by
 refine fun H=>Qm.2.calls rfl ?_
 simp only [Qm,aH]
 simp +contextual only [sZ,Nat.reduceEqDiff,Nat.reduceAdd,↓reduceIte,reduceCtorEq]
 intro FM
 refine aG l.length (fun i (s:List Int)=>(s.length:Int) + lh (l.drop i)≤1000000∧dy (l.drop i) s=dy l [])
  (fun i s=>[(3,.ptr H.length 0),(4,.ai (.map (H.length + 1))),(8,.aj 0 (ca l)),(9,.int .i64 l.length),(10,.int .i64 i)]) (fun i s=>H++cU s) [] ⟨⟨by rw [List.drop_zero,List.length_nil];omega,rfl⟩,aA _ _ _⟩ fun i s hi hI=>?_
 obtain ⟨k1,hI⟩:=hI
 simp +contextual only [cU,sZ,Nat.reduceEqDiff,Nat.reduceAdd,Nat.reduceLT,↓reduceIte,reduceCtorEq]
 refine ⟨fun aP=>⟨bA aP,?_⟩,fun iq=>?_⟩
 ·have aP:=bA aP
  rw [vG aP] at hI
  rw [sM aP] at k1
  have hp:=gK (l.drop (i + 1))
  refine af (Z6 H (l.getD i default) s (by omega)) ?_
  rintro r H' ⟨rfl,rfl⟩
  simp +contextual only [cU,sZ,Nat.reduceEqDiff,↓reduceIte]
  have:=uj (l.getD i default) s
  exact ⟨i + 1,_,⟨aP,by omega,hI⟩,by omega,aD (by rw [aq i (by omega)]) rfl⟩
 ·rw [aaN (cc iq)] at hI
  have:s=dy l []:=hI
  subst this
  refine ZX ?_ (by simp only [bM,aT])
  have e:(gX (dy l [])).ab.ab=(gX (dy l [])).ab:=by cases (dy l []) <;> rfl
  rw [e]
  exact ya _
theorem adY (l:List Int) (n:Int) (o:Nat):Pure Tryz.prog 249 [.aj o (ints l),.int .i64 n] (.bool (decide (n∈l))):=by
 refine fun H=>Zy.2.calls rfl ?_
 simp only [Zy,aH]
 simp +contextual only [sZ,Nat.reduceEqDiff,Nat.reduceAdd,↓reduceIte,reduceCtorEq]
 refine ay l.length (fun i=>decide (n∈l.drop i)=decide (n∈l)) (fun i=>[(0,.aj o (ints l)),(1,.int .i64 n),(5,.int .i64 i)]) (fun i=>H) ⟨rfl,aA _ _ _⟩ fun i hi hI=>?_
 simp +contextual only [sZ,Nat.reduceEqDiff,↓reduceIte,reduceCtorEq]
 intro _
 refine ⟨fun aP=>⟨bA aP,?_⟩,fun iq=>?_⟩
 ·have aP:=bA aP
  rw [aaP aP] at hI
  have eg:l.getD i 0=l[i]:=by simp [aP]
  rw [eg]
  refine ⟨fun he=>aM rfl (by rw [← hI,← he,decide_eq_true (aa2)]),fun he=>⟨i + 1,⟨aP,?_⟩,by omega,aD (by rw [aq i (by omega)]) rfl⟩⟩
  rw [← hI]
  have:¬ n=l[i]:=fun h=>he h.symm
  exact decide_eq_decide.2 (by rw [Xi];exact ⟨.inr,fun h=>h.resolve_left this⟩)
 ·rw [aaN (cc iq)] at hI
  exact aM rfl (by rw [← hI];simp)
mutual
def Lf:T→List Int→List Int
 | .mk k n l,vs=>if k=1 then (if n∈vs then vs else vs++[n]) else II l vs
def II:List T→List Int→List Int
 | [],vs=>vs
 | x::r,vs=>II r (Lf x vs)
end
mutual
theorem Co:∀ (x:T) (vs:List Int),((Lf x vs).length:Int)≤vs.length + x.sz
 | .mk k n l,vs=>by
   simp only [Lf,T.sz]
   have:=IJ l vs
   have:=gK l
   split
   ·split
    ·omega
    ·simp only [aaj,List.length_cons,List.length_nil];omega
   ·omega
theorem IJ:∀ (l:List T) (vs:List Int),((II l vs).length:Int)≤vs.length + lh l
 | [],vs=>by simp [II,lh]
 | x::r,vs=>by
   simp only [II,lh]
   have h1:=Co x vs
   have h2:=IJ r (Lf x vs)
   omega
end
mutual
theorem RC:∀ (x:T) (vs:List Int),x.shaped=true→lH x vs=Lf x vs
 | .mk k n l,vs,h=>by
   have h':=h
   rw [T.dD] at h
   simp only [T.k,T.n,T.l,zU,abX,aco,aeO] at h
   obtain ⟨⟨⟨⟨h1,h2⟩,h3⟩,h4⟩,h5⟩:=h
   simp only [lH,Lf]
   by_cases hk:k=1
   ·have hl:l=[]:=by
     rcases h2 with h2 | h2
     ·simp [hk] at h2
     ·cases l with
      | nil=>rfl
      | cons x r=>simp at h2
    subst hl
    simp only [dy,hk,true_and,if_true]
    by_cases hn:n∈vs <;> simp [hn]
   ·simp only [hk,false_and,if_false]
    exact sN l vs h5
theorem sN:∀ (l:List T) (vs:List Int),dU l=true→dy l vs=II l vs
 | [],vs,_=>rfl
 | x::r,vs,h=>by
   simp only [dU,zU] at h
   simp only [dy,II,RC x vs h.1]
   exact sN r _ h.2
end
theorem EE {l:List T} {i:Nat} {vs:List Int} (h:i < l.length):II (l.drop i) vs=II (l.drop (i + 1)) (Lf (l.getD i default) vs):=by
 rw [aaP h]
 simp [II,h]
theorem Z7 (H:List aa) (x:T) (vs:List Int) (hl:vs.length + x.sz≤1000000) :
 ax Tryz.prog 244 [x.av,.aj 1 (ints vs)] H fun r H'=>r=.aj 1 (ints (Lf x vs))∧H'=H:=by
 have ih:∀ y∈x.l,∀ (vs:List Int),vs.length + y.sz≤1000000→ax Tryz.prog 244 [y.av,.aj 1 (ints vs)] H fun r H'=>r=.aj 1 (ints (Lf y vs))∧H'=H:=
  fun y hy vs h=>Z7 H y vs h
 have e:Lf x vs=if x.k=1 then (if x.n∈vs then vs else vs++[x.n]) else II x.l vs:=by cases x;simp only [Lf,T.k,T.n,T.l];rfl
 have es:x.sz=1 + lh x.l:=by cases x;simp only [T.sz,T.l]
 have X6:=gK x.l
 refine Zv.2.calls rfl ?_
 simp only [Zv,aH]
 simp +contextual only [sZ,Nat.reduceEqDiff,Nat.reduceAdd,↓reduceIte,reduceCtorEq]
 refine ⟨fun hk=>?_,fun hk=>?_⟩
 ·refine ae (adY vs x.n 0) ?_
  by_cases hn:x.n∈vs
  ·rw [decide_eq_true hn]
   simp +contextual only [sZ,Nat.reduceEqDiff,↓reduceIte,reduceCtorEq]
   exact aM (by simp only [bM,aT]) (by rw [e,if_pos hk,if_pos hn])
  ·rw [decide_eq_false hn]
   simp +contextual only [sZ,Nat.reduceEqDiff,Nat.reduceAdd,↓reduceIte,reduceCtorEq]
   refine ⟨by omega,?_⟩
   exact aM (by simp only [bM,aT]) (by rw [e,if_pos hk,if_neg hn])
 ·refine aG x.l.length (fun i (s:List Int)=>(s.length:Int) + lh (x.l.drop i)≤1000000∧II (x.l.drop i) s=Lf x vs)
   (fun i s=>[(1,.aj 1 (ints s)),(2,x.av.ai),(5,.int .i64 i)]) (fun i s=>H) vs ⟨⟨by rw [List.drop_zero];omega,by rw [e,if_neg hk];rfl⟩,aA _ _ _⟩ fun i s hi hI=>?_
  obtain ⟨k1,hI⟩:=hI
  simp +contextual only [sZ,Nat.reduceEqDiff,Nat.reduceAdd,↓reduceIte,reduceCtorEq]
  intro _
  refine ⟨fun aP=>⟨bA aP,?_⟩,fun iq=>?_⟩
  ·have aP:=bA aP
   rw [EE aP] at hI
   rw [sM aP] at k1
   have hp:=gK (x.l.drop (i + 1))
   refine af (ih _ (fM aP) s (by omega)) ?_
   rintro r H' ⟨rfl,rfl⟩
   simp +contextual only [sZ,Nat.reduceEqDiff,↓reduceIte]
   have:=Co (x.l.getD i default) s
   exact ⟨i + 1,_,⟨aP,by omega,hI⟩,by omega,aD (by rw [aq i (by omega)]) rfl⟩
  ·rw [aaN (cc iq)] at hI
   exact aM (by simp only [bM,aT]) (by rw [← hI];rfl)
termination_by SizeOf.sizeOf x
decreasing_by exact T.lt hy
def eS (l:List T):List Int:=if kY l=true then II l [] else []
theorem Z8 (l:List T) (hl:lh l≤1000000):Pure Tryz.prog 235 [.aj 0 (ca l)] (.aj 0 (ints (eS l))):=by
 refine fun H=>Zp.2.calls rfl ?_
 simp only [Zp,aH]
 simp +contextual only [sZ,Nat.reduceAdd,↓reduceIte,reduceCtorEq]
 refine ae (adV l) ?_
 cases hb:kY l with
 | false=>
   simp +contextual only [sZ,Nat.reduceEqDiff,↓reduceIte,reduceCtorEq]
   exact aM rfl (by simp [eS,hb,ints])
 | true=>
   simp +contextual only [sZ,Nat.reduceEqDiff,↓reduceIte,reduceCtorEq]
   refine aG l.length (fun i (s:List Int)=>(s.length:Int) + lh (l.drop i)≤1000000∧II (l.drop i) s=eS l)
    (fun i s=>[(0,.aj 0 (ca l)),(3,.aj 1 (ints s)),(4,.int .i64 i)]) (fun i s=>H) [] ⟨⟨by rw [List.drop_zero,List.length_nil];omega,by rw [eS,if_pos hb];rfl⟩,aA _ _ _⟩ fun i s hi hI=>?_
   obtain ⟨k1,hI⟩:=hI
   simp +contextual only [sZ,Nat.reduceEqDiff,Nat.reduceAdd,↓reduceIte,reduceCtorEq]
   intro _
   refine ⟨fun aP=>⟨bA aP,?_⟩,fun iq=>?_⟩
   ·have aP:=bA aP
    rw [EE aP] at hI
    rw [sM aP] at k1
    have hp:=gK (l.drop (i + 1))
    refine af (Z7 H (l.getD i default) s (by omega)) ?_
    rintro r H' ⟨rfl,rfl⟩
    simp +contextual only [sZ,Nat.reduceEqDiff,↓reduceIte,reduceCtorEq]
    have:=Co (l.getD i default) s
    exact ⟨i + 1,_,⟨aP,by omega,hI⟩,by omega,aD (by rw [aq i (by omega)]) rfl⟩
   ·rw [aaN (cc iq)] at hI
    exact aM (by simp only [bM,aT]) (by rw [← hI];rfl)
end Go.aI
end
section
set_option maxRecDepth 100000
namespace Go.aI
open Go Go.Proofs
mutual
def Z9 (f:Int→T):T→T
 | .mk k n l=>if k=1 then f n else .mk k n (Ts f l)
def Ts (f:Int→T):List T→List T
 | []=>[]
 | x::r=>Z9 f x::Ts f r
end
def uk:List T→AV
 | []=>.ag
 | v::r=>.aj 3 (ca (v::r))
theorem Nh (l:List T) (x:T):ca l++[x.av]=ca (l++[x]):=by simp [nL]
theorem KC (vs:List T) (n:T):AV.aj 3 (ca (vs++[n]))=uk (vs++[n]):=by
 cases vs <;> rfl
theorem RE (b:Nat) (vs:List T) (n:T) (o:Nat) (ψ:List AV→Prop):bw 3 b (uk vs) (.aj o [n.av]) ψ=((vs.length + 1) * b≤140737488355328∧ψ (ca (vs++[n]))):=by
 cases vs with
 | nil=>simp [uk,lE,V7,ca]
 | cons v r=>
   show bw 3 b (.aj 3 (ca (v::r))) _ ψ=_
   rw [j3,V7,sK,Nh]
   simp
theorem iw {x:T} (h:x.shaped=true):x.l.length≤8∧∀ y∈x.l,y.shaped=true:=by
 rw [x.dD,zU,abX,aco] at h
 have h1:=h.1.2
 have h2:=h.2
 rw [lG] at h2
 exact ⟨by simpa using h1,fun y hy=>aaO.1 h2 y hy⟩
end Go.aI
end
section
set_option maxRecDepth 100000
namespace Go.aI
open Go Go.Proofs
end Go.aI
end
section
set_option maxRecDepth 100000
namespace Go.aI
open Go Go.RowKit
mutual
def T.wf:T→Prop
 | .mk k n l=>(-9223372036854775808≤k∧k≤9223372036854775807)∧(-9223372036854775808≤n∧n≤9223372036854775807)∧l.length≤9223372036854775807∧Xx l
def Xx:List T→Prop
 | []=>True
 | x::r=>x.wf∧Xx r
end
theorem IK:∀ l:List T,Xx l↔∀ x∈l,x.wf
 | []=>by simp [Xx]
 | x::r=>by simp [Xx,IK r]
section
variable {H:Type} {enc:TypeId×Value→H} {P:Program} {w:World} {base:Nat} {sp:Nat→Bool} {held:Bool}
structure nQ (P:Program) (ti tt tl:TypeId):Prop where
 int:P.underlying ti=some (.int .i64)
 tree:∃ f0 f1 f2:Field,P.underlying tt=some (.struct #[f0,f1,f2])∧f0.type=ti∧f0.offset=0∧f1.type=ti∧f1.offset=1∧f2.type=tl∧f2.offset=2
 list:P.underlying tl=some (.slice tt)
 c1:P.cellsOf ti=1
 c3:P.cellsOf tt=3
 cl:P.cellsOf tl=1
theorem Ni {n:Int} (h:(Lit.int .i64 n).wf=true):-9223372036854775808≤n∧n≤9223372036854775807:=by
 simp only [Lit.wf,zU,decide_eq_true_eq] at h
 revert h
 simp [IntKind.has,IntKind.min,IntKind.max,IntKind.signed,IntKind.bits]
theorem Hg {n:Nat} {p:Nat→T→Prop} (h:∀ i,i < n→∃ t,p i t):∃ f:Nat→T,∀ i,i < n→p i (f i):=by
 refine ⟨fun i=>if hi:i < n then Classical.choose (h i hi) else default,fun i hi=>?_⟩
 simp only [dif_pos hi]
 exact Classical.choose_spec (h i hi)
def isT (w:World) (cs:List Value) (t:T):Prop:=aN (eH w) [] cs t.av.cells∧t.wf
def Wd (w:World) (cs:List Value) (l:List T):Prop:=(∃ v,cs=[v]∧(∃ y,aZ (eH w) [] v y∧(y=.aj 0 (ca l)∨(y=.ag∧l=[]))))∧l.length≤9223372036854775807∧Xx l
theorem Wd.rep {cs:List Value} {l:List T} (h:Wd w cs l):∃ v,cs=[v]∧aZ (eH w) [] v (.aj 0 (ca l)):=by
 obtain ⟨⟨v,rfl,y,hr,hy⟩,_⟩:=h
 refine ⟨v,rfl,?_⟩
 rcases hy with rfl | ⟨rfl,rfl⟩
 ·exact hr
 ·exact hr.drop
def Tv (d:DataW H) (l:List T):Prop:=match d with | .slice es _=>l.length=es.length | _=>l=[]
theorem KD {ti tt tl:TypeId} (hT:nQ P ti tt tl):∀ (fuel:Nat),
 (∀ (cs:List Value) (x:DataW H×List MemPlace),DataW.trod enc P w base sp held fuel tt cs=some x→∃ t:T,isT w cs t)∧
 (∀ (cs:List Value) (x:DataW H×List MemPlace),DataW.trod enc P w base sp held fuel tl cs=some x→∃ l:List T,Wd w cs l∧Tv x.1 l):=by
 intro fuel
 induction fuel with
 | zero=>exact ⟨fun cs x h=>by simp [DataW.trod] at h,fun cs x h=>by simp [DataW.trod] at h⟩
 | succ n ih=>
   refine ⟨fun cs x h=>?_,fun cs x h=>?_⟩
   ·obtain ⟨f0,f1,f2,hu,h0,o0,h1,o1,h2,o2⟩:=hT.tree
    obtain ⟨xs,m,hm,rfl,hlen,eR,hf⟩:=DataW.trod_struct hu h
    cases hm
    have g0:=hf 0 f0 rfl
    have g1:=hf 1 f1 rfl
    have g2:=hf 2 f2 rfl
    rw [h0,o0,hT.c1] at g0
    rw [h1,o1,hT.c1] at g1
    rw [h2,o2,hT.cl] at g2
    simp at eR
    rw [hT.c3] at hlen
    match cs,hlen with
    | [a,b,c],_=>
      have e0:xs[0]?=some xs[0]:=by simp [eR]
      have e1:xs[1]?=some xs[1]:=by simp [eR]
      have e2:xs[2]?=some xs[2]:=by simp [eR]
      rw [e0] at g0;rw [e1] at g1;rw [e2] at g2
      obtain ⟨k,ek,_,wk⟩:=DataW.trod_int hT.int g0
      obtain ⟨q,eq,_,wq⟩:=DataW.trod_int hT.int g1
      obtain ⟨l,hl,_⟩:=ih.2 _ _ g2
      obtain ⟨v,ev,hv⟩:=hl.rep
      simp at ek eq ev
      subst ek eq ev
      exact ⟨.mk k q l,.cons _ _ _ _ (.int _ _) (.cons _ _ _ _ (.int _ _) (.cons _ _ _ _ hv .nil)),Ni wk,Ni wq,hl.2.1,hl.2.2⟩
   ·rcases DataW.trod_slice hT.list h with ⟨rfl,rfl⟩ | ⟨a,len,cap,elems,rest,m,hm,rfl,rfl,hb,hle,cr,K6,kI,_,_⟩
    ·exact ⟨[],⟨⟨_,rfl,.ag,.ag,.inr ⟨rfl,rfl⟩⟩,by simp,trivial⟩,rfl⟩
    cases hm
    rw [hT.c3] at kI
    have hex:∀ i,i < len→∃ t:T,∃ cs',w.cells? base (a.add (i * 3)) 3=some cs'∧isT w cs' t:=by
     intro i hi
     have:=kI i hi
     rw [T1 (by omega)] at this
     obtain ⟨cs',k1,k2⟩:=Option.bind_eq_some_iff.1 this
     obtain ⟨t,ht⟩:=ih.1 _ _ k2
     exact ⟨t,cs',k1,ht⟩
    obtain ⟨f,hf⟩:=Hg hex
    have Xl:maxLen=9223372036854775807:=rfl
    refine ⟨(List.range len).map f,⟨⟨_,rfl,_,?_,.inl rfl⟩,by simp;omega,?_⟩,by simp [Tv,K6]⟩
    ·rw [nL,ac0]
     refine Ax (e:=3) (base:=base) (by decide) hle cr (fun i=>if hi:i < len then Classical.choose (hf i hi) else []) _ fun i hi=>?_
     simp only [dif_pos hi]
     obtain ⟨k1,k2⟩:=Classical.choose_spec (hf i hi)
     exact ⟨k1,k2.1⟩
    ·rw [IK]
     intro x hx
     obtain ⟨i,hi,rfl⟩:=aan.1 hx
     obtain ⟨cs',_,k2⟩:=hf i (acf.1 hi)
     exact k2.2
end
end Go.aI
end
section
end
section
set_option maxRecDepth 100000
namespace Go.aI
open Go Go.Proofs
mutual
def T.fv:T→List Int
 | .mk k n l=>if k=1 then n::RF l else RF l
def RF:List T→List Int
 | []=>[]
 | x::r=>x.fv++RF r
end
mutual
theorem KE:∀ (x:T) (vs:List Int) (v:Int),v∈lH x vs↔v∈vs∨v∈x.fv
 | .mk k n l,vs,v=>by
   simp only [lH,T.fv]
   rw [rn l _ v]
   by_cases hk:k=1
   ·by_cases hn:n∈vs
    ·simp only [hk,hn,not_true_eq_false,and_false,if_false,if_true,Xi]
     constructor
     ·rintro (h | h)
      ·exact .inl h
      ·exact .inr (.inr h)
     ·rintro (h | h | h)
      ·exact .inl h
      ·subst h;exact .inl hn
      ·exact .inr h
    ·simp only [hk,hn,not_false_eq_true,and_self,if_true,abZ,Xi,abr,or_false,or_assoc]
   ·simp only [hk,false_and,if_false]
theorem rn:∀ (l:List T) (vs:List Int) (v:Int),v∈dy l vs↔v∈vs∨v∈RF l
 | [],vs,v=>by simp [dy,RF]
 | x::r,vs,v=>by
   simp only [dy,RF,abZ]
   rw [rn r _ v,KE x vs v,or_assoc]
end
end Go.aI
end
section
set_option maxRecDepth 100000
namespace Go.aI
open Go Go.Proofs
def AH (t:T):Int×Int:=if t.sz≤2000∧t.dp≤200 then (t.sz,t.dp) else (2001,201)
theorem adZ (t:T):(¬ fh (gW t 1 (0,0))↔t.sz≤2000∧t.dp≤200)∧(¬ fh (gW t 1 (0,0))→gW t 1 (0,0)=(t.sz,t.dp)):=by
 have h:=uh t 1 (0,0) (by unfold qJ;simp)
 have hd:=t.Ck
 refine ⟨h.1.trans ⟨fun k=>⟨by omega,by omega⟩,fun k=>⟨by simp only;omega,by omega⟩⟩,fun k=>?_⟩
 have:=h.2 k
 exact Prod.ext (by simpa using this.1) (by have:=this.2;simp only at this ⊢;omega)
theorem ai3 (t:T):Pure Tryz.prog 122 [t.av] (.tuple [.int .i64 (AH t).1,.int .i64 (AH t).2]):=by
 refine fun H=>Yo.2.calls rfl ?_
 simp only [Yo,aH]
 simp +contextual only [sZ,Nat.reduceEqDiff,Nat.reduceAdd,↓reduceIte,reduceCtorEq]
 refine af (Wb H t 1 (0,0) (by unfold qJ;simp)) ?_
 rintro r H' ⟨rfl,rfl⟩
 simp +contextual only [sZ,Nat.reduceEqDiff,Nat.reduceAdd,↓reduceIte]
 refine af (Z0 H (gW t 1 (0,0))) ?_
 rintro r H' ⟨rfl,rfl⟩
 have h0:=adZ t
 cases hb:vF (gW t 1 (0,0)) with
 | true=>
   have hn:¬ (t.sz≤2000∧t.dp≤200):=fun h=>h0.1.2 h ((ui _).1 hb)
   simp +contextual only [fm,sZ,Nat.reduceEqDiff,↓reduceIte,reduceCtorEq]
   exact xW (by decide) rfl rfl (by rw [AH,if_neg hn];rfl) (by rw [AH,if_neg hn];rfl)
 | false=>
   have hn:¬ fh (gW t 1 (0,0)):=fun h=>by rw [(ui _).2 h] at hb;cases hb
   have h1:=h0.1.1 hn
   rw [h0.2 hn]
   simp +contextual only [fm,sZ,Nat.reduceEqDiff,Nat.reduceAdd,Nat.reduceLT,↓reduceIte,reduceCtorEq]
   exact xW (by decide) rfl rfl (by rw [AH,if_pos h1];rfl) (by rw [AH,if_pos h1];rfl)
theorem ad0 (a b:List Int) (o o':Nat):Pure Tryz.prog 198 [.aj o (ints a),.aj o' (ints b)] (.bool (decide (a=b))):=by
 refine fun H=>Y1.2.calls rfl ?_
 simp only [Y1,aH]
 simp +contextual only [sZ,Nat.reduceEqDiff,Nat.reduceAdd,↓reduceIte,reduceCtorEq]
 refine fun _ _=>⟨fun dP=>aM rfl ?_,fun hl=>?_⟩
 ·rw [decide_eq_false]
  intro h;subst h;exact dP rfl
 have hl:a.length=b.length:=by omega
 refine ay a.length (fun i=>decide (a.drop i=b.drop i)=decide (a=b)) (fun i=>[(0,.aj o (ints a)),(1,.aj o' (ints b)),(5,.int .i64 i)]) (fun i=>H) ⟨rfl,aA _ _ _⟩ fun i hi hI=>?_
 simp +contextual only [sZ,Nat.reduceEqDiff,↓reduceIte,reduceCtorEq]
 intro _
 refine ⟨fun aP=>⟨bA aP,?_⟩,fun iq=>?_⟩
 ·have aP:=bA aP
  have We:i < b.length:=by omega
  rw [aaP aP,aaP We] at hI
  have e1:a.getD i 0=a[i]:=by simp [aP]
  have e2:b.getD i 0=b[i]:=by simp [We]
  rw [e1,e2]
  refine ⟨We,fun dP=>aM rfl ?_,fun he=>⟨i + 1,⟨aP,?_⟩,by omega,aD (by rw [aq i (by omega)]) rfl⟩⟩
  ·rw [← hI,decide_eq_false]
   intro h;exact dP (List.cons.inj h).1
  ·rw [← hI,he]
   exact decide_eq_decide.2 (by rw [List.cons.injEq];simp only [true_and])
 ·have iq:=cc iq
  rw [aaN iq,aaN (by omega)] at hI
  exact aM rfl (by rw [← hI];rfl)
theorem aaa (l:List T):eS l=if kY l=true then dy l [] else []:=by
 unfold eS
 split
 ·rename_i h
  rw [sN l []]
  rw [lG,aaO]
  intro x hx
  exact ((T.dg x).1 (aaO.1 h x hx)).2.2
 ·rfl
theorem aab (l:List T) (hl:lh l≤1000000):Pure Tryz.prog 219 [.aj 0 (ca l)] (.aj 0 (ints (eS l))):=by
 refine fun H=>Qj.2.calls rfl ?_
 simp only [Qj,aH]
 simp +contextual only [sZ,Nat.reduceAdd,↓reduceIte,reduceCtorEq]
 refine ae (adT l) ?_
 cases hb:kY l with
 | false=>
   simp +contextual only [acg,sZ,↓reduceIte,reduceCtorEq,Int.reduceEq]
   exact ZW (by rw [eS,hb];exact .inr (.inr (.inr (.inl ⟨rfl,0,rfl⟩)))) (by simp only [bM,aT])
 | true=>
   simp +contextual only [sZ,Nat.reduceAdd,↓reduceIte,reduceCtorEq]
   refine ae (adX l hl) ?_
   simp +contextual only [sZ,↓reduceIte,reduceCtorEq]
   exact aM (by simp only [bM,aT]) (by rw [aaa,if_pos hb])
theorem Cp (l:List T):qQ 3 (ca l)=True:=by
 simp only [qQ,eq_iff_iff,iff_true]
 intro y hy
 rw [nL] at hy
 obtain ⟨z,_,rfl⟩:=aan.1 hy
 exact ⟨z.iU,z.rj⟩
end Go.aI
end
section
set_option maxRecDepth 100000
namespace Go.aI
open Go Go.Proofs
def sub (l:List T) (t:T):T:=Z9 (fun n=>l.getD n.toNat default) t
end Go.aI
end
section
namespace Go.dV
open Go.aI
mutual
def code:T→List Int
 | .mk k n l=>k::n::(l.length:Int)::AI l
def AI:List T→List Int
 | []=>[]
 | x::r=>code x++AI r
end
mutual
theorem EF:∀ (a b:T) (r s:List Int),code a++r=code b++s→a=b∧r=s
 | .mk k n l,.mk k' n' l',r,s,h=>by
   simp only [code,List.cons_append,List.cons.injEq] at h
   obtain ⟨h1,h2,h3,h4⟩:=h
   obtain ⟨h5,h6⟩:=AJ l l' r s (by omega) h4
   exact ⟨by rw [h1,h2,h5],h6⟩
theorem AJ:∀ (l m:List T) (r s:List Int),l.length=m.length→AI l++r=AI m++s→l=m∧r=s
 | [],[],r,s,_,h=>⟨rfl,by simpa [AI] using h⟩
 | x::l,y::m,r,s,hl,h=>by
   simp only [AI,aa6] at h
   obtain ⟨h1,h2⟩:=EF x y _ _ h
   obtain ⟨h3,h4⟩:=AJ l m r s (by simpa using hl) h2
   exact ⟨by rw [h1,h3],h4⟩
 | [],_::_,_,_,h,_=>by simp at h
 | _::_,[],_,_,h,_=>by simp at h
end
theorem IM {a b:T} (h:code a=code b):a=b:=(EF a b [] [] (by rw [h])).1
instance:DecidableEq T:=fun a b=>decidable_of_iff (code a=code b) ⟨IM,fun h=>by rw [h]⟩
def C9 (a b:T):Prop:=code a≤code b
instance (a b:T):Decidable (C9 a b):=inferInstanceAs (Decidable (code a≤code b))
theorem EG {a b:T} (h1:C9 a b) (h2:C9 b a):a=b:=IM (List.le_antisymm h1 h2)
theorem AK (a b:T):C9 a b∨C9 b a:=List.le_total _ _
theorem AL {a b c:T} (h1:C9 a b) (h2:C9 b c):C9 a c:=List.le_trans h1 h2
def ins (x:T):List T→List T
 | []=>[x]
 | y::r=>if C9 x y then x::y::r else y::ins x r
def zB:List T→List T
 | []=>[]
 | x::r=>ins x (zB r)
theorem EH (x:T):∀ l,(ins x l).Perm (x::l)
 | []=>List.Perm.refl _
 | y::r=>by
   simp only [ins]
   split
   ·exact List.Perm.refl _
   ·exact ((EH x r).cons y).trans (List.Perm.swap _ _ _)
theorem mF:∀ l,(zB l).Perm l
 | []=>List.Perm.refl _
 | x::r=>(EH x _).trans ((mF r).cons x)
theorem EI (x y:T):∀ l,ins x (ins y l)=ins y (ins x l)
 | []=>by
   simp only [ins]
   by_cases h1:C9 x y <;> by_cases h2:C9 y x <;> simp only [h1,h2,if_true,if_false,ins]
   ·rw [EG h1 h2]
   ·rcases AK x y with h | h
    ·exact absurd h h1
    ·exact absurd h h2
 | z::r=>by
   simp only [ins]
   by_cases hx:C9 x z <;> by_cases hy:C9 y z <;> simp only [hx,hy,if_true,if_false,ins]
   ·by_cases h1:C9 x y <;> by_cases h2:C9 y x <;> simp only [h1,h2,hx,hy,if_true,if_false,ins]
    ·rw [EG h1 h2]
    ·rcases AK x y with h | h
     ·exact absurd h h1
     ·exact absurd h h2
   ·have h2:¬ C9 y x:=fun h=>hy (AL h hx)
    simp only [h2,hy,if_false,ins]
   ·have h2:¬ C9 x y:=fun h=>hx (AL h hy)
    simp only [h2,hx,if_false,ins]
   ·rw [EI x y r]
theorem Wf {l m:List T} (h:l.Perm m):zB l=zB m:=by
 induction h with
 | nil=>rfl
 | cons x _ ih=>simp only [zB,ih]
 | swap x y l=>simp only [zB];exact EI _ _ _
 | trans _ _ h1 h2=>rw [h1,h2]
theorem IN {l m:List T}:zB l=zB m↔l.Perm m:=⟨fun h=>(mF l).symm.trans (h ▸ mF m),Wf⟩
theorem RG {x:T} {l:List T}:x∈zB l↔x∈l:=(mF l).mem_iff
mutual
def wt:T→Nat
 | .mk _ _ l=>1 + fN l
def fN:List T→Nat
 | []=>0
 | x::r=>wt x + fN r
end
theorem IP {x:T}:∀ {l:List T},x∈l→wt x≤fN l
 | y::r,h=>by
   simp only [fN]
   rcases Xi.1 h with rfl | h
   ·omega
   ·have:=IP h;omega
theorem dH (a:T):0 < wt a:=by cases a;simp only [wt];omega
theorem cu {a x:T} (h:x∈a.l):wt x < wt a:=by
 cases a with
 | mk k n l=>have:=IP (l:=l) h;simp only [wt];omega
structure Od where
 pl:Int→Int
 sp:Int→Int
mutual
def norm (O:Od):T→T
 | .mk k n l=>if k=2 then .mk 2 (O.pl n) (if O.sp (O.pl n)=3 then zB (EJ O l) else EJ O l) else .mk 1 n []
def EJ (O:Od):List T→List T
 | []=>[]
 | x::r=>norm O x::EJ O r
end
theorem AM (O:Od):∀ l,EJ O l=l.map (norm O)
 | []=>rfl
 | x::r=>by simp [EJ,AM O r]
def Lx (G:T→T→Prop):List T→List T→Prop
 | [],_=>False
 | _::_,[]=>True
 | x::l,y::m=>x=y∧Lx G l m∨G x y
def side (s:Int) (l:List T):List T:=if s=2 then l.reverse else l
def Mu (G:T→T→Prop) (l m:List T):Prop:=
 (∃ x∈l,m.count x < l.count x)∧∀ y∈m,l.count y < m.count y→∃ x∈l,m.count x < l.count x∧G x y
def Fm (sp:Int→Int) (G:T→T→Prop) (a b:T):Prop:=
 a.k=2∧((∃ x∈a.l,x=b∨G x b)∨b.k=2∧(
  (b.n < a.n∧∀ y∈b.l,G a y)∨
  (b.n=a.n∧sp a.n≠3∧(∀ y∈b.l,G a y)∧Lx G (side (sp a.n) a.l) (side (sp a.n) b.l))∨
  (b.n=a.n∧sp a.n=3∧Mu G a.l b.l)))
theorem mG {s:Int} {l:List T} {x:T}:x∈side s l↔x∈l:=by unfold side;split <;> simp
theorem EK {G G':T→T→Prop}:∀ {l m:List T},(∀ x∈l,∀ y∈m,(G x y↔G' x y))→(Lx G l m↔Lx G' l m)
 | [],_,_=>Iff.rfl
 | _::_,[],_=>Iff.rfl
 | x::l,y::m,h=>by
   simp only [Lx]
   rw [EK (fun x hx y hy=>h x (aaK _ hx) y (aaK _ hy)),h x aa2 y aa2]
theorem EL {sp:Int→Int} {G G':T→T→Prop} {a b:T} (h1:∀ x∈a.l,(G x b↔G' x b)) (h2:∀ y∈b.l,(G a y↔G' a y)) (h3:∀ x∈a.l,∀ y∈b.l,(G x y↔G' x y)) :
 Fm sp G a b↔Fm sp G' a b:=by
 have e1:(∃ x∈a.l,x=b∨G x b)↔(∃ x∈a.l,x=b∨G' x b):=⟨fun ⟨x,hx,h⟩=>⟨x,hx,by rwa [← h1 x hx]⟩,fun ⟨x,hx,h⟩=>⟨x,hx,by rwa [h1 x hx]⟩⟩
 have e2:(∀ y∈b.l,G a y)↔(∀ y∈b.l,G' a y):=⟨fun h y hy=>(h2 y hy).1 (h y hy),fun h y hy=>(h2 y hy).2 (h y hy)⟩
 have e3:Lx G (side (sp a.n) a.l) (side (sp a.n) b.l)↔Lx G' (side (sp a.n) a.l) (side (sp a.n) b.l):=EK fun x hx y hy=>h3 x (mG.1 hx) y (mG.1 hy)
 have e4:Mu G a.l b.l↔Mu G' a.l b.l:=by
  unfold Mu
  refine and_congr Iff.rfl ⟨fun h y hy hc=>?_,fun h y hy hc=>?_⟩ <;> obtain ⟨x,hx,JK,hg⟩:=h y hy hc
  ·exact ⟨x,hx,JK,(h3 x hx y hy).1 hg⟩
  ·exact ⟨x,hx,JK,(h3 x hx y hy).2 hg⟩
 unfold Fm
 rw [e1,e2,e3,e4]
def O7 (sp:Int→Int):Nat→T→T→Prop
 | 0=>fun _ _=>False
 | f + 1=>Fm sp (O7 sp f)
def Gt (sp:Int→Int) (a b:T):Prop:=O7 sp (wt a + wt b) a b
theorem gY (sp:Int→Int):∀ (f g:Nat) (a b:T),wt a + wt b≤f→wt a + wt b≤g→(O7 sp f a b↔O7 sp g a b)
 | 0,_,a,b,h,_=>by have:=dH a;omega
 | _ + 1,0,a,b,_,h=>by have:=dH a;omega
 | f + 1,g + 1,a,b,h1,h2=>by
   simp only [O7]
   refine EL (fun x hx=>?_) (fun y hy=>?_) (fun x hx y hy=>?_)
   ·have:=cu hx;exact gY sp f g x b (by omega) (by omega)
   ·have:=cu hy;exact gY sp f g a y (by omega) (by omega)
   ·have:=cu hx;have:=cu hy;exact gY sp f g x y (by omega) (by omega)
theorem yb {sp:Int→Int} {a b:T}:Gt sp a b↔Fm sp (Gt sp) a b:=by
 have e:O7 sp (wt a + wt b) a b↔O7 sp (wt a + wt b + 1) a b:=gY sp _ _ a b (by omega) (by omega)
 unfold Gt
 rw [e]
 show Fm sp (O7 sp (wt a + wt b)) a b↔_
 refine EL (fun x hx=>?_) (fun y hy=>?_) (fun x hx y hy=>?_)
 ·have:=cu hx;exact gY sp _ _ x b (by omega) (by omega)
 ·have:=cu hy;exact gY sp _ _ a y (by omega) (by omega)
 ·have:=cu hx;have:=cu hy;exact gY sp _ _ x y (by omega) (by omega)
section
variable {sp:Int→Int}
theorem AN {a b:T} (h:Gt sp a b):a.k=2:=(yb.1 h).1
theorem rp {a b x:T} (ha:a.k=2) (hx:x∈a.l) (h:x=b∨Gt sp x b):Gt sp a b:=yb.2 ⟨ha,.inl ⟨x,hx,h⟩⟩
theorem ol {l m:List T} {x:T} (h:m.count x < l.count x):x∈l:=acj.1 (by omega)
theorem sO {a b:T} (h:Gt sp a b):(∃ x∈a.l,x=b∨Gt sp x b)∨b.k=2∧(∀ y∈b.l,Gt sp a y)∧(
 b.n < a.n∨(b.n=a.n∧sp a.n≠3∧Lx (Gt sp) (side (sp a.n) a.l) (side (sp a.n) b.l))∨(b.n=a.n∧sp a.n=3∧Mu (Gt sp) a.l b.l)):=by
 obtain ⟨ha,h | ⟨hb,h | h | h⟩⟩:=yb.1 h
 ·exact .inl h
 ·exact .inr ⟨hb,h.2,.inl h.1⟩
 ·exact .inr ⟨hb,h.2.2.1,.inr (.inl ⟨h.1,h.2.1,h.2.2.2⟩)⟩
 ·refine .inr ⟨hb,fun y hy=>?_,.inr (.inr h)⟩
  obtain ⟨_,_,_,h2⟩:=h
  by_cases hc:a.l.count y < b.l.count y
  ·obtain ⟨x,hx,_,hg⟩:=h2 y hy hc
   exact rp ha hx (.inr hg)
  ·have:0 < b.l.count y:=acj.2 hy
   exact rp ha (acj.1 (by omega)) (.inl rfl)
theorem aac {a b:T} (ha:a.k=2) (hb:b.k=2) (h1:∀ y∈b.l,Gt sp a y) (h2:b.n < a.n∨(b.n=a.n∧sp a.n≠3∧Lx (Gt sp) (side (sp a.n) a.l) (side (sp a.n) b.l))∨(b.n=a.n∧sp a.n=3∧Mu (Gt sp) a.l b.l)):Gt sp a b:=by
 refine yb.2 ⟨ha,.inr ⟨hb,?_⟩⟩
 rcases h2 with h | h | h
 ·exact .inl ⟨h,h1⟩
 ·exact .inr (.inl ⟨h.1,h.2.1,h1,h.2.2⟩)
 ·exact .inr (.inr h)
theorem RH:∀ {a b y:T},Gt sp a b→b.k=2→y∈b.l→Gt sp a y:=by
 intro a
 induction h:wt a using Nat.strongRecOn generalizing a with
 | _ n ih=>
   intro b y tw hb hy
   rcases sO tw with ⟨x,hx,rfl | hg⟩ | ⟨_,h1,_⟩
   ·exact rp (AN tw) hx (.inr (rp hb hy (.inl rfl)))
   ·exact rp (AN tw) hx (.inr (ih _ (by have:=cu hx;omega) rfl hg hb hy))
   ·exact h1 y hy
theorem Nj {G:T→T→Prop}:∀ {l:List T},Lx G l l→∃ x∈l,G x x
 | x::l,h=>by
   rcases h with ⟨_,h⟩ | h
   ·obtain ⟨y,hy,hg⟩:=Nj h;exact ⟨y,aaK _ hy,hg⟩
   ·exact ⟨x,aa2,h⟩
theorem yc:∀ a:T,¬ Gt sp a a:=by
 intro a
 induction h:wt a using Nat.strongRecOn generalizing a with
 | _ n ih=>
   intro hg
   rcases sO hg with ⟨x,hx,rfl | RI⟩ | ⟨_,_,h1 | ⟨_,_,h1⟩ | ⟨_,_,h1⟩⟩
   ·have:=cu hx;omega
   ·exact ih (wt x) (by have:=cu hx;omega) x rfl (RH RI (AN hg) hx)
   ·omega
   ·obtain ⟨x,hx,RI⟩:=Nj h1
    have hx:=mG.1 hx
    exact ih (wt x) (by have:=cu hx;omega) x rfl RI
   ·obtain ⟨⟨x,_,hx⟩,_⟩:=h1;omega
theorem Nk {G:T→T→Prop} {S:List T} (irr:∀ x∈S,¬ G x x) (tr:∀ x∈S,∀ y∈S,∀ z∈S,G x y→G y z→G x z) (P:T→Prop)
 (step:∀ z∈S,(∀ x∈S,G x z→P x)→P z):∀ z∈S,P z:=by
 classical
 intro z
 induction h:S.countP (fun w=>decide (G w z)) using Nat.strongRecOn generalizing z with
 | _ n ih=>
   intro hz
   refine step z hz fun x hx hg=>ih (S.countP fun w=>decide (G w x)) ?_ x rfl hx
   subst h
   have key:∀ (l:List T),(∀ w∈l,w∈S)→l.countP (fun w=>decide (G w x))≤l.countP (fun w=>decide (G w z))∧(x∈l→l.countP (fun w=>decide (G w x)) < l.countP (fun w=>decide (G w z))):=by
    intro l
    induction l with
    | nil=>intro _;exact ⟨tv _,fun h=>by cases h⟩
    | cons w l ihl=>
      intro hl
      obtain ⟨i1,i2⟩:=ihl fun w hw=>hl w (aaK _ hw)
      have hw:=hl w aa2
      by_cases h1:G w x
      ·have h2:G w z:=tr w hw x hx z hz h1 hg
       have dP:x≠w:=fun e=>irr x hx (by rw [← e] at h1;exact h1)
       simp only [afa,h1,h2,decide_true,if_true]
       refine ⟨by omega,fun hm=>?_⟩
       rcases Xi.1 hm with e | hm
       ·exact absurd e dP
       ·have:=i2 hm;omega
      ·by_cases h2:G w z
       ·simp only [afa,h1,h2,decide_true,decide_false,if_true]
        refine ⟨by simp;omega,fun _=>by simp;omega⟩
       ·have dP:x≠w:=fun e=>h2 (e ▸ hg)
        simp only [afa,h1,h2,decide_false]
        refine ⟨by simpa using i1,fun hm=>?_⟩
        rcases Xi.1 hm with e | hm
        ·exact absurd e dP
        ·simpa using i2 hm
   exact (key S fun _ h=>h).2 hx
theorem Nl {G:T→T→Prop} {l m k:List T} (irr:∀ x∈l++m++k,¬ G x x) (tr:∀ x∈l++m++k,∀ y∈l++m++k,∀ z∈l++m++k,G x y→G y z→G x z)
 (h1:Mu G l m) (h2:Mu G m k):Mu G l k:=by
 have il:∀ {x},x∈l→x∈l++m++k:=fun h=>by simp [h]
 have im:∀ {x},x∈m→x∈l++m++k:=fun h=>by simp [h]
 have ik:∀ {x},x∈k→x∈l++m++k:=fun h=>by simp [h]
 have up:∀ z∈l++m++k,(l.count z < m.count z∨m.count z < k.count z)→∃ x∈l,k.count x < l.count x∧G x z:=by
  refine Nk irr tr _ fun z hz ih hc=>?_
  rcases hc with hc | hc
  ·obtain ⟨x1,vf,OO,K8⟩:=h1.2 z (ol hc) hc
   by_cases hk:k.count x1 < l.count x1
   ·exact ⟨x1,vf,hk,K8⟩
   ·obtain ⟨x,hx,ni,hg⟩:=ih x1 (il vf) K8 (.inr (by omega))
    exact ⟨x,hx,ni,tr x (il hx) x1 (il vf) z hz hg K8⟩
  ·obtain ⟨x1,vf,OO,K8⟩:=h2.2 z (ol hc) hc
   by_cases hk:l.count x1 < m.count x1
   ·obtain ⟨x,hx,ni,hg⟩:=ih x1 (im vf) K8 (.inl hk)
    exact ⟨x,hx,ni,tr x (il hx) x1 (im vf) z hz hg K8⟩
   ·exact ⟨x1,acj.1 (by omega),by omega,K8⟩
 constructor
 ·obtain ⟨x0,LA,Pj⟩:=h1.1
  by_cases hk:k.count x0 < l.count x0
  ·exact ⟨x0,LA,hk⟩
  ·obtain ⟨x,hx,hc,_⟩:=up x0 (il LA) (.inr (by omega))
   exact ⟨x,hx,hc⟩
 ·intro y hy hc
  refine up y (ik hy) ?_
  by_cases h:l.count y < m.count y
  ·exact .inl h
  ·exact .inr (by omega)
theorem EM {G:T→T→Prop}:∀ {l m k:List T},(∀ x∈l,∀ y∈m,∀ z∈k,G x y→G y z→G x z)→Lx G l m→Lx G m k→Lx G l k
 | [],_,_,_,h,_=>h.elim
 | _::_,[],_,_,_,h=>h.elim
 | _::_,_::_,[],_,_,_=>trivial
 | x::l,y::m,z::k,tr,h1,h2=>by
   have ih:=@EM G l m k fun x hx y hy z hz=>tr x (aaK _ hx) y (aaK _ hy) z (aaK _ hz)
   rcases h1 with ⟨rfl,h1⟩ | h1 <;> rcases h2 with ⟨rfl,h2⟩ | h2
   ·exact .inl ⟨rfl,ih h1 h2⟩
   ·exact .inr h2
   ·exact .inr h1
   ·exact .inr (tr x aa2 y aa2 z aa2 h1 h2)
theorem Cq:∀ (N:Nat) {a b c:T},wt a≤N→wt b≤N→wt c≤N→Gt sp a b→Gt sp b c→Gt sp a c:=by
 intro N
 induction N with
 | zero=>intro a b c h;have:=dH a;omega
 | succ N ihN=>
 intro a b c
 induction h:wt a + wt b + wt c using Nat.strongRecOn generalizing a b c with
 | _ n ih=>
   intro la lb lc tw Tw
   rcases sO tw with ⟨x,hx,rfl | hg⟩ | ⟨hb,h1,h2⟩
   ·exact rp (AN tw) hx (.inr Tw)
   ·have:=cu hx
    exact rp (AN tw) hx (.inr (ih (wt x + wt b + wt c) (by omega) rfl (by omega) lb lc hg Tw))
   rcases sO Tw with ⟨y,hy,rfl | hg⟩ | ⟨hc,h3,h4⟩
   ·exact h1 y hy
   ·have:=cu hy
    exact ih (wt a + wt y + wt c) (by omega) rfl la (by omega) lc (h1 y hy) hg
   have h5:∀ z∈c.l,Gt sp a z:=fun z hz=>by
    have:=cu hz
    exact ih (wt a + wt b + wt z) (by omega) rfl la lb (by omega) tw (h3 z hz)
   refine aac (AN tw) hc h5 ?_
   rcases h2 with h2 | ⟨e2,s2,h2⟩ | ⟨e2,s2,h2⟩ <;> rcases h4 with h4 | ⟨e4,s4,h4⟩ | ⟨e4,s4,h4⟩
   ·exact .inl (by omega)
   ·exact .inl (by omega)
   ·exact .inl (by omega)
   ·exact .inl (by omega)
   ·refine .inr (.inl ⟨by omega,s2,?_⟩)
    rw [e2] at h4
    refine EM (fun x hx y hy z hz=>?_) h2 h4
    have:=cu (mG.1 hx);have:=cu (mG.1 hy);have:=cu (mG.1 hz)
    exact ihN (by omega) (by omega) (by omega)
   ·rw [e2] at s4;exact absurd s4 s2
   ·exact .inl (by omega)
   ·rw [e2] at s4;exact absurd s2 s4
   ·refine .inr (.inr ⟨by omega,s2,?_⟩)
    have small:∀ x∈a.l++b.l++c.l,wt x≤N:=by
     intro x hx
     simp only [abZ] at hx
     rcases hx with (hx | hx) | hx <;> have:=cu hx <;> omega
    exact Nl (fun x _=>yc x) (fun x hx y hy z hz=>ihN (small x hx) (small y hy) (small z hz)) h2 h4
theorem gt_trans {a b c:T}:Gt sp a b→Gt sp b c→Gt sp a c:=Cq (wt a + wt b + wt c) (by omega) (by omega) (by omega)
theorem aad {l m X Y C:List T} (hl:l.Perm (X++C)) (hm:m.Perm (Y++C)) (h0:X≠[]) (h1:∀ y∈Y,∃ x∈X,Gt sp x y):Mu (Gt sp) l m:=by
 have cl:∀ z,l.count z=X.count z + C.count z:=fun z=>by rw [hl.count_eq,aey]
 have cm:∀ z,m.count z=Y.count z + C.count z:=fun z=>by rw [hm.count_eq,aey]
 have up:∀ z∈X++Y,z∈Y→∃ x∈X,Y.count x < X.count x∧Gt sp x z:=by
  refine Nk (G:=Gt sp) (fun x _=>yc x) (fun x _ y _ z _=>gt_trans) _ fun z hz ih hy=>?_
  obtain ⟨x1,vf,K8⟩:=h1 z hy
  by_cases hc:Y.count x1 < X.count x1
  ·exact ⟨x1,vf,hc,K8⟩
  ·have:0 < X.count x1:=acj.2 vf
   obtain ⟨x,hx,ni,hg⟩:=ih x1 (by simp [vf]) K8 (acj.1 (by omega))
   exact ⟨x,hx,ni,gt_trans hg K8⟩
 have inl:∀ {x},x∈X→x∈l:=fun hx=>hl.mem_iff.2 (by simp [hx])
 constructor
 ·obtain ⟨x,hx⟩:=List.exists_mem_of_ne_nil X h0
  by_cases hc:Y.count x < X.count x
  ·exact ⟨x,inl hx,by rw [cl,cm];omega⟩
  ·have:0 < X.count x:=acj.2 hx
   obtain ⟨x',rJ,JK,_⟩:=up x (by simp [hx]) (acj.1 (by omega))
   exact ⟨x',inl rJ,by rw [cl,cm];omega⟩
 ·intro y hy hc
  rw [cl,cm] at hc
  have hyY:y∈Y:=acj.1 (by omega)
  obtain ⟨x,hx,JK,hg⟩:=up y (by simp [hyY]) hyY
  exact ⟨x,inl hx,by rw [cl,cm];omega,hg⟩
def RJ (X Y:List T):Prop:=∀ z,z∈X→z∉Y
theorem Nm {G:T→T→Prop} {l m X Y C:List T} (hl:l.Perm (X++C)) (hm:m.Perm (Y++C)) (hd:RJ X Y):Mu G l m↔X≠[]∧∀ y∈Y,∃ x∈X,G x y:=by
 have cl:∀ z,l.count z=X.count z + C.count z:=fun z=>by rw [hl.count_eq,aey]
 have cm:∀ z,m.count z=Y.count z + C.count z:=fun z=>by rw [hm.count_eq,aey]
 have inl:∀ {x},x∈X→x∈l:=fun hx=>hl.mem_iff.2 (by simp [hx])
 have inm:∀ {x},x∈Y→x∈m:=fun hx=>hm.mem_iff.2 (by simp [hx])
 have cX:∀ {z},m.count z < l.count z↔z∈X:=by
  intro z
  rw [cl,cm]
  constructor
  ·intro h;exact acj.1 (by omega)
  ·intro h
   have h1:0 < X.count z:=acj.2 h
   have h2:Y.count z=0:=List.count_eq_zero.2 (hd z h)
   omega
 have cY:∀ {z},l.count z < m.count z↔z∈Y:=by
  intro z
  rw [cl,cm]
  constructor
  ·intro h;exact acj.1 (by omega)
  ·intro h
   have h1:0 < Y.count z:=acj.2 h
   have h2:X.count z=0:=List.count_eq_zero.2 (fun hx=>hd z hx h)
   omega
 constructor
 ·rintro ⟨⟨x,_,hx⟩,h2⟩
  refine ⟨fun e=>(by have hm:=cX.1 hx;rw [e] at hm;cases hm),fun y hy=>?_⟩
  obtain ⟨x,_,hx,hg⟩:=h2 y (inm hy) (cY.2 hy)
  exact ⟨x,cX.1 hx,hg⟩
 ·rintro ⟨h1,h2⟩
  refine ⟨?_,fun y _ hy=>?_⟩
  ·obtain ⟨x,hx⟩:=List.exists_mem_of_ne_nil X h1
   exact ⟨x,inl hx,cX.2 hx⟩
  ·obtain ⟨x,hx,hg⟩:=h2 y (cY.1 hy)
   exact ⟨x,inl hx,cX.2 hx,hg⟩
theorem qK {l m X Y C:List T} (hl:l.Perm (X++C)) (hm:m.Perm (Y++C)) (hd:RJ X Y):l.Perm m↔X=[]∧Y=[]:=by
 constructor
 ·intro h
  have hc:∀ z,X.count z=Y.count z:=fun z=>by
   have h1:=hl.count_eq z
   have h2:=hm.count_eq z
   have h3:=h.count_eq z
   rw [aey] at h1 h2
   omega
  constructor
  ·cases hX:X with
   | nil=>rfl
   | cons x r=>
     have h1:x∈X:=by rw [hX];simp
     have h2:0 < Y.count x:=by rw [← hc];exact acj.2 h1
     exact absurd (acj.1 h2) (hd x h1)
  ·cases hY:Y with
   | nil=>rfl
   | cons x r=>
     have h1:x∈Y:=by rw [hY];simp
     have h2:0 < X.count x:=by rw [hc];exact acj.2 h1
     exact absurd h1 (hd x (acj.1 h2))
 ·rintro ⟨rfl,rfl⟩
  exact hl.trans hm.symm
theorem EN (s:Int) (g:T→T) (l:List T):side s (l.map g)=(side s l).map g:=by unfold side;split <;> simp
theorem T.ext {a b:T} (h1:a.k=b.k) (h2:a.n=b.n) (h3:a.l=b.l):a=b:=by
 cases a;cases b;simp only [T.k,T.n,T.l] at h1 h2 h3;rw [h1,h2,h3]
end
end Go.dV
end
section
namespace Go.dV
open Go.aI
def E (O:Od) (a b:T):Prop:=norm O a=norm O b
def R (O:Od) (a b:T):Prop:=Gt O.sp (norm O a) (norm O b)
theorem kmk (k n:Int) (l:List T):(T.mk k n l).k=k:=rfl
section
variable {O:Od}
theorem pW {a:T} (h:a.k=2):(norm O a).k=2∧(norm O a).n=O.pl a.n∧(O.sp (O.pl a.n)=3→(norm O a).l=zB (a.l.map (norm O)))∧(O.sp (O.pl a.n)≠3→(norm O a).l=a.l.map (norm O)):=by
 cases a with
 | mk k n l=>
   simp only [T.k] at h
   subst h
   simp only [norm,if_true,T.k,T.n,T.l,AM,true_and]
   exact ⟨fun h=>by rw [if_pos h],fun h=>by rw [if_neg h]⟩
theorem yd {a:T} (h:a.k≠2):norm O a=.mk 1 a.n []:=by
 cases a with
 | mk k n l=>simp only [kmk] at h;simp only [norm];rw [if_neg h];rfl
theorem ul {a:T}:(norm O a).k=2↔a.k=2:=by
 by_cases h:a.k=2
 ·simp [h,(pW h).1]
 ·rw [yd h,kmk];simp [h]
theorem sP {a x:T} (h:a.k=2):x∈(norm O a).l↔∃ y∈a.l,norm O y=x:=by
 obtain ⟨_,_,h1,h2⟩:=pW (O:=O) h
 by_cases hs:O.sp (O.pl a.n)=3
 ·rw [h1 hs,RG,aan]
 ·rw [h2 hs,aan]
theorem RK {G:T→T→Prop} {l m l' m':List T} (h1:l.Perm l') (h2:m.Perm m'):Mu G l m↔Mu G l' m':=by
 unfold Mu
 simp only [h1.count_eq,h2.count_eq,h1.mem_iff,h2.mem_iff]
theorem Tx {a b:T}:E O a b↔(a.k=2∧b.k=2∧O.pl a.n=O.pl b.n∧(if O.sp (O.pl a.n)=3 then (a.l.map (norm O)).Perm (b.l.map (norm O)) else a.l.map (norm O)=b.l.map (norm O)))∨(a.k≠2∧b.k≠2∧a.n=b.n):=by
 by_cases ha:a.k=2
 ·by_cases hb:b.k=2
  ·obtain ⟨ka,na,pa,qa⟩:=pW (O:=O) ha
   obtain ⟨kb,nb,pb,qb⟩:=pW (O:=O) hb
   simp only [ha,hb,true_and,ne_eq,not_true_eq_false,false_and,or_false]
   unfold E
   constructor
   ·intro h
    have hn:O.pl a.n=O.pl b.n:=by rw [← na,← nb,h]
    refine ⟨hn,?_⟩
    have hl:(norm O a).l=(norm O b).l:=by rw [h]
    split
    ·rename_i hs
     rw [pa hs,pb (by rw [← hn];exact hs)] at hl
     exact IN.1 hl
    ·rename_i hs
     rw [qa hs,qb (by rw [← hn];exact hs)] at hl
     exact hl
   ·rintro ⟨hn,hl⟩
    refine T.ext (by rw [ka,kb]) (by rw [na,nb,hn]) ?_
    split at hl
    ·rename_i hs
     rw [pa hs,pb (by rw [← hn];exact hs)]
     exact IN.2 hl
    ·rename_i hs
     rw [qa hs,qb (by rw [← hn];exact hs)]
     exact hl
  ·simp only [ha,hb,ne_eq,not_true_eq_false,false_and,and_false,or_false,iff_false]
   intro h
   have:=ul (O:=O) (a:=a)
   unfold E at h
   rw [h,ul] at this
   exact hb (this.2 ha)
 ·by_cases hb:b.k=2
  ·simp only [ha,hb,ne_eq,not_true_eq_false,false_and,and_false,or_false,iff_false]
   intro h
   have:=ul (O:=O) (a:=b)
   unfold E at h
   rw [← h,ul] at this
   exact ha (this.2 hb)
  ·simp only [ha,hb,ne_eq,not_false_eq_true,false_and,true_and,false_or]
   unfold E
   rw [yd ha,yd hb]
   simp
theorem qL {a b:T}:R O a b↔a.k=2∧((∃ x∈a.l,E O x b∨R O x b)∨b.k=2∧(
 (O.pl b.n < O.pl a.n∧∀ y∈b.l,R O a y)∨
 (O.pl b.n=O.pl a.n∧O.sp (O.pl a.n)≠3∧(∀ y∈b.l,R O a y)∧Lx (Gt O.sp) (side (O.sp (O.pl a.n)) (a.l.map (norm O))) (side (O.sp (O.pl a.n)) (b.l.map (norm O))))∨
 (O.pl b.n=O.pl a.n∧O.sp (O.pl a.n)=3∧Mu (Gt O.sp) (a.l.map (norm O)) (b.l.map (norm O))))):=by
 unfold R
 rw [yb]
 unfold Fm
 rw [ul,ul]
 refine and_congr_right fun ha=>?_
 obtain ⟨ka,na,pa,qa⟩:=pW (O:=O) ha
 refine or_congr ?_ (and_congr_right fun hb=>?_)
 ·constructor
  ·rintro ⟨x,hx,h⟩
   obtain ⟨y,hy,rfl⟩:=(sP ha).1 hx
   exact ⟨y,hy,h⟩
  ·rintro ⟨x,hx,h⟩
   exact ⟨_,(sP ha).2 ⟨x,hx,rfl⟩,h⟩
 ·obtain ⟨kb,nb,pb,qb⟩:=pW (O:=O) hb
  have e:(∀ y∈(norm O b).l,Gt O.sp (norm O a) y)↔∀ y∈b.l,Gt O.sp (norm O a) (norm O y):=by
   constructor
   ·intro h y hy;exact h _ ((sP hb).2 ⟨y,hy,rfl⟩)
   ·intro h y hy;obtain ⟨z,hz,rfl⟩:=(sP hb).1 hy;exact h z hz
  rw [e,na,nb]
  refine or_congr Iff.rfl (or_congr ?_ ?_)
  ·refine and_congr_right fun hn=>and_congr_right fun hs=>?_
   rw [qa hs,qb (by rw [hn];exact hs)]
  ·refine and_congr_right fun hn=>and_congr_right fun hs=>?_
   exact RK (by rw [pa hs];exact mF _) (by rw [pb (by rw [hn];exact hs)];exact mF _)
theorem aae {a b:T} (h:E O a b):¬ R O a b:=by unfold R;rw [show norm O a=norm O b from h];exact yc _
theorem RM {a b c:T} (h1:R O a b) (h2:R O b c):R O a c:=gt_trans h1 h2
theorem aaf {a b x:T} (ha:a.k=2) (hx:x∈a.l) (h:E O x b∨R O x b):R O a b:=qL.2 ⟨ha,.inl ⟨x,hx,h⟩⟩
end
inductive v9 (p:Int→Prop):T→Prop
 | mk (k n:Int) (l:List T) (h1:k=2→p n) (h2:∀ x∈l,v9 p x):v9 p (.mk k n l)
theorem v9.op {p:Int→Prop} {a:T} (h:v9 p a) (hk:a.k=2):p a.n:=by cases h with | mk k n l h1 _=>exact h1 hk
theorem v9.mem {p:Int→Prop} {a x:T} (h:v9 p a) (hx:x∈a.l):v9 p x:=by cases h with | mk k n l _ h2=>exact h2 x hx
end Go.dV
end
