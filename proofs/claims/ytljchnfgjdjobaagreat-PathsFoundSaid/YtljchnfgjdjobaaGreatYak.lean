/- Part 11 of 19 of the proof. -/
import Derived.Test.YtljchnfgjdjobaaGreatYaj
import Derived.Test.YtljchnfgjdjobaaGreatYag
import Derived.KernelRfl
import Derived.Test.YtljchnfgjdjobaaGreatYai
import Derived.SizedLaws
set_option linter.unusedVariables false
set_option linter.unusedSimpArgs false
set_option linter.defProp false
set_option linter.unusedSectionVars false
section
namespace Go.aJ
open Go
structure jo (esz:Nat) (x:AV):Prop where
 len:x.cells.length=esz
 un:x.cells.map AV.ae=x.cells
 bl:ak 0 x.cells=true
 one:x.cells.all AV.one=true
theorem jo.flat {esz:Nat}:∀ {xs:List AV},(∀ x∈xs,jo esz x)→(flat xs).length=xs.length * esz∧(flat xs).map AV.ae=flat xs∧(∀ n,ak n (flat xs)=true)∧(Go.aJ.flat xs).all AV.one=true
 | [],_=>⟨by simp [Go.aJ.flat],rfl,fun _=>rfl,rfl⟩
 | x::r,h=>by
   obtain ⟨h1,h2,h3,h4⟩:=jo.flat (xs:=r) fun y hy=>h y (aai _ hy)
   have hx:=h x aan
   have e:Go.aJ.flat (x::r)=x.cells++Go.aJ.flat r:=rfl
   rw [e]
   refine ⟨by rw [aab,hx.len,h1,List.length_cons,abT];omega,by rw [ac3,hx.un,h2],fun n=>?_,by rw [List.all_append,hx.one,h4];rfl⟩
   rw [bB];exact ⟨bu (ac1 n) _ hx.bl,h3 n⟩
theorem oc (xs ys:List AV):flat (xs++ys)=flat xs++flat ys:=by simp [flat]
theorem j4 {esz:Nat} {z:AV} (hz:jo esz (bQ z)) (n:Nat):∀ x∈List.replicate n (bQ z),jo esz x:=fun x hx=>by rw [acV hx];exact hz
theorem rk {esz:Nat} {z:AV} (hz:jo esz (bQ z)) (n:Nat):(cS z n).length=n * esz:=by
 have:=(jo.flat (j4 hz n)).1
 rwa [ab4] at this
theorem zd {esz:Nat} {z:AV} (hz:jo esz (bQ z)) (n k:Nat) (h:k≤n):(cS z n).drop (k * esz)=cS z (n - k):=by
 have e:cS z n=cS z k++cS z (n - k):=by
  unfold cS
  rw [← oc,ad3]
  congr 2;omega
 rw [e,adb (by rw [rk hz];omega),aaZ (by rw [rk hz];omega)]
 rfl
def bn (z:AV) (xs:List AV) (cap:Nat):aa:=.cells (flat xs++cS z (cap - xs.length))
def RO (z:AV) (base:Nat) (v:AV) (xs:List AV) (G:List aa):Prop:=
 (xs=[]∧v=.ah)∨∃ id cap,base≤id∧v=.aU id 0 xs.length cap∧G[id]?=some (bn z xs cap)∧xs.length≤cap∧xs≠[]
theorem RO.one {z:AV} {base:Nat} {v:AV} {xs:List AV} {G:List aa} (h:RO z base v xs G):v.one=true∧v.val=true∧v.ae=v∧v.cells=[v]:=by
 rcases h with ⟨_,rfl⟩ | ⟨id,cap,_,rfl,_⟩ <;> exact ⟨rfl,rfl,rfl,rfl⟩
theorem RO.a8 {z:AV} {base:Nat} {v:AV} {xs:List AV} {G:List aa} (h:RO z base v xs G) {n:Nat} (hn:G.length≤n):v.a8 n=true:=by
 rcases h with ⟨_,rfl⟩ | ⟨id,cap,_,rfl,c,_⟩
 ·rfl
 ·have:=(aaw.1 c).1
  rw [j3];simp;omega
theorem RO.set {z:AV} {base:Nat} {v:AV} {xs:List AV} {G:List aa} (h:RO z base v xs G) {j:Nat} (hj:j < base) (o:aa):RO z base v xs (G.set j o):=by
 rcases h with h | ⟨id,cap,a,b,c,d⟩
 ·exact .inl h
 ·exact .inr ⟨id,cap,a,b,by rw [yq (by omega)];exact c,d⟩
theorem RO.len {z:AV} {base:Nat} {v:AV} {xs:List AV} {G:List aa} (h:RO z base v xs G) {H:List aa} (φ:AV→Prop):fz v H φ=φ (.int .i64 xs.length):=by
 rcases h with ⟨rfl,rfl⟩ | ⟨id,cap,_,rfl,_⟩ <;> rfl
theorem Lj {esz bytes:Nat} {z:AV} (hz:jo esz (bQ z)) {base:Nat} {v:AV} {xs:List AV} {G:List aa} (h:RO z base v xs G) (ew:∀ x∈xs,jo esz x) (o:Nat) (ys:List AV) (hy:ys≠[]) (qv:∀ x∈ys,jo esz x)
 (hb:(xs.length + ys.length) * bytes≤140737488355328) (hG:base≤G.length) {K:AV→List aa→Prop}
 (hK:∀ v' G',RO z base v' (xs++ys) G'→G'.take base=G.take base→(∀ j,j < base→G'[j]?=G[j]?)→G.length≤G'.length→K v' G'):cT esz bytes z v (.al o ys) G K:=by
 have jv:sq esz ys:=fun y hy=>⟨(qv y hy).len,(qv y hy).one⟩
 obtain ⟨f1,f2,f3,f4⟩:=jo.flat qv
 obtain ⟨g1,g2,g3,g4⟩:=jo.flat ew
 have uN:=rk hz
 have k7:∀ n m,ak n (cS z m)=true:=fun n m=>(jo.flat (j4 hz m)).2.2.1 n
 unfold cT
 simp only [dB]
 refine ⟨jv,?_⟩
 rcases h with ⟨rfl,rfl⟩ | ⟨id,cap,bm,rfl,hg,hle,_⟩
 ·refine ⟨by simpa using hb,fun e=>absurd e hy,fun _ cap hc _=>⟨?_,hK _ _ (.inr ⟨G.length,cap,hG,by simp,?_,by simpa using hc,by simpa using hy⟩) ?_ ?_ (by simp)⟩⟩
  ·rw [f2,bB];exact ⟨f3 _,k7 _ _⟩
  ·rw [f2];simp [bn]
  ·rw [aa5 hG]
  ·intro j hj;rw [yp (by omega)]
 ·have yL:=(aaw.1 hg).1
  simp only [hg,bn,aab,g1,uN,abw,List.drop_zero]
  refine ⟨hb,hle,by rw [← abT];exact Nat.le_of_eq (by congr 1;omega),fun hroom=>⟨by rw [f2];exact f3 _,?_⟩,fun jO eC hc _=>⟨?_,?_⟩⟩
  ·rw [f2]
   refine hK _ _ (.inr ⟨id,cap,bm,by simp,?_,by simpa using hroom,by simp [hy]⟩) ?_ ?_ (by simp)
   ·rw [Rx yL,bn]
    congr 2
    unfold ai
    rw [f1,aa5 (by rw [g1];exact yo _),aak (by rw [g1];exact yo _),ado,aaZ (by rw [g1];omega),g1,
     show xs.length * esz + ys.length * esz - xs.length * esz=ys.length * esz by omega,zd hz _ _ (by omega),oc,List.nil_append,aab]
    rw [show cap - xs.length - ys.length=cap - (xs.length + ys.length) by omega,aa2]
   ·rw [abO (by omega)]
   ·intro j hj;rw [yq (by omega)]
  ·rw [aa5 (by rw [g1];exact yo _),aak (by rw [g1];exact yo _),g2,f2,bB,bB];exact ⟨⟨g3 _,f3 _⟩,k7 _ _⟩
  ·rw [aa5 (by rw [g1];exact yo _),aak (by rw [g1];exact yo _),g2,f2,← oc]
   refine hK _ _ (.inr ⟨G.length,eC,hG,by simp,?_,by simpa using hc,by simp [hy]⟩) ?_ ?_ (by simp)
   ·simp [bn]
   ·rw [aa5 hG]
   ·intro j hj;rw [yp (by omega)]
theorem pZ {esz:Nat}:∀ {xs:List AV} (_:∀ x∈xs,jo esz x) (i:Nat),i < xs.length→(flat xs).drop (i * esz)=(xs.getD i .any).cells++flat (xs.drop (i + 1))
 | [],_,i,h=>by simp at h
 | x::r,hx,0,_=>by simp [flat]
 | x::r,hx,i + 1,h=>by
   have hl:=(hx x aan).len
   have e:flat (x::r)=x.cells++flat r:=rfl
   rw [e,show (i + 1) * esz=x.cells.length + i * esz by rw [hl,abT];omega,ado,List.getD_cons_succ,List.drop_succ_cons]
   have:=pZ (xs:=r) (fun y hy=>hx y (aai _ hy)) i (by simpa using h)
   simp [this]
theorem ze {esz:Nat} {z:AV} {c:Nat} (hc:c < esz) (v:AV):∀ {xs:List AV} (_:∀ x∈xs,jo esz x) (i:Nat) {y:AV} (rest:List AV),i < xs.length→y.cells=(xs.getD i .any).cells.set c v→
 (flat xs++rest).set (i * esz + c) v=flat (xs.set i y)++rest
 | [],_,i,_,_,h,_=>by simp at h
 | x::r,hx,0,y,rest,_,hy=>by
   have hl:=(hx x aan).len
   have e:flat (x::r)=x.cells++flat r:=rfl
   rw [aef,e,show flat (y::r)=y.cells++flat r from rfl,hy,ad4,abw,aa2,adJ _ _ (by omega),aa2]
   rfl
 | x::r,hx,i + 1,y,rest,h,hy=>by
   have hl:=(hx x aan).len
   have e:flat (x::r)=x.cells++flat r:=rfl
   have ih:=ze (z:=z) hc v (xs:=r) (fun y hy=>hx y (aai _ hy)) i rest (y:=y) (by simpa using h) (by simpa using hy)
   rw [List.set_cons_succ,e,show flat (x::r.set i y)=x.cells++flat (r.set i y) from rfl,aa2,aa2,← ih,show (i + 1) * esz + c=x.cells.length + (i * esz + c) by rw [hl,abT];omega]
   rw [ac5 _ _ (by omega)]
   congr 2;omega
theorem ig (e id N c i:Nat) (k:IntKind) (φ:AV→Prop):aC e (.aU id 0 N c) (.int k (i:Int)) φ=(i < N∧φ (.ptr id (i * e))):=by
 simp only [aC,aaa,abw,eq_iff_iff]
 constructor
 ·rintro ⟨_,h⟩;exact h
 ·exact fun h=>⟨by omega,h⟩
theorem oe {α:Type} (l:List α) (i:Nat) (x:α) (h:i < l.length):ai l i [x]=l.set i x:=by
 unfold ai
 rw [adW,if_pos h]
 rfl
theorem A0 {esz cap id:Nat} {z:AV} {ys:List AV} (qv:∀ x∈ys,jo esz x) {i c:Nat} (hi:i < ys.length) (hc:c < esz) {v y:AV} (h1:v.one=true) (h2:v.val=true) (h3:v.ae.a8 0=true) (hy:y.cells=(ys.getD i .any).cells.set c v.ae)
 {H:List aa} {K:List aa→Prop} (hK:K (H.set id (bn z (ys.set i y) cap))):iH (some (bn z ys cap)) 1 id (i * esz + c) v H K:=by
 obtain ⟨g1,g2,g3,g4⟩:=jo.flat qv
 have hle:i * esz + esz≤ys.length * esz:=by rw [← Nat.succ_mul];exact acY _ hi
 simp only [bn,C9,yF h1,h2,List.length_cons,List.length_nil,List.all_cons,List.all_nil,h1,List.map_cons,List.map_nil]
 refine ⟨trivial,trivial,by rw [aab,g1];omega,rfl,bu (ac1 _) [v.ae] (by rw [bE,cN,h3];rfl),?_⟩
 rw [oe _ _ _ (by rw [aab,g1];omega),ze (z:=z) hc v.ae qv i _ hi hy]
 have e:(ys.set i y).length=ys.length:=by simp
 simp only [bn,e] at hK
 exact hK
theorem GV {esz:Nat} (h0:1 < esz):∀ {xs:List AV} (_:∀ x∈xs,jo esz x) (_:∀ x∈xs,AV.agg x.cells=x) (rest:List AV),chunks esz xs.length (flat xs++rest)=xs
 | [],_,_,_=>rfl
 | x::r,hx,ha,rest=>by
   have hl:=(hx x aan)
   have e:flat (x::r)=x.cells++flat r:=rfl
   rw [List.length_cons,chunks,if_neg (by omega),e,aa2,aa5 (by rw [hl.len];omega),aak (by rw [hl.len];omega),hl.un,ha x aan]
   rw [show List.drop esz (x.cells++(flat r++rest))=flat r++rest by rw [← hl.len,aeb],GV h0 (fun y hy=>hx y (aai _ hy)) (fun y hy=>ha y (aai _ hy))]
theorem wR {esz id cap:Nat} (h0:1 < esz) {z:AV} (hz:jo esz (bQ z)) {xs:List AV} {H:List aa} (hx:∀ x∈xs,jo esz x) (ha:∀ x∈xs,AV.agg x.cells=x) (h:H[id]?=some (bn z xs cap)) (hl:xs.length≤cap) {K:AV→List aa→Prop} (hK:K (.al 0 xs) (H.set id .dead)):dD esz (.aU id 0 xs.length cap) H K:=by
 obtain ⟨g1,g2,g3,g4⟩:=jo.flat hx
 simp only [dD,h,bn,List.drop_zero,GV h0 hx ha]
 refine ⟨by omega,hl,by simp [g1],?_,hK⟩
 rw [List.all_append,g4,show (cS z (cap - xs.length)).all AV.one=true from (jo.flat (j4 hz _)).2.2.2];rfl
end Go.aJ
end
section
set_option maxRecDepth 100000
set_option maxHeartbeats 0
namespace Go.aJ
open Go Go.Proofs
noncomputable def Xe:=aK Tryz.call58 Tryz.func58 Tryz.ntmps58 [(3,0,2),(3,2,2),(3,3,1)] [(0,[0]),(1,[0,4]),(2,[2]),(3,[2])] []
noncomputable def Xf:=aK Tryz.call75 Tryz.func75 Tryz.ntmps75 [(0,0,1),(5,2,1000),(6,0,1),(6,8,1),(7,6,2),(7,9,2),(9,0,6004)] [(0,[1,2]),(1,[1,6]),(2,[1,6,7]),(3,[6,7,15,16,17]),(4,[6,7,15,16,17,18]),(5,[6,7,9,15,16,17]),(6,[6,7,9,15,16,17]),(7,[6,7,15,16,17]),(8,[6,7,15,16,17]),(9,[4,5])] [(7,(.take 1 true (.take 2 true (.take 3 true (.take 4 true (.take 5 true (.take 0 false (.br 6 (.take 7 true (.take 8 true (.br 9 .done .nil))) .nil))))))))]
noncomputable def QV:=aK Tryz.call118 Tryz.func118 Tryz.ntmps118 [(3,0,2),(3,2,2),(3,3,1)] [(0,[0]),(1,[0,4]),(2,[2]),(3,[2])] []
noncomputable def GW:=aK Tryz.call132 Tryz.func132 Tryz.ntmps132 [(0,0,1),(2,0,1),(2,4,2),(2,5,1),(6,2,1000),(7,0,1),(7,5,1),(8,1,1),(8,2,2),(8,3,1),(11,0,1),(11,1,1)] [(0,[1,2]),(1,[1,2,5]),(2,[1,2,5]),(3,[1,2,5,6]),(4,[1,5,6,17,18,19]),(5,[1,5,6,17,18,19,20]),(6,[1,5,6,8,17,18,19]),(7,[1,5,6,8,17,18,19]),(8,[1,5,6,17,18,19]),(9,[1,5,6,17,18,19]),(10,[1]),(11,[4])] []
noncomputable def QW:=aK Tryz.call139 Tryz.func139 Tryz.ntmps139 [(10,9,2000),(15,0,1),(15,4,1),(21,0,1),(21,4,1),(23,2,3000)] [(0,[0,1,2]),(1,[0,1,2,9]),(2,[0,1,2,9,10]),(3,[0,1,2,9,10,11,12]),(4,[0,1,9,10,11,12,26,27,28]),(5,[0,1,9,10,11,12,26,27,28,29]),(6,[0,1,9,10,11,12,13,14,26,27,28]),(7,[0,1,9,10,11,12,13,14,26,27,28,33,34,35]),(8,[0,1,9,10,11,12,13,14,26,27,28,33,34,35,36]),(9,[0,1,9,10,11,12,13,14,15,16,26,27,28,33,34,35]),(10,[0,1,9,10,11,12,13,14,15,26,27,28,33,34,35,50]),(11,[0,1,9,10,11,12,13,15,26,27,28]),(12,[0,1,9,10,11,12,13,26,27,28]),(13,[0,1,9,10,11,12,13,14,26,27,28,33,34,35]),(14,[0,1,9,10,11,12,13,26,27,28,63]),(15,[0,1,9,10,11,12,26,27,28]),(16,[0,1,9,10,11,12,26,27,28]),(17,[10,11,12,69,70,71]),(18,[10,11,12,69,70,71,72]),(19,[10,11,12,17,18,69,70,71]),(20,[10,11,12,17,69,70,71,77]),(21,[10,11,12,69,70,71]),(22,[10,11,12,69,70,71]),(23,[6,7,8])] []
noncomputable def QX:=aK Tryz.call149 Tryz.func149 Tryz.ntmps149 [(1,2,1),(3,1,2000),(4,0,3000)] [(0,[0,1]),(1,[0,1]),(2,[0,8]),(3,[0]),(4,[4])] []
noncomputable def QY:=aK Tryz.call185 Tryz.func185 Tryz.ntmps185 [(5,3,2000),(6,19,2000)] [(0,[0,1,2]),(1,[0,1,2,7,8]),(2,[0,1,2,7,38]),(3,[6]),(4,[0,9,10]),(5,[0,9,10,11]),(6,[6])] [(4,(.take 0 true (.take 1 true (.take 2 true (.take 3 true (.take 4 true (.take 5 true (.take 6 true (.take 7 true (.take 8 true (.take 9 true (.take 10 true (.take 11 true (.take 12 true (.take 13 true (.take 14 true (.take 15 true (.take 16 true (.take 17 true (.take 18 true (.take 19 true (.take 20 true (.take 21 true .done))))))))))))))))))))))),(6,(.take 0 true (.take 1 true (.take 2 true (.take 3 true (.take 4 true (.take 5 true (.take 6 true (.take 7 true (.take 8 true (.take 9 true (.take 10 true (.take 11 true (.take 12 true (.take 13 true (.take 14 true (.take 15 true (.take 16 true (.take 17 true (.take 18 true (.br 19 (.take 20 true (.take 21 true (.take 22 true .done))) .nil)))))))))))))))))))))]
noncomputable def QZ:=aK Tryz.call199 Tryz.func199 Tryz.ntmps199 [] [(0,[0,2,3]),(1,[0,2,3,9]),(2,[0,2,3]),(3,[0,2,3])] [(3,(.take 0 true (.take 1 true (.take 4 true (.take 5 true (.take 6 true (.take 7 true (.take 8 true (.take 9 true (.take 10 true (.take 11 true (.take 12 true (.take 2 false (.take 3 false (.br 13 (.take 14 true (.br 15 .done .nil)) .nil)))))))))))))))]
end Go.aJ
end
section
set_option maxRecDepth 100000
namespace Go.aJ
open Go
inductive T where
 | mk (k n:Int) (l:List T)
 deriving Inhabited
mutual
def T.av:T→AV
 | .mk k n l=>.agg [.int .i64 k,.int .i64 n,.al 0 (bS l)]
def bS:List T→List AV
 | []=>[]
 | x::r=>x.av::bS r
end
def T.k:T→Int | .mk k _ _=>k
def T.n:T→Int | .mk _ n _=>n
def T.l:T→List T | .mk _ _ l=>l
theorem T.uj (x:T):x.av=.agg [.int .i64 x.k,.int .i64 x.n,.al 0 (bS x.l)]:=by cases x;rfl
theorem mH:∀ l,bS l=l.map T.av
 | []=>rfl
 | x::r=>by simp [bS,mH r]
theorem rn (l:List T):(bS l).length=l.length:=by simp [mH]
theorem Df (l:List T) (i:Nat) (h:i < l.length):(bS l).getD i .any=(l.getD i default).av:=by
 simp [mH,h]
mutual
theorem T.k8 (n:Nat):∀ x:T,x.av.a8 n=true
 | .mk k m l=>by simp [T.av,AV.a8,ak,dQ n l]
theorem dQ (n:Nat):∀ l:List T,ak n (bS l)=true
 | []=>rfl
 | x::r=>by simp [bS,ak,T.k8 n x,dQ n r]
end
theorem T.sR (x:T):AV.agg x.av.cells=x.av:=by cases x;rfl
theorem T.wS (x:T):x.av.val=true:=by cases x;rfl
theorem T.qd (x:T):x.av.cells.all AV.one=true:=by cases x;rfl
theorem T.og (x:T):x.av.ae=x.av:=by cases x;rfl
theorem T.rp (x:T):x.av.drop=x.av:=by cases x;rfl
theorem T.Dg (x:T):x.av.cells.map AV.ae=x.av.cells:=by cases x;rfl
theorem T.FD (x:T):x.av.cells.map AV.drop=x.av.cells:=by cases x;rfl
theorem T.gX (x:T):x.av.cells.length=3:=by cases x;rfl
theorem Lk (o:Nat) (l:List T):(∀ (own:Nat) (xs:List AV),AV.al o (bS l)=AV.al own xs→∀ z∈xs,z.cells.length=3)=True:=by
 simp only [eq_iff_iff,iff_true]
 intro own xs e z hz
 cases e
 rw [mH] at hz
 obtain ⟨y,_,rfl⟩:=aag.1 hz
 exact y.gX
theorem Pv (e o:Nat) (l:List T) (k:IntKind) (i:Nat) (φ:AV→Prop):aC e (.al o (bS l)) (.int k (i:Int)) φ=(i < l.length∧φ (.aj (l.getD i default).av)):=by
 simp only [aC,rn,aaa,eq_iff_iff]
 constructor
 ·rintro ⟨_,h,h2⟩;rw [Df _ _ h] at h2;exact ⟨h,h2⟩
 ·rintro ⟨h,h2⟩;rw [Df _ _ h];exact ⟨by omega,h,h2⟩
theorem Dh (x:T) (H:List aa) (φ:AV→Prop):aV (some 3) (.aj x.av) H φ=φ x.av:=by
 simp [aV,T.gX,T.sR]
theorem aaI (a b c:AV) (x:T):ai [a,b,c] 0 x.av.cells=x.av.cells:=by simp [ai,T.gX]
theorem aaJ (n:Nat) (x:T):ak n x.av.cells=true:=cB (x.k8 _)
theorem Pw (x:T) (φ:AV→Prop):cL (some (.cells x.av.cells)) (some 3) 0 φ=φ x.av:=by
 have e:List.map AV.drop (List.take 3 (List.drop 0 x.av.cells))=x.av.cells:=by cases x;rfl
 simp only [cL,e,T.sR]
 simp [T.gX]
theorem fk (x:T) (φ:AV→Prop):aq 0 none (.aj x.av) φ=φ (.aj (.int .i64 x.k)):=by
 cases x;simp [aq,apart,T.av,AV.cells,T.k,AV.one]
theorem fn_ (x:T) (φ:AV→Prop):aq 1 none (.aj x.av) φ=φ (.aj (.int .i64 x.n)):=by
 cases x;simp [aq,apart,T.av,AV.cells,T.n,AV.one]
theorem fl (x:T) (φ:AV→Prop):aq 2 none (.aj x.av) φ=φ (.aj (.al 0 (bS x.l))):=by
 cases x;simp [aq,apart,T.av,AV.cells,T.l,AV.one]
def ints (l:List Int):List AV:=l.map (AV.int .i64)
theorem ax (l:List Int):(ints l).length=l.length:=by simp [ints]
theorem aW (n:Nat) (l:List Int):ak n (ints l)=true:=by
 rw [bb];intro x hx;obtain ⟨y,_,rfl⟩:=aag.1 hx;rfl
theorem dh (o:Nat) (l:List Int):(∀ (own:Nat) (xs:List AV),AV.al o (ints l)=AV.al own xs→∀ z∈xs,z.cells.length=1)=True:=by
 simp only [eq_iff_iff,iff_true]
 intro own xs e z hz
 cases e
 obtain ⟨y,_,rfl⟩:=aag.1 hz
 rfl
theorem wT (e o:Nat) (l:List Int) (k:IntKind) (i:Nat) (φ:AV→Prop):aC e (.al o (ints l)) (.int k (i:Int)) φ=(i < l.length∧φ (.aj (.int .i64 (l.getD i 0)))):=by
 simp only [aC,ax,aaa,eq_iff_iff]
 constructor
 ·rintro ⟨_,h,h2⟩;refine ⟨h,?_⟩;simpa [ints,h] using h2
 ·rintro ⟨h,h2⟩;refine ⟨by omega,h,?_⟩;simpa [ints,h] using h2
theorem sS (l:List Int) (n:Int):ints l++[.int .i64 n]=ints (l++[n]):=by simp [ints]
theorem ok_int (k:IntKind) (n:Int):sq 1 [.int k n]=True:=by simp [sq,AV.cells,AV.one]
theorem mI (l:List Int):sq 1 (ints l)=True:=by
 simp only [sq,eq_iff_iff,iff_true]
 intro y hy
 obtain ⟨z,_,rfl⟩:=aag.1 hy
 exact ⟨rfl,rfl⟩
theorem TO (x:T):sq 3 [x.av]=True:=by
 simp only [sq,eq_iff_iff,iff_true]
 intro y hy
 rw [aal] at hy
 subst hy
 exact ⟨x.gX,x.qd⟩
theorem TP (k:IntKind) (n:Int):aP (.int k n)=.int k n:=aei
theorem aaK (x:T):aP x.av=x.av:=by cases x;rfl
theorem bs0 (z:AV) (esz:Nat) (φ:List AV→Prop):bj (List.replicate 0 z) esz [] φ=φ []:=aei
theorem bs1 (z x:AV) (esz:Nat) (φ:List AV→Prop):bj (List.replicate 1 (aP z)) esz [(0,x)] φ=(x.val=true∧x.cells.length=esz∧φ [aP x]):=by
 simp [bj]
theorem bs2 (z x y:AV) (esz:Nat) (φ:List AV→Prop):bj (List.replicate 2 (aP z)) esz [(0,x),(1,y)] φ=(x.val=true∧x.cells.length=esz∧y.val=true∧y.cells.length=esz∧φ [aP x,aP y]):=by
 simp [bj,List.replicate]
theorem bs3 (z x y u:AV) (esz:Nat) (φ:List AV→Prop):bj (List.replicate 3 (aP z)) esz [(0,x),(1,y),(2,u)] φ=(x.val=true∧x.cells.length=esz∧y.val=true∧y.cells.length=esz∧u.val=true∧u.cells.length=esz∧φ [aP x,aP y,aP u]):=by
 simp [bj,List.replicate]
@[congr] theorem M5 {xs:List AV} {esz:Nat} {ps ps':List (Nat×AV)} {φ:List AV→Prop} (h:gG ps=ps'):bj xs esz ps φ=bj xs esz ps' φ:=by subst h;rfl
def TQ:=(rZ (rZ (rZ (rZ @or_true @true_or) (rZ @true_and @and_true)) (rZ (rZ @true_implies @adv) (rZ @acQ (rZ @Bool.not_true @Bool.not_false)))) (rZ (rZ (rZ @decide_true @decide_false) (rZ @Classical.not_not @not_true_eq_false)) (rZ (rZ @not_false_eq_true @false_implies) (rZ @Int.not_le (rZ @Int.not_lt @yo)))))
def TR:=(rZ (rZ (rZ (rZ (rZ @rn @T.k8) (rZ @dQ @T.wS)) (rZ (rZ @T.qd @T.og) (rZ @T.rp @T.Dg))) (rZ (rZ (rZ @T.FD @T.gX) (rZ @T.sR @Lk)) (rZ (rZ @Pv @Dh) (rZ @aaI (rZ @aaJ @Pw))))) (rZ (rZ (rZ (rZ @fk @fn_) (rZ @fl @ax)) (rZ (rZ @aW @dh) (rZ @wT @sS))) (rZ (rZ (rZ @ok_int @TO) (rZ @mI @TP)) (rZ (rZ @aaK @bs0) (rZ @bs1 (rZ @bs2 @bs3))))))
theorem sZa {α:Type} (a b:α) (h:Decidable True):(if True then a else b)=a:=if_pos trivial
def sZ:=rZ TN (rZ TR (rZ TQ (rZ @sZa (rZ @ne_eq.{1} (rZ @forall_const.{1} (rZ @implies_true.{0} (rZ @implies_true.{1} (rZ @List.nil_append.{0} (rZ @abX.{0} (rZ @List.cons_append.{0} (rZ @List.length_cons.{0} @List.length_nil.{0})))))))))))
end Go.aJ
end
section
end
section
set_option maxRecDepth 100000
namespace Go.aJ
open Go Go.Proofs
theorem fV {l:List T} {i:Nat} (h:i < l.length):l.getD i default∈l:=by simp [h]
theorem T.lt {x y:T} (h:x∈y.l):SizeOf.sizeOf x < SizeOf.sizeOf y:=by
 cases y with
 | mk k n l=>
   have:=List.sizeOf_lt_of_mem h
   simp only [T.l] at this
   simp only [T.mk.sizeOf_spec]
   omega
end Go.aJ
end
section
set_option maxRecDepth 100000
namespace Go.aJ
open Go Go.Proofs
end Go.aJ
end
section
set_option maxRecDepth 100000
namespace Go.aJ
open Go Go.Proofs
mutual
def gB:T→Int→Int×Int→Int×Int
 | .mk _ _ l,d,s=>k9 l (d + 1) (s.1 + 1,max s.2 d)
def k9:List T→Int→Int×Int→Int×Int
 | [],_,s=>s
 | x::r,d,s=>if 2000 < s.1∨200 < s.2 then s else k9 r d (gB x d s)
end
def pG (d:Int) (s:Int×Int):Prop:=0≤s.1∧s.1≤2000∧0≤s.2∧s.2≤200∧0≤d∧d≤201
def mJ (s:Int×Int):Prop:=0≤s.1∧s.1≤2001∧0≤s.2∧s.2≤201
mutual
theorem wU:∀ (x:T) (d:Int) (s:Int×Int),pG d s→mJ (gB x d s)∧(gB x d s).2 ≥ d
 | .mk k n l,d,s,h=>by
   simp only [gB]
   obtain ⟨h1,h2,h3,h4,h5,h6⟩:=h
   have:=Di l (d + 1) (s.1 + 1,max s.2 d) (by unfold mJ;simp only;omega) (by omega) (by simp only;omega)
   refine ⟨this.1,?_⟩
   have h:=this.2
   simp only at h
   omega
theorem Di:∀ (l:List T) (d:Int) (s:Int×Int),mJ s→0≤d→d≤s.2 + 1→mJ (k9 l d s)∧s.2≤(k9 l d s).2
 | [],d,s,h,_,_=>by simp [k9,h]
 | x::r,d,s,h,hd,HL=>by
   simp only [k9]
   split
   ·exact ⟨h,Int.le_refl _⟩
   ·rename_i hn
    obtain ⟨h1,h2,h3,h4⟩:=h
    have hx:=wU x d s ⟨h1,by omega,h3,by omega,hd,by omega⟩
    have hr:=Di r d (gB x d s) hx.1 hd (by omega)
    have:=sT x d s
    exact ⟨hr.1,by omega⟩
theorem sT:∀ (x:T) (d:Int) (s:Int×Int),s.2≤(gB x d s).2
 | .mk k n l,d,s=>by
   simp only [gB]
   have:=zg l (d + 1) (s.1 + 1,max s.2 d)
   simp only at this
   omega
theorem zg:∀ (l:List T) (d:Int) (s:Int×Int),s.2≤(k9 l d s).2
 | [],d,s=>by simp [k9]
 | x::r,d,s=>by
   simp only [k9]
   split
   ·omega
   ·have h1:=sT x d s
    have h2:=zg r d (gB x d s)
    omega
end
theorem I0 {l:List T} {i:Nat} {d:Int} {s:Int×Int} (h:i < l.length):k9 (l.drop i) d s=if 2000 < s.1∨200 < s.2 then s else k9 (l.drop (i + 1)) d (gB (l.getD i default) d s):=by
 rw [aaU h]
 simp [k9,h]
def eR (s:Int×Int):List aa:=[.cells [.int .i64 s.1,.int .i64 s.2]]
theorem TS (H:List aa) (x:T) (d:Int) (s:Int×Int) (hs:pG d s) :
 aw Tryz.prog 171 [.ptr H.length 0,x.av,.int .i64 d] (H++eR s) fun r H'=>r=.tuple []∧H'=H++eR (gB x d s):=by
 have ih:∀ y∈x.l,∀ (d:Int) (s:Int×Int),pG d s→aw Tryz.prog 171 [.ptr H.length 0,y.av,.int .i64 d] (H++eR s) fun r H'=>r=.tuple []∧H'=H++eR (gB y d s):=
  fun y hy d s hs=>TS H y d s hs
 have e:gB x d s=k9 x.l (d + 1) (s.1 + 1,max s.2 d):=by cases x;simp only [gB,T.l]
 obtain ⟨h1,h2,h3,h4,h5,h6⟩:=hs
 have w1:IntKind.i64.wrap (s.1 + 1)=s.1 + 1:=eD _ (by omega)
 have w2:IntKind.i64.wrap (d + 1)=d + 1:=eD _ (by omega)
 refine NO.2.calls rfl ?_
 simp only [NO,aK]
 simp only [w1,eR,sZ,Nat.reduceEqDiff,Nat.reduceAdd,Nat.reduceLT,Nat.reduceLeDiff,↓reduceIte,reduceCtorEq]
 intro hl
 have JG:mJ (s.1 + 1,max s.2 d):=by unfold mJ;simp only;omega
 have hmd:d≤max s.2 d:=by omega
 generalize max s.2 d=m at *
 refine aB x.l.length (fun i (t:Int×Int)=>mJ t∧d≤t.2∧k9 (x.l.drop i) (d + 1) t=gB x d s)
  (fun i t=>[(0,.ptr H.length 0),(2,.int .i64 d),(25,.al 0 (bS x.l)),(26,.int .i64 x.l.length),(27,.int .i64 i)]) (fun i t=>H++eR t) (s.1 + 1,m) ⟨⟨JG,hmd,by rw [e];rfl⟩,aD _ _ _⟩ fun i t hi hI=>?_
 obtain ⟨⟨k1,k2,k3,k4⟩,k5,hI⟩:=hI
 simp only [w2,eR,sZ,Nat.reduceEqDiff,Nat.reduceAdd,Nat.reduceLT,↓reduceIte,reduceCtorEq]
 refine ⟨fun aS=>⟨bW aS,?_⟩,fun iR=>?_⟩
 ·have aS:=bW aS
  rw [I0 aS] at hI
  refine ⟨fun hn1=>⟨fun Zz=>?_,fun Zz=>?_⟩,fun hn1=>?_⟩
  ·rw [if_pos (.inr Zz)] at hI;rw [← hI];exact iU (by simp [eR]) rfl
  ·rw [if_neg (by omega)] at hI
   have ho:pG (d + 1) t:=⟨k1,by omega,k3,by omega,by omega,by omega⟩
   have hx:=wU (x.l.getD i default) (d + 1) t ho
   refine ag (ih _ (fV aS) (d + 1) t ho) ?_
   rintro r H' ⟨rfl,rfl⟩
   simp only [eR,sZ,Nat.reduceEqDiff,↓reduceIte,reduceCtorEq]
   exact ⟨i + 1,gB (x.l.getD i default) (d + 1) t,⟨aS,hx.1,by omega,hI⟩,by omega,aE (by rw [ay i (by omega)]) rfl⟩
  ·rw [if_pos (.inl hn1)] at hI;rw [← hI];exact iU (by simp [eR]) rfl
 ·rw [aaZ (dg iR)] at hI
  rw [← hI]
  exact iU (by simp [eR]) rfl
termination_by SizeOf.sizeOf x
decreasing_by exact T.lt hy
def uk (s:Int×Int):Bool:=decide (2000 < s.1) || decide (200 < s.2)
theorem Xg (H:List aa) (s:Int×Int):aw Tryz.prog 172 [.ptr H.length 0] (H++eR s) fun r H'=>r=.bool (uk s)∧H'=H++eR s:=by
 refine NP.2.calls rfl ?_
 simp only [NP,aK]
 simp only [eR,sZ,Nat.reduceEqDiff,Nat.reduceAdd,Nat.reduceLT,↓reduceIte,reduceCtorEq]
 refine ⟨fun h=>?_,fun h=>?_⟩
 ·exact TL (by simp [eR]) rfl (by simp [uk,Int.not_lt.2 h]) rfl
 ·exact TL (by simp [eR]) rfl (by simp [uk,h]) rfl
def sU (p:T→Bool):List T→Int→Int
 | [],_=>-1
 | x::r,k=>if p x=true then k else sU p r (k + 1)
theorem wV (p:T→Bool):∀ (l:List T) (k:Int),0≤k→(decide (0≤sU p l k)=l.any p)
 | [],k,_=>by simp [sU]
 | x::r,k,h=>by
   simp only [sU,adX]
   split
   ·rename_i hp;simp [hp,h]
   ·rename_i hp;simp [hp,wV p r (k + 1) (by omega)]
theorem zh {p:T→Bool} {l:List T} {i:Nat} {k:Int} (h:i < l.length):sU p (l.drop i) k=if p (l.getD i default)=true then k else sU p (l.drop (i + 1)) (k + 1):=by
 rw [aaU h]
 simp [sU,h]
theorem aaM (g:Nat) (p:T→Bool) (l:List T) (hf:∀ x∈l,Pure Tryz.prog g [x.av] (.bool (p x))) :
 Pure Tryz.prog 114 [.al 0 (bS l),.fn (.func g) [] []] (.int .i64 (sU p l 0)):=by
 refine fun H=>CH.2.calls rfl ?_
 simp only [CH,aK]
 simp only [sZ,Nat.reduceEqDiff,Nat.reduceAdd,↓reduceIte,reduceCtorEq]
 intro hl
 refine aR l.length (fun i=>sU p (l.drop i) i=sU p l 0) (fun i=>[(0,.al 0 (bS l)),(1,.fn (.func g) [] []),(7,.int .i64 l.length),(8,.int .i64 i)]) (fun _=>H) ⟨rfl,aD _ _ _⟩ fun i hi hI=>?_
 simp only [sZ,Nat.reduceEqDiff,Nat.reduceAdd,↓reduceIte,reduceCtorEq]
 refine ⟨fun aS=>?_,fun iR=>?_⟩
 ·have aS:=bW aS
  rw [zh aS] at hI
  refine ⟨aS,af (hf _ (fV aS)) ?_⟩
  simp only [sZ,Nat.reduceEqDiff,↓reduceIte,reduceCtorEq]
  refine rf (fun hb=>?_) (fun hb=>?_) <;> simp only [sZ,Nat.reduceEqDiff,↓reduceIte,reduceCtorEq]
  ·rw [if_pos hb] at hI
   exact bf rfl (by rw [← hI])
  ·rw [if_neg (by rw [hb];simp)] at hI
   exact ⟨i + 1,⟨aS,hI⟩,by omega,aE (by rw [ay i (by omega)]) rfl⟩
 ·rw [aaZ (dg iR)] at hI
  exact bf rfl (by rw [← hI];rfl)
theorem c53 (g:Nat) (p:T→Bool) (l:List T) (hf:∀ x∈l,Pure Tryz.prog g [x.av] (.bool (p x))) :
 Pure Tryz.prog 53 [.al 0 (bS l),.fn (.func g) [] []] (.bool (l.any p)):=by
 refine fun H=>Qu.2.calls rfl ?_
 simp only [Qu,aK]
 simp only [sZ,Nat.reduceEqDiff,Nat.reduceAdd,↓reduceIte,reduceCtorEq]
 refine af (aaM g p l hf) ?_
 simp only [sZ,↓reduceIte,reduceCtorEq]
 exact bf rfl (by rw [wV p l 0 (by omega)])
mutual
def T.shaped:T→Bool
 | .mk k n l=>!(decide (n < 0) || (decide (k=1) && decide (0 < l.length)) || (decide (k≠1) && decide (k≠2)) || decide (8 < l.length)) && eE l
def eE:List T→Bool
 | []=>true
 | x::r=>x.shaped && eE r
end
theorem kB:∀ l,eE l=l.all T.shaped
 | []=>rfl
 | x::r=>by simp only [eE,List.all_cons,kB r]
theorem Dj (l:List T):(!(l.any fun x=>!x.shaped))=eE l:=by
 rw [kB]
 induction l with
 | nil=>rfl
 | cons x r ih=>simp only [adX,List.all_cons,Bool.not_or,adQ,ih]
theorem T.dZ (x:T):x.shaped=(!(decide (x.n < 0) || (decide (x.k=1) && decide (0 < x.l.length)) || (decide (x.k≠1) && decide (x.k≠2)) || decide (8 < x.l.length)) && eE x.l):=by
 cases x;simp only [T.shaped,T.k,T.n,T.l];rfl
theorem A4 {l:List T} {i:Nat} (h:i < l.length):eE (l.drop i)=((l.getD i default).shaped && eE (l.drop (i + 1))):=by
 rw [aaU h]
 simp [eE,h]
theorem T.I1 {x:T} (hh:¬ (x.n < 0∨(x.k=1∧0 < x.l.length)∨(x.k≠1∧x.k≠2)∨8 < x.l.length)):x.shaped=eE x.l:=by
 rw [x.dZ]
 have h1:decide (x.n < 0)=false:=acZ.2 (by simp only [ne_eq,decide_eq_true_eq];omega)
 have h2:(decide (x.k=1) && decide (0 < x.l.length))=false:=acZ.2 (by simp only [ne_eq,yu,decide_eq_true_eq];omega)
 have h3:(decide (x.k≠1) && decide (x.k≠2))=false:=acZ.2 (by simp only [ne_eq,yu,decide_eq_true_eq];omega)
 have h4:decide (8 < x.l.length)=false:=acZ.2 (by simp only [ne_eq,decide_eq_true_eq];omega)
 rw [h1,h2,h3,h4];rfl
theorem aaO (x:T) (h:Pure Tryz.prog 173 [x.av] (.bool x.shaped)):Pure Tryz.prog 211 [x.av] (.bool (!x.shaped)):=by
 refine fun H=>N3.2.calls rfl ?_
 simp only [N3,aK]
 simp only [sZ,Nat.reduceEqDiff,Nat.reduceAdd,↓reduceIte]
 refine af h ?_
 simp only [sZ,↓reduceIte,reduceCtorEq]
 exact bf rfl rfl
theorem Xh (x:T):Pure Tryz.prog 173 [x.av] (.bool x.shaped):=by
 have ih:∀ y∈x.l,Pure Tryz.prog 211 [y.av] (.bool (!y.shaped)):=fun y hy=>aaO y (Xh y)
 refine fun H=>NQ.2.calls rfl ?_
 simp only [NQ,aK]
 simp +contextual only [sZ,Nat.reduceEqDiff,Nat.reduceAdd,↓reduceIte,reduceCtorEq]
 have fin:∀ (H':List aa),H'=H→(x.n < 0∨(x.k=1∧0 < x.l.length)∨(x.k≠1∧x.k≠2)∨8 < x.l.length)→bV H.length [RX.t 2] [(2,AV.bool false)] H' fun r H'=>r=AV.bool x.shaped∧H'=H:=by
  rintro H' rfl hh
  refine bf rfl ?_
  rw [x.dZ]
  rcases hh with h | h | h | h <;> simp [h]
 have go:¬ (x.n < 0∨(x.k=1∧0 < x.l.length)∨(x.k≠1∧x.k≠2)∨8 < x.l.length)→x.shaped=eE x.l:=by
  intro hh
  rw [x.dZ]
  have h1:decide (x.n < 0)=false:=acZ.2 (by simp only [ne_eq,decide_eq_true_eq];omega)
  have h2:(decide (x.k=1) && decide (0 < x.l.length))=false:=acZ.2 (by simp only [ne_eq,yu,decide_eq_true_eq];omega)
  have h3:(decide (x.k≠1) && decide (x.k≠2))=false:=acZ.2 (by simp only [ne_eq,yu,decide_eq_true_eq];omega)
  have h4:decide (8 < x.l.length)=false:=acZ.2 (by simp only [ne_eq,decide_eq_true_eq];omega)
  rw [h1,h2,h3,h4];rfl
 refine ⟨fun h=>fin _ rfl (.inl h),fun h=>⟨fun h1 hl=>⟨fun h2=>fin _ rfl (by omega),fun h2=>⟨fun h3=>fin _ rfl (by omega),fun h3=>af (c53 211 _ _ ih) ?_⟩⟩,
  fun h1=>⟨fun h2=>fin _ rfl (by omega),fun h2 hl=>⟨fun h3=>fin _ rfl (by omega),fun h3=>af (c53 211 _ _ ih) ?_⟩⟩⟩⟩ <;>
 ·simp only [sZ,↓reduceIte,reduceCtorEq]
  exact bf rfl (by rw [go (by omega),Dj])
termination_by SizeOf.sizeOf x
decreasing_by exact T.lt hy
def T.tree (x:T):Bool:=!uk (gB x 1 (0,0)) && x.shaped
theorem Xi (x:T):Pure Tryz.prog 108 [x.av] (.bool x.tree):=by
 refine fun H=>NH.2.calls rfl ?_
 simp only [NH,aK]
 simp only [sZ,Nat.reduceEqDiff,Nat.reduceAdd,↓reduceIte,reduceCtorEq]
 refine ag (TS H x 1 (0,0) (by unfold pG;simp)) ?_
 rintro r H' ⟨rfl,rfl⟩
 simp only [sZ,Nat.reduceEqDiff,Nat.reduceAdd,↓reduceIte]
 refine ag (Xg H (gB x 1 (0,0))) ?_
 rintro r H' ⟨rfl,rfl⟩
 cases hb:uk (gB x 1 (0,0)) <;> simp +contextual only [sZ,Nat.reduceEqDiff,Nat.reduceAdd,↓reduceIte,reduceCtorEq]
 ·refine af (Xh x) ?_
  simp only [sZ,Nat.reduceEqDiff,↓reduceIte,reduceCtorEq]
  exact Lh rfl (by simp [T.tree,hb])
 ·exact Lh rfl (by simp [T.tree,hb])
theorem aaP (x:T):Pure Tryz.prog 178 [x.av] (.bool (!x.tree)):=by
 refine fun H=>NR.2.calls rfl ?_
 simp only [NR,aK]
 simp only [sZ,Nat.reduceEqDiff,Nat.reduceAdd,↓reduceIte]
 refine af (Xi x) ?_
 simp only [sZ,↓reduceIte,reduceCtorEq]
 exact bf rfl rfl
def mK (l:List T):Bool:=l.all T.tree
theorem aaQ (l:List T):Pure Tryz.prog 121 [.al 0 (bS l)] (.int .i64 (if mK l=true then 0 else 4)):=by
 refine fun H=>NJ.2.calls rfl ?_
 simp only [NJ,aK]
 simp only [sZ,Nat.reduceAdd,↓reduceIte,reduceCtorEq]
 refine af (c53 178 _ l fun x _=>aaP x) ?_
 have e:(l.any fun x=>!x.tree)=!mK l:=by
  unfold mK
  induction l with
  | nil=>rfl
  | cons x r ih=>simp only [adX,List.all_cons,ih,Bool.not_and]
 rw [e]
 cases mK l <;> simp +contextual only [sZ,↓reduceIte,reduceCtorEq]
 ·exact bf rfl rfl
 ·exact bf rfl rfl
mutual
def gY:T→Int→Int→Int×Bool
 | .mk _ _ l,left,deep=>if left - 1 < 0∨200 < deep then (left - 1,false) else mL l (left - 1) (deep + 1)
def mL:List T→Int→Int→Int×Bool
 | [],left,_=>(left,true)
 | x::r,left,deep=>if (gY x left deep).2=true then mL r (gY x left deep).1 deep else ((gY x left deep).1,false)
end
mutual
theorem A5:∀ (x:T) (left deep:Int),(gY x left deep).1≤left∧(0≤left→-1≤(gY x left deep).1∧((gY x left deep).2=true→0≤(gY x left deep).1))
 | .mk k n l,left,deep=>by
   simp only [gY]
   split
   ·simp;omega
   ·rename_i hn
    have:=GX l (left - 1) (deep + 1)
    exact ⟨by omega,fun _=>this.2 (by omega)⟩
theorem GX:∀ (l:List T) (left deep:Int),(mL l left deep).1≤left∧(0≤left→-1≤(mL l left deep).1∧((mL l left deep).2=true→0≤(mL l left deep).1))
 | [],left,deep=>by simp [mL];omega
 | x::r,left,deep=>by
   have h1:=A5 x left deep
   simp only [mL]
   split
   ·rename_i hb
    have h2:=GX r (gY x left deep).1 deep
    exact ⟨by omega,fun h0=>h2.2 ((h1.2 h0).2 hb)⟩
   ·exact ⟨h1.1,fun h0=>⟨(h1.2 h0).1,fun e=>by cases e⟩⟩
end
theorem I2 {l:List T} {i:Nat} {left d:Int} (h:i < l.length):mL (l.drop i) left d=if (gY (l.getD i default) left d).2=true then mL (l.drop (i + 1)) (gY (l.getD i default) left d).1 d else ((gY (l.getD i default) left d).1,false):=by
 rw [aaU h]
 simp [mL,h]
theorem Xj (x:T) (left deep:Int) (h0:0≤left) (h1:left≤100000) (h2:0≤deep) (h3:deep≤201) :
 Pure Tryz.prog 214 [x.av,.int .i64 left,.int .i64 deep] (.tuple [.int .i64 (gY x left deep).1,.bool (gY x left deep).2]):=by
 have ih:∀ y∈x.l,∀ (left deep:Int),0≤left→left≤100000→0≤deep→deep≤201→
  Pure Tryz.prog 214 [y.av,.int .i64 left,.int .i64 deep] (.tuple [.int .i64 (gY y left deep).1,.bool (gY y left deep).2]):=fun y hy left deep h0 h1 h2 h3=>Xj y left deep h0 h1 h2 h3
 have e:gY x left deep=if left - 1 < 0∨200 < deep then (left - 1,false) else mL x.l (left - 1) (deep + 1):=by cases x;simp only [gY,T.l]
 have w1:IntKind.i64.wrap (left - 1)=left - 1:=eD _ (by omega)
 have w2:IntKind.i64.wrap (deep + 1)=deep + 1:=eD _ (by omega)
 refine fun H=>WC.2.calls rfl ?_
 simp only [WC,aK]
 simp +contextual only [w1,sZ,Nat.reduceEqDiff,Nat.reduceAdd,↓reduceIte,reduceCtorEq]
 refine ⟨fun h4=>⟨fun h5=>GU (by decide) rfl rfl (by rw [e,if_pos (.inr h5)];rfl) (by rw [e,if_pos (.inr h5)];rfl),fun h5=>?_⟩,fun h4=>GU (by decide) rfl rfl (by rw [e,if_pos (.inl h4)];rfl) (by rw [e,if_pos (.inl h4)];rfl)⟩
 have e2:gY x left deep=mL x.l (left - 1) (deep + 1):=by rw [e,if_neg (by omega)]
 refine aB x.l.length (fun i (s:Int)=>0≤s∧s≤100000∧mL (x.l.drop i) s (deep + 1)=gY x left deep)
  (fun i s=>[(1,.int .i64 s),(2,.int .i64 deep),(3,x.av.aj),(8,.int .i64 i)]) (fun i s=>H) (left - 1) ⟨⟨by omega,by omega,by rw [e2];rfl⟩,aD _ _ _⟩ fun i s hi hI=>?_
 obtain ⟨k0,k1,hI⟩:=hI
 simp +contextual only [w2,sZ,Nat.reduceEqDiff,Nat.reduceAdd,↓reduceIte,reduceCtorEq]
 intro hl
 refine ⟨fun aS=>⟨bW aS,?_⟩,fun iR=>?_⟩
 ·have aS:=bW aS
  rw [I2 aS] at hI
  have hle:=A5 (x.l.getD i default) s (deep + 1)
  refine af (ih _ (fV aS) s (deep + 1) k0 k1 (by omega) (by omega)) ?_
  simp +contextual only [sZ,Nat.reduceEqDiff,Nat.reduceAdd,Nat.reduceLT,↓reduceIte]
  refine rf (fun hb=>?_) (fun hb=>?_) <;> simp +contextual only [sZ,Nat.reduceEqDiff,↓reduceIte,reduceCtorEq]
  ·rw [if_pos hb] at hI
   exact ⟨i + 1,_,⟨aS,(hle.2 k0).2 hb,by omega,hI⟩,by omega,aE (by rw [ay i (by omega)]) rfl⟩
  ·rw [if_neg (by rw [hb];simp)] at hI
   exact GU (by decide) rfl rfl (by rw [← hI];rfl) (by rw [← hI];rfl)
 ·rw [aaZ (dg iR)] at hI
  exact GU (by decide) rfl rfl (by rw [← hI];rfl) (by rw [← hI];rfl)
termination_by SizeOf.sizeOf x
decreasing_by exact T.lt hy
theorem Xk (x:T):Pure Tryz.prog 215 [x.av] (.bool x.shaped):=by
 have ih:∀ y∈x.l,Pure Tryz.prog 215 [y.av] (.bool y.shaped):=fun y hy=>Xk y
 refine fun H=>WD.2.calls rfl ?_
 simp only [WD,aK]
 simp +contextual only [sZ,Nat.reduceEqDiff,Nat.reduceAdd,↓reduceIte,reduceCtorEq,Int.reduceEq]
 have fin:∀ (H':List aa),H'=H→(x.n < 0∨(x.k=1∧0 < x.l.length)∨(x.k≠1∧x.k≠2)∨8 < x.l.length)→bV H.length [RX.t 2] [(2,AV.bool false)] H' fun r H'=>r=AV.bool x.shaped∧H'=H:=by
  rintro H' rfl hh
  refine bf rfl ?_
  rw [x.dZ]
  rcases hh with h | h | h | h <;> simp [h]
 refine ⟨fun h=>⟨fun h1=>⟨fun h2 hl=>⟨fun h3=>fin _ rfl (by omega),fun h3=>?_⟩,fun h2=>fin _ rfl (by omega)⟩,fun h1 hl=>⟨fun h2=>⟨fun h3=>fin _ rfl (by omega),fun h3=>?_⟩,fun h2=>fin _ rfl (by omega)⟩⟩,fun h=>fin _ rfl (by omega)⟩
 all_goals
  have go:x.shaped=eE x.l:=T.I1 (by omega)
  refine aR x.l.length (fun i=>eE (x.l.drop i)=x.shaped) (fun i=>[(1,x.av.aj),(3,.int .i64 i)]) (fun i=>H) ⟨by rw [go];rfl,aD _ _ _⟩ fun i hi hI=>?_
  simp +contextual only [sZ,Nat.reduceEqDiff,Nat.reduceAdd,↓reduceIte,reduceCtorEq]
  intro _
  refine ⟨fun aS=>⟨bW aS,?_⟩,fun iR=>?_⟩
  ·have aS:=bW aS
   rw [A4 aS] at hI
   refine af (ih _ (fV aS)) ?_
   simp +contextual only [sZ,Nat.reduceEqDiff,↓reduceIte]
   refine rf (fun hb=>?_) (fun hb=>?_) <;> simp +contextual only [sZ,Nat.reduceEqDiff,↓reduceIte,reduceCtorEq]
   ·exact ⟨i + 1,⟨aS,by rw [hb] at hI;simpa using hI⟩,by omega,aE (by rw [ay i (by omega)]) rfl⟩
   ·exact bf rfl (by rw [← hI,hb];rfl)
  ·rw [aaZ (dg iR)] at hI
   exact bf rfl (by rw [← hI];rfl)
termination_by SizeOf.sizeOf x
decreasing_by exact T.lt hy
theorem aaR (x:T):Pure Tryz.prog 175 [x.av] (.bool ((gY x 2000 1).2 && x.shaped)):=by
 refine fun H=>Wr.2.calls rfl ?_
 simp only [Wr,aK]
 simp +contextual only [sZ,Nat.reduceEqDiff,Nat.reduceAdd,↓reduceIte]
 refine af (Xj x 2000 1 (by omega) (by omega) (by omega) (by omega)) ?_
 cases hb:(gY x 2000 1).2 <;> simp +contextual only [sZ,Nat.reduceEqDiff,Nat.reduceAdd,Nat.reduceLT,↓reduceIte,reduceCtorEq]
 ·exact bf rfl rfl
 ·refine af (Xk x) ?_
  simp +contextual only [sZ,Nat.reduceEqDiff,↓reduceIte,reduceCtorEq]
  exact bf rfl rfl
end Go.aJ
end
section
set_option maxRecDepth 100000
namespace Go.aJ
open Go Go.Proofs
mutual
def T.sz:T→Int
 | .mk _ _ l=>1 + sd l
def sd:List T→Int
 | []=>0
 | x::r=>x.sz + sd r
end
mutual
def T.dp:T→Int
 | .mk _ _ l=>1 + JC l
def JC:List T→Int
 | []=>0
 | x::r=>max x.dp (JC r)
end
mutual
theorem T.FE:∀ x:T,1≤x.sz
 | .mk k n l=>by simp only [T.sz];have:=kC l;omega
theorem kC:∀ l:List T,0≤sd l
 | []=>by simp [sd]
 | x::r=>by simp only [sd];have:=T.FE x;have:=kC r;omega
end
mutual
theorem T.A6:∀ x:T,1≤x.dp
 | .mk k n l=>by simp only [T.dp];have:=oX l;omega
theorem oX:∀ l:List T,0≤JC l
 | []=>by simp [JC]
 | x::r=>by simp only [JC];have:=T.A6 x;have:=oX r;omega
end
def eO (s:Int×Int):Prop:=2000 < s.1∨200 < s.2
mutual
theorem sV:∀ (x:T) (d:Int) (s:Int×Int),pG d s→(¬ eO (gB x d s)↔s.1 + x.sz≤2000∧d + x.dp - 1≤200)∧(¬ eO (gB x d s)→(gB x d s).1=s.1 + x.sz∧(gB x d s).2=max s.2 (d + x.dp - 1))
 | .mk k n l,d,s,h=>by
   obtain ⟨h1,h2,h3,h4,h5,h6⟩:=h
   simp only [gB,T.sz,T.dp]
   have hp:=oX l
   have ih:=zi l (d + 1) (s.1 + 1,max s.2 d) (by unfold mJ;simp only;omega) (by omega) (by simp only;omega)
   simp only at ih
   refine ⟨ih.1.trans ⟨fun k=>⟨by omega,by omega⟩,fun k=>⟨by omega,by omega,by omega⟩⟩,fun k=>?_⟩
   have k1:=ih.2 k
   have k2:=ih.1.1 k
   exact ⟨by omega,by omega⟩
theorem zi:∀ (l:List T) (d:Int) (s:Int×Int),mJ s→0≤d→d≤s.2 + 1→(¬ eO (k9 l d s)↔s.1 + sd l≤2000∧s.2≤200∧d + JC l - 1≤200)∧(¬ eO (k9 l d s)→(k9 l d s).1=s.1 + sd l∧(k9 l d s).2=max s.2 (d + JC l - 1))
 | [],d,s,h,h5,h6=>by
   simp only [k9,sd,JC,eO]
   exact ⟨⟨fun k=>⟨by omega,by omega,by omega⟩,fun k=>by omega⟩,fun k=>⟨by omega,by omega⟩⟩
 | x::r,d,s,h,h5,h6=>by
   obtain ⟨h1,h2,h3,h4⟩:=h
   simp only [k9]
   have JT:=x.FE
   have hd0:=x.A6
   have hr0:=kC r
   have Z9:=oX r
   simp only [sd,JC]
   by_cases ho:2000 < s.1∨200 < s.2
   ·rw [if_pos ho]
    refine ⟨⟨fun k=>absurd ho k,fun k=>?_⟩,fun k=>absurd ho k⟩
    omega
   ·rw [if_neg ho]
    have jv:pG d s:=⟨h1,by omega,h3,by omega,h5,by omega⟩
    have hx:=sV x d s jv
    have Xl:=wU x d s jv
    have Q0:=sT x d s
    have ih:=zi r d (gB x d s) Xl.1 h5 (by omega)
    generalize gB x d s=t at *
    by_cases ZA:eO t
    ·have hn:eO (k9 r d t):=by
      refine Classical.byContradiction fun hc=>?_
      have:=ih.1.1 hc
      unfold eO at ZA
      omega
     refine ⟨⟨fun k=>absurd hn k,fun k=>?_⟩,fun k=>absurd hn k⟩
     have:=hx.1.2 (by omega)
     exact absurd ZA this
    ·have k1:=hx.2 ZA
     have k2:=hx.1.1 ZA
     refine ⟨ih.1.trans ⟨fun k=>⟨by omega,by omega,by omega⟩,fun k=>⟨by omega,by omega,by omega⟩⟩,fun k=>?_⟩
     have k3:=ih.2 k
     exact ⟨by omega,by omega⟩
end
theorem sW (s:Int×Int):uk s=true↔eO s:=by simp [uk,eO]
mutual
theorem zj:∀ (x:T) (left d:Int),0≤left→d≤201→((gY x left d).2=true↔x.sz≤left∧d + x.dp - 1≤200)∧((gY x left d).2=true→(gY x left d).1=left - x.sz)
 | .mk k n l,left,d,h0,hd=>by
   simp only [gY,T.sz,T.dp]
   have hp:=oX l
   have hs:=kC l
   by_cases ho:left - 1 < 0∨200 < d
   ·rw [if_pos ho]
    refine ⟨⟨fun k=>(by cases k),fun k=>?_⟩,fun k=>(by cases k)⟩
    omega
   ·rw [if_neg ho]
    have ih:=zk l (left - 1) (d + 1) (by omega) (by omega)
    exact ⟨ih.1.trans ⟨fun k=>⟨by omega,by omega⟩,fun k=>⟨by omega,by omega⟩⟩,fun k=>by have:=ih.2 k;omega⟩
theorem zk:∀ (l:List T) (left d:Int),0≤left→d≤201→((mL l left d).2=true↔sd l≤left∧d + JC l - 1≤200)∧((mL l left d).2=true→(mL l left d).1=left - sd l)
 | [],left,d,h0,hd=>by simp only [mL,sd,JC];exact ⟨⟨fun _=>⟨by omega,by omega⟩,fun _=>trivial⟩,fun _=>by omega⟩
 | x::r,left,d,h0,hd=>by
   simp only [mL,sd,JC]
   have JT:=x.FE
   have hd0:=x.A6
   have hr0:=kC r
   have Z9:=oX r
   have hx:=zj x left d h0 hd
   have hle:=A5 x left d
   cases hb:(gY x left d).2 with
   | false=>
     rw [if_neg (by simp)]
     refine ⟨⟨fun k=>(by cases k),fun k=>?_⟩,fun k=>(by cases k)⟩
     have:=hx.1.2 (by omega)
     rw [hb] at this;cases this
   | true=>
     rw [if_pos rfl]
     have k1:=hx.2 hb
     have k2:=hx.1.1 hb
     have ih:=zk r (gY x left d).1 d ((hle.2 h0).2 hb) hd
     exact ⟨ih.1.trans ⟨fun k=>⟨by omega,by omega⟩,fun k=>⟨by omega,by omega⟩⟩,fun k=>by have:=ih.2 k;omega⟩
end
theorem T.fp (x:T):x.tree=true↔x.sz≤2000∧x.dp≤200∧x.shaped=true:=by
 have h:=(sV x 1 (0,0) (by unfold pG;simp)).1
 unfold T.tree
 rw [yu,abr,← Bool.not_eq_true,sW]
 constructor
 ·rintro ⟨h1,h2⟩
  have:=h.1 h1
  simp only at this
  exact ⟨by omega,by omega,h2⟩
 ·rintro ⟨h1,h2,h3⟩
  exact ⟨h.2 (by simp only;omega),h3⟩
theorem TT (x:T):((gY x 2000 1).2 && x.shaped)=x.tree:=by
 have h:=(zj x 2000 1 (by omega) (by omega)).1
 rw [ac0,yu,h,T.fp]
 constructor
 ·rintro ⟨⟨h1,h2⟩,h3⟩;exact ⟨h1,by omega,h3⟩
 ·rintro ⟨h1,h2,h3⟩;exact ⟨⟨h1,by omega⟩,h3⟩
theorem Xm (x:T):Pure Tryz.prog 175 [x.av] (.bool x.tree):=by rw [← TT];exact aaR x
theorem Ll {p:T→Bool} {l:List T} {i:Nat} (h:i < l.length):(l.drop i).all p=(p (l.getD i default) && (l.drop (i + 1)).all p):=by
 rw [aaU h,List.all_cons]
 simp [h]
theorem afq (l:List T):Pure Tryz.prog 243 [.al 0 (bS l)] (.bool (mK l)):=by
 refine fun H=>WM.2.calls rfl ?_
 simp only [WM,aK]
 simp +contextual only [sZ,Nat.reduceAdd,↓reduceIte,reduceCtorEq]
 refine aR l.length (fun i=>(l.drop i).all T.tree=mK l) (fun i=>[(0,.al 0 (bS l)),(3,.int .i64 i)]) (fun i=>H) ⟨rfl,aD _ _ _⟩ fun i hi hI=>?_
 simp +contextual only [sZ,Nat.reduceEqDiff,Nat.reduceAdd,↓reduceIte,reduceCtorEq]
 intro _
 refine ⟨fun aS=>⟨bW aS,?_⟩,fun iR=>?_⟩
 ·have aS:=bW aS
  rw [Ll aS] at hI
  refine af (Xm _) ?_
  simp +contextual only [sZ,Nat.reduceEqDiff,↓reduceIte,reduceCtorEq]
  refine rf (fun hb=>?_) (fun hb=>?_) <;> simp +contextual only [sZ,↓reduceIte,reduceCtorEq]
  ·exact ⟨i + 1,⟨aS,by rw [hb] at hI;simpa using hI⟩,by omega,aE (by rw [ay i (by omega)]) rfl⟩
  ·exact bf rfl (by rw [← hI,hb];rfl)
 ·rw [aaZ (dg iR)] at hI
  exact bf rfl (by rw [← hI];rfl)
def ents (vs:List Int):List (AV×AV):=vs.map fun v=>(.int .i64 v,.bool true)
theorem qe (n:Int):∀ (vs:List Int) (i:Nat),(n∈vs→∃ j,dk 0 (.int .i64 n) (ents vs) i=some (some (j,.bool true)))∧(n∉vs→dk 0 (.int .i64 n) (ents vs) i=some none)
 | [],i=>⟨fun h=>(by cases h),fun _=>rfl⟩
 | v::r,i=>by
   have ih:=qe n r (i + 1)
   simp only [ents,List.map_cons,dk,cE,if_true]
   by_cases hv:n=v
   ·subst hv
    simp
   ·simp only [UQ,hv,false_or]
    exact ih
theorem rq (n:Int) (vs:List Int) (φ:AV→Prop):gg (some (.map (ents vs))) 0 (.bool false) (.int .i64 n) false φ=φ (.bool (decide (n∈vs))):=by
 have h:=qe n vs 0
 unfold gg
 by_cases hn:n∈vs
 ·obtain ⟨j,hj⟩:=h.1 hn
  simp [hj,hn,mD]
 ·simp [h.2 hn,hn,cE,aP,bj.aP,mD]
theorem GY {n:Int} {vs:List Int} (hn:n∉vs) (id:Nat) (H:List aa) (K:List aa→Prop):eX (some (.map (ents vs))) 0 id (.int .i64 n) (.bool true) H K=K (H.set id (.map (ents (vs++[n])))):=by
 have h:=(qe n vs 0).2 hn
 unfold eX
 simp only [h]
 simp [cE,gW,rc,ve,ents,aP,bj.aP,mD]
def iV:List Int→AV
 | []=>.ah
 | v::r=>.al 1 (ints (v::r))
theorem iI (vs:List Int) (n:Int):AV.al 1 (ints (vs++[n]))=iV (vs++[n]):=by
 cases vs <;> rfl
theorem Dk (vs:List Int):(iV vs).one=true:=by cases vs <;> rfl
theorem Lm (k:Nat) (vs:List Int):(iV vs).a8 k=true:=by
 cases vs with
 | nil=>rfl
 | cons v r=>simp only [iV,ch,aW]
theorem qf (vs:List Int) (n:Int) (o:Nat) (ψ:List AV→Prop):bw 1 8 (iV vs) (.al o [.int .i64 n]) ψ=((vs.length + 1) * 8≤140737488355328∧ψ (ints (vs++[n]))):=by
 cases vs with
 | nil=>simp [iV,mE,ok_int,ints]
 | cons v r=>
   show bw 1 8 (.al 1 (ints (v::r))) _ ψ=_
   rw [kZ,ok_int,ax,sS]
   simp
def cQ (vs:List Int):List aa:=[.cells [iV vs],.map (ents vs)]
def A7 (vs:List Int) (x:T):List Int:=if x.k=1∧x.n∉vs then vs++[x.n] else vs
theorem aaS (H:List aa) (x:T) (vs:List Int) (hl:vs.length≤1000000) :
 aw Tryz.prog 246 [x.av,.aj (.map (H.length + 1)),.ptr H.length 0] (H++cQ vs) fun r H'=>r=.tuple []∧H'=H++cQ (A7 vs x):=by
 refine Of.2.calls rfl ?_
 simp only [Of,aK]
 simp +contextual only [cQ,rq,sZ,Nat.reduceEqDiff,Nat.reduceAdd,↓reduceIte,reduceCtorEq]
 refine ⟨fun hk=>⟨fun hn=>?_,fun hn=>?_⟩,fun hk=>?_⟩
 ·exact iU (by simp [cQ]) (by simp [A7,hk,hn,cQ])
 ·rw [GY hn]
  simp +contextual only [qf,iI,Dk,Lm,sZ,Nat.reduceEqDiff,Nat.reduceAdd,Nat.reduceLT,↓reduceIte,reduceCtorEq]
  refine ⟨by omega,?_⟩
  exact iU (by simp [cQ]) (by simp [A7,hk,hn,cQ])
 ·exact iU (by simp [cQ]) (by simp [A7,hk,cQ])
mutual
def ni:T→List Int→List Int
 | .mk k n l,vs=>dO l (if k=1∧n∉vs then vs++[n] else vs)
def dO:List T→List Int→List Int
 | [],vs=>vs
 | x::r,vs=>dO r (ni x vs)
end
mutual
theorem sX:∀ (x:T) (vs:List Int),((ni x vs).length:Int)≤vs.length + x.sz
 | .mk k n l,vs=>by
   simp only [ni,T.sz]
   have:=wW l (if k=1∧n∉vs then vs++[n] else vs)
   split at this
   ·rename_i h;rw [if_pos h];simp only [aab,List.length_cons,List.length_nil] at this;omega
   ·rename_i h;rw [if_neg h];omega
theorem wW:∀ (l:List T) (vs:List Int),((dO l vs).length:Int)≤vs.length + sd l
 | [],vs=>by simp [dO,sd]
 | x::r,vs=>by
   simp only [dO,sd]
   have h1:=sX x vs
   have h2:=wW r (ni x vs)
   omega
end
theorem ul {l:List T} {i:Nat} {vs:List Int} (h:i < l.length):dO (l.drop i) vs=dO (l.drop (i + 1)) (ni (l.getD i default) vs):=by
 rw [aaU h]
 simp [dO,h]
theorem Dl {l:List T} {i:Nat} (h:i < l.length):sd (l.drop i)=(l.getD i default).sz + sd (l.drop (i + 1)):=by
 rw [aaU h]
 simp [sd,h]
theorem Xn (H:List aa) (x:T) (vs:List Int) (hl:vs.length + x.sz≤1000000) :
 aw Tryz.prog 245 [x.av,.fn (.func 246) [] [.aj (.map (H.length + 1)),.ptr H.length 0]] (H++cQ vs) fun r H'=>r=.tuple []∧H'=H++cQ (ni x vs):=by
 have ih:∀ y∈x.l,∀ (vs:List Int),vs.length + y.sz≤1000000→aw Tryz.prog 245 [y.av,.fn (.func 246) [] [.aj (.map (H.length + 1)),.ptr H.length 0]] (H++cQ vs) fun r H'=>r=.tuple []∧H'=H++cQ (ni y vs):=
  fun y hy vs h=>Xn H y vs h
 have e:ni x vs=dO x.l (A7 vs x):=by cases x;simp only [ni,A7,T.k,T.n,T.l];rfl
 have es:x.sz=1 + sd x.l:=by cases x;simp only [T.sz,T.l]
 have VK:=kC x.l
 have ha:((A7 vs x).length:Int)≤vs.length + 1:=by
  unfold A7;split
  ·simp only [aab,List.length_cons,List.length_nil];omega
  ·omega
 refine Oe.2.calls rfl ?_
 simp only [Oe,aK]
 simp +contextual only [cQ,sZ,Nat.reduceEqDiff,Nat.reduceAdd,↓reduceIte,reduceCtorEq]
 refine ag (aaS H x vs (by omega)) ?_
 rintro r H' ⟨rfl,rfl⟩
 simp +contextual only [cQ,sZ,Nat.reduceEqDiff,↓reduceIte]
 intro HI
 refine aB x.l.length (fun i (s:List Int)=>(s.length:Int) + sd (x.l.drop i)≤1000000∧dO (x.l.drop i) s=ni x vs)
  (fun i s=>[(1,.fn (.func 246) [] [.aj (.map (H.length + 1)),.ptr H.length 0]),(10,.al 0 (bS x.l)),(11,.int .i64 x.l.length),(12,.int .i64 i)]) (fun i s=>H++cQ s) (A7 vs x) ⟨⟨by rw [List.drop_zero];omega,by rw [e];rfl⟩,aD _ _ _⟩ fun i s hi hI=>?_
 obtain ⟨k1,hI⟩:=hI
 simp +contextual only [cQ,sZ,Nat.reduceEqDiff,Nat.reduceAdd,↓reduceIte,reduceCtorEq]
 refine ⟨fun aS=>⟨bW aS,?_⟩,fun iR=>?_⟩
 ·have aS:=bW aS
  rw [ul aS] at hI
  rw [Dl aS] at k1
  have hp:=kC (x.l.drop (i + 1))
  refine ag (ih _ (fV aS) s (by omega)) ?_
  rintro r H' ⟨rfl,rfl⟩
  simp +contextual only [cQ,sZ,Nat.reduceEqDiff,↓reduceIte]
  have:=sX (x.l.getD i default) s
  exact ⟨i + 1,_,⟨aS,by omega,hI⟩,by omega,aE (by rw [ay i (by omega)]) rfl⟩
 ·rw [aaZ (dg iR)] at hI
  rw [← hI]
  exact iU (by simp [cQ]) rfl
termination_by SizeOf.sizeOf x
decreasing_by exact T.lt hy
theorem wX (vs:List Int):(iV vs).ae.le (.al 0 (ints vs)):=by
 cases vs with
 | nil=>exact .inr (.inr (.inr (.inl ⟨rfl,0,rfl⟩)))
 | cons v r=>exact le_refl _
theorem aaT (l:List T) (hl:sd l≤1000000):Pure Tryz.prog 237 [.al 0 (bS l)] (.al 0 (ints (dO l []))):=by
 refine fun H=>Ob.2.calls rfl ?_
 simp only [Ob,aK]
 simp +contextual only [sZ,Nat.reduceEqDiff,Nat.reduceAdd,↓reduceIte,reduceCtorEq]
 intro HI
 refine aB l.length (fun i (s:List Int)=>(s.length:Int) + sd (l.drop i)≤1000000∧dO (l.drop i) s=dO l [])
  (fun i s=>[(3,.ptr H.length 0),(4,.aj (.map (H.length + 1))),(8,.al 0 (bS l)),(9,.int .i64 l.length),(10,.int .i64 i)]) (fun i s=>H++cQ s) [] ⟨⟨by rw [List.drop_zero,List.length_nil];omega,rfl⟩,aD _ _ _⟩ fun i s hi hI=>?_
 obtain ⟨k1,hI⟩:=hI
 simp +contextual only [cQ,sZ,Nat.reduceEqDiff,Nat.reduceAdd,Nat.reduceLT,↓reduceIte,reduceCtorEq]
 refine ⟨fun aS=>⟨bW aS,?_⟩,fun iR=>?_⟩
 ·have aS:=bW aS
  rw [ul aS] at hI
  rw [Dl aS] at k1
  have hp:=kC (l.drop (i + 1))
  refine ag (Xn H (l.getD i default) s (by omega)) ?_
  rintro r H' ⟨rfl,rfl⟩
  simp +contextual only [cQ,sZ,Nat.reduceEqDiff,↓reduceIte]
  have:=sX (l.getD i default) s
  exact ⟨i + 1,_,⟨aS,by omega,hI⟩,by omega,aE (by rw [ay i (by omega)]) rfl⟩
 ·rw [aaZ (dg iR)] at hI
  have:s=dO l []:=hI
  subst this
  refine Xc ?_ (by simp only [ch,aW])
  have e:(iV (dO l [])).ae.ae=(iV (dO l [])).ae:=by cases (dO l []) <;> rfl
  rw [e]
  exact wX _
mutual
def rvT:T→List Int→List Int
 | .mk k n l,vs=>if k=1 then (if n∈vs then vs else vs++[n]) else Xo l vs
def Xo:List T→List Int→List Int
 | [],vs=>vs
 | x::r,vs=>Xo r (rvT x vs)
end
mutual
theorem Py:∀ (x:T) (vs:List Int),x.shaped=true→ni x vs=rvT x vs
 | .mk k n l,vs,h=>by
   have h':=h
   rw [T.dZ] at h
   simp only [T.k,T.n,T.l,yu,abr,acR,ad2] at h
   obtain ⟨⟨⟨⟨h1,h2⟩,h3⟩,h4⟩,h5⟩:=h
   simp only [ni,rvT]
   by_cases hk:k=1
   ·have hl:l=[]:=by
     rcases h2 with h2 | h2
     ·simp [hk] at h2
     ·cases l with
      | nil=>rfl
      | cons x r=>simp at h2
    subst hl
    simp only [dO,hk,true_and,if_true]
    by_cases hn:n∈vs <;> simp [hn]
   ·simp only [hk,false_and,if_false]
    exact wY l vs h5
theorem wY:∀ (l:List T) (vs:List Int),eE l=true→dO l vs=Xo l vs
 | [],vs,_=>rfl
 | x::r,vs,h=>by
   simp only [eE,yu] at h
   simp only [dO,Xo,Py x vs h.1]
   exact wY r _ h.2
end
def kc (l:List T):List Int:=if mK l=true then Xo l [] else []
end Go.aJ
end
section
set_option maxRecDepth 100000
namespace Go.aJ
open Go Go.Proofs
mutual
def Xp (f:Int→T):T→T
 | .mk k n l=>if k=1 then f n else .mk k n (Q3 f l)
def Q3 (f:Int→T):List T→List T
 | []=>[]
 | x::r=>Xp f x::Q3 f r
end
def sY:List T→AV
 | []=>.ah
 | v::r=>.al 3 (bS (v::r))
theorem Ln (l:List T) (x:T):bS l++[x.av]=bS (l++[x]):=by simp [mH]
theorem I3 (vs:List T) (n:T):AV.al 3 (bS (vs++[n]))=sY (vs++[n]):=by
 cases vs <;> rfl
theorem Pz (b:Nat) (vs:List T) (n:T) (o:Nat) (ψ:List AV→Prop):bw 3 b (sY vs) (.al o [n.av]) ψ=((vs.length + 1) * b≤140737488355328∧ψ (bS (vs++[n]))):=by
 cases vs with
 | nil=>simp [sY,mE,TO,bS]
 | cons v r=>
   show bw 3 b (.al 3 (bS (v::r))) _ ψ=_
   rw [kZ,TO,rn,Ln]
   simp
theorem kD {x:T} (h:x.shaped=true):x.l.length≤8∧∀ y∈x.l,y.shaped=true:=by
 rw [x.dZ,yu,abr,acR] at h
 have h1:=h.1.2
 have h2:=h.2
 rw [kB] at h2
 exact ⟨by simpa using h1,fun y hy=>aaL.1 h2 y hy⟩
end Go.aJ
end
section
set_option maxRecDepth 100000
namespace Go.aJ
open Go Go.Proofs
end Go.aJ
end
section
set_option maxRecDepth 100000
namespace Go.aJ
open Go Go.RowKit
mutual
def T.wf:T→Prop
 | .mk k n l=>(-9223372036854775808≤k∧k≤9223372036854775807)∧(-9223372036854775808≤n∧n≤9223372036854775807)∧l.length≤9223372036854775807∧Vb l
def Vb:List T→Prop
 | []=>True
 | x::r=>x.wf∧Vb r
end
theorem GZ:∀ l:List T,Vb l↔∀ x∈l,x.wf
 | []=>by simp [Vb]
 | x::r=>by simp [Vb,GZ r]
section
variable {H:Type} {enc:TypeId×Value→H} {P:Program} {w:World} {base:Nat} {sp:Nat→Bool} {held:Bool}
structure mM (P:Program) (ti tt tl:TypeId):Prop where
 int:P.underlying ti=some (.int .i64)
 tree:∃ f0 f1 f2:Field,P.underlying tt=some (.struct #[f0,f1,f2])∧f0.type=ti∧f0.offset=0∧f1.type=ti∧f1.offset=1∧f2.type=tl∧f2.offset=2
 list:P.underlying tl=some (.slice tt)
 c1:P.cellsOf ti=1
 c3:P.cellsOf tt=3
 cl:P.cellsOf tl=1
theorem Lo {n:Int} (h:(Lit.int .i64 n).wf=true):-9223372036854775808≤n∧n≤9223372036854775807:=by
 simp only [Lit.wf,yu,decide_eq_true_eq] at h
 revert h
 simp [IntKind.has,IntKind.min,IntKind.max,IntKind.signed,IntKind.bits]
theorem FF {n:Nat} {p:Nat→T→Prop} (h:∀ i,i < n→∃ t,p i t):∃ f:Nat→T,∀ i,i < n→p i (f i):=by
 refine ⟨fun i=>if hi:i < n then Classical.choose (h i hi) else default,fun i hi=>?_⟩
 simp only [dif_pos hi]
 exact Classical.choose_spec (h i hi)
def isT (w:World) (cs:List Value) (t:T):Prop:=aI (dY w) [] cs t.av.cells∧t.wf
def TU (w:World) (cs:List Value) (l:List T):Prop:=(∃ v,cs=[v]∧(∃ y,aT (dY w) [] v y∧(y=.al 0 (bS l)∨(y=.ah∧l=[]))))∧l.length≤9223372036854775807∧Vb l
theorem TU.Zk {cs:List Value} {l:List T} (h:TU w cs l):∃ v,cs=[v]∧aT (dY w) [] v (.al 0 (bS l)):=by
 obtain ⟨⟨v,rfl,y,hr,hy⟩,_⟩:=h
 refine ⟨v,rfl,?_⟩
 rcases hy with rfl | ⟨rfl,rfl⟩
 ·exact hr
 ·exact hr.drop
def Q4 (d:DataW H) (l:List T):Prop:=match d with | .slice es _=>l.length=es.length | _=>l=[]
theorem I4 {ti tt tl:TypeId} (hT:mM P ti tt tl):∀ (fuel:Nat),
 (∀ (cs:List Value) (x:DataW H×List MemPlace),DataW.trod enc P w base sp held fuel tt cs=some x→∃ t:T,isT w cs t)∧
 (∀ (cs:List Value) (x:DataW H×List MemPlace),DataW.trod enc P w base sp held fuel tl cs=some x→∃ l:List T,TU w cs l∧Q4 x.1 l):=by
 intro fuel
 induction fuel with
 | zero=>exact ⟨fun cs x h=>by simp [DataW.trod] at h,fun cs x h=>by simp [DataW.trod] at h⟩
 | succ n ih=>
   refine ⟨fun cs x h=>?_,fun cs x h=>?_⟩
   ·obtain ⟨f0,f1,f2,hu,h0,o0,h1,o1,h2,o2⟩:=hT.tree
    obtain ⟨xs,m,hm,rfl,hlen,ew,hf⟩:=DataW.trod_struct hu h
    cases hm
    have g0:=hf 0 f0 rfl
    have g1:=hf 1 f1 rfl
    have g2:=hf 2 f2 rfl
    rw [h0,o0,hT.c1] at g0
    rw [h1,o1,hT.c1] at g1
    rw [h2,o2,hT.cl] at g2
    simp at ew
    rw [hT.c3] at hlen
    match cs,hlen with
    | [a,b,c],_=>
      have e0:xs[0]?=some xs[0]:=by simp [ew]
      have e1:xs[1]?=some xs[1]:=by simp [ew]
      have e2:xs[2]?=some xs[2]:=by simp [ew]
      rw [e0] at g0;rw [e1] at g1;rw [e2] at g2
      obtain ⟨k,ek,_,wk⟩:=DataW.trod_int hT.int g0
      obtain ⟨q,eq,_,wq⟩:=DataW.trod_int hT.int g1
      obtain ⟨l,hl,_⟩:=ih.2 _ _ g2
      obtain ⟨v,ev,hv⟩:=hl.Zk
      simp at ek eq ev
      subst ek eq ev
      exact ⟨.mk k q l,.cons _ _ _ _ (.int _ _) (.cons _ _ _ _ (.int _ _) (.cons _ _ _ _ hv .nil)),Lo wk,Lo wq,hl.2.1,hl.2.2⟩
   ·rcases DataW.trod_slice hT.list h with ⟨rfl,rfl⟩ | ⟨a,len,cap,elems,rest,m,hm,rfl,rfl,hb,hle,cA,UW,jJ,_,_⟩
    ·exact ⟨[],⟨⟨_,rfl,.ah,.ah,.inr ⟨rfl,rfl⟩⟩,by simp,trivial⟩,rfl⟩
    cases hm
    rw [hT.c3] at jJ
    have hex:∀ i,i < len→∃ t:T,∃ cs',w.cells? base (a.add (i * 3)) 3=some cs'∧isT w cs' t:=by
     intro i hi
     have:=jJ i hi
     rw [aap (by omega)] at this
     obtain ⟨cs',k1,k2⟩:=Option.bind_eq_some_iff.1 this
     obtain ⟨t,ht⟩:=ih.1 _ _ k2
     exact ⟨t,cs',k1,ht⟩
    obtain ⟨f,hf⟩:=FF hex
    have UU:maxLen=9223372036854775807:=rfl
    refine ⟨(List.range len).map f,⟨⟨_,rfl,_,?_,.inl rfl⟩,by simp;omega,?_⟩,by simp [Q4,UW]⟩
    ·rw [mH,adp]
     refine zc (e:=3) (base:=base) (by decide) hle cA (fun i=>if hi:i < len then Classical.choose (hf i hi) else []) _ fun i hi=>?_
     simp only [dif_pos hi]
     obtain ⟨k1,k2⟩:=Classical.choose_spec (hf i hi)
     exact ⟨k1,k2.1⟩
    ·rw [GZ]
     intro x hx
     obtain ⟨i,hi,rfl⟩:=aag.1 hx
     obtain ⟨cs',_,k2⟩:=hf i (abq.1 hi)
     exact k2.2
end
end Go.aJ
end
section
end
section
set_option maxRecDepth 100000
namespace Go.aJ
open Go Go.Proofs
end Go.aJ
end
section
set_option maxRecDepth 100000
namespace Go.aJ
open Go Go.Proofs
def zm (t:T):Int×Int:=if t.sz≤2000∧t.dp≤200 then (t.sz,t.dp) else (2001,201)
theorem aaV (t:T):(¬ eO (gB t 1 (0,0))↔t.sz≤2000∧t.dp≤200)∧(¬ eO (gB t 1 (0,0))→gB t 1 (0,0)=(t.sz,t.dp)):=by
 have h:=sV t 1 (0,0) (by unfold pG;simp)
 have hd:=t.A6
 refine ⟨h.1.trans ⟨fun k=>⟨by omega,by omega⟩,fun k=>⟨by simp only;omega,by omega⟩⟩,fun k=>?_⟩
 have:=h.2 k
 exact Prod.ext (by simpa using this.1) (by have:=this.2;simp only at this ⊢;omega)
theorem afr (t:T):Pure Tryz.prog 122 [t.av] (.tuple [.int .i64 (zm t).1,.int .i64 (zm t).2]):=by
 refine fun H=>V4.2.calls rfl ?_
 simp only [V4,aK]
 simp +contextual only [sZ,Nat.reduceEqDiff,Nat.reduceAdd,↓reduceIte,reduceCtorEq]
 refine ag (TS H t 1 (0,0) (by unfold pG;simp)) ?_
 rintro r H' ⟨rfl,rfl⟩
 simp +contextual only [sZ,Nat.reduceEqDiff,Nat.reduceAdd,↓reduceIte]
 refine ag (Xg H (gB t 1 (0,0))) ?_
 rintro r H' ⟨rfl,rfl⟩
 have h0:=aaV t
 cases hb:uk (gB t 1 (0,0)) with
 | true=>
   have hn:¬ (t.sz≤2000∧t.dp≤200):=fun h=>h0.1.2 h ((sW _).1 hb)
   simp +contextual only [eR,sZ,Nat.reduceEqDiff,↓reduceIte,reduceCtorEq]
   exact wP (by decide) rfl rfl (by rw [zm,if_neg hn];rfl) (by rw [zm,if_neg hn];rfl)
 | false=>
   have hn:¬ eO (gB t 1 (0,0)):=fun h=>by rw [(sW _).2 h] at hb;cases hb
   have h1:=h0.1.1 hn
   rw [h0.2 hn]
   simp +contextual only [eR,sZ,Nat.reduceEqDiff,Nat.reduceAdd,Nat.reduceLT,↓reduceIte,reduceCtorEq]
   exact wP (by decide) rfl rfl (by rw [zm,if_pos h1];rfl) (by rw [zm,if_pos h1];rfl)
theorem Xq (l:List T):kc l=if mK l=true then dO l [] else []:=by
 unfold kc
 split
 ·rename_i h
  rw [wY l []]
  rw [kB,aaL]
  intro x hx
  exact ((T.fp x).1 (aaL.1 h x hx)).2.2
 ·rfl
theorem Xr (l:List T) (hl:sd l≤1000000):Pure Tryz.prog 219 [.al 0 (bS l)] (.al 0 (ints (kc l))):=by
 refine fun H=>N7.2.calls rfl ?_
 simp only [N7,aK]
 simp +contextual only [sZ,Nat.reduceAdd,↓reduceIte,reduceCtorEq]
 refine af (aaQ l) ?_
 cases hb:mK l with
 | false=>
   simp +contextual only [abv,sZ,↓reduceIte,reduceCtorEq,Int.reduceEq]
   exact Xb (by rw [kc,hb];exact .inr (.inr (.inr (.inl ⟨rfl,0,rfl⟩)))) (by simp only [ch,aW])
 | true=>
   simp +contextual only [sZ,Nat.reduceAdd,↓reduceIte,reduceCtorEq]
   refine af (aaT l hl) ?_
   simp +contextual only [sZ,↓reduceIte,reduceCtorEq]
   exact bf (by simp only [ch,aW]) (by rw [Xq,if_pos hb])
theorem FG (l:List T):sq 3 (bS l)=True:=by
 simp only [sq,eq_iff_iff,iff_true]
 intro y hy
 rw [mH] at hy
 obtain ⟨z,_,rfl⟩:=aag.1 hy
 exact ⟨z.gX,z.qd⟩
end Go.aJ
end
section
set_option maxRecDepth 100000
namespace Go.aJ
open Go Go.Proofs
def sub (l:List T) (t:T):T:=Xp (fun n=>l.getD n.toNat default) t
end Go.aJ
end
section
namespace Go.eN
open Go.aJ
mutual
def code:T→List Int
 | .mk k n l=>k::n::(l.length:Int)::zn l
def zn:List T→List Int
 | []=>[]
 | x::r=>code x++zn r
end
mutual
theorem Dm:∀ (a b:T) (r s:List Int),code a++r=code b++s→a=b∧r=s
 | .mk k n l,.mk k' n' l',r,s,h=>by
   simp only [code,List.cons_append,List.cons.injEq] at h
   obtain ⟨h1,h2,h3,h4⟩:=h
   obtain ⟨h5,h6⟩:=zp l l' r s (by omega) h4
   exact ⟨by rw [h1,h2,h5],h6⟩
theorem zp:∀ (l m:List T) (r s:List Int),l.length=m.length→zn l++r=zn m++s→l=m∧r=s
 | [],[],r,s,_,h=>⟨rfl,by simpa [zn] using h⟩
 | x::l,y::m,r,s,hl,h=>by
   simp only [zn,aa2] at h
   obtain ⟨h1,h2⟩:=Dm x y _ _ h
   obtain ⟨h3,h4⟩:=zp l m r s (by simpa using hl) h2
   exact ⟨by rw [h1,h3],h4⟩
 | [],_::_,_,_,h,_=>by simp at h
 | _::_,[],_,_,h,_=>by simp at h
end
theorem G7 {a b:T} (h:code a=code b):a=b:=(Dm a b [] [] (by rw [h])).1
instance:DecidableEq T:=fun a b=>decidable_of_iff (code a=code b) ⟨G7,fun h=>by rw [h]⟩
def BM (a b:T):Prop:=code a≤code b
instance (a b:T):Decidable (BM a b):=inferInstanceAs (Decidable (code a≤code b))
theorem Dn {a b:T} (h1:BM a b) (h2:BM b a):a=b:=G7 (List.le_antisymm h1 h2)
theorem zq (a b:T):BM a b∨BM b a:=List.le_total _ _
theorem zr {a b c:T} (h1:BM a b) (h2:BM b c):BM a c:=List.le_trans h1 h2
def ins (x:T):List T→List T
 | []=>[x]
 | y::r=>if BM x y then x::y::r else y::ins x r
def yd:List T→List T
 | []=>[]
 | x::r=>ins x (yd r)
theorem Dp (x:T):∀ l,(ins x l).Perm (x::l)
 | []=>List.Perm.refl _
 | y::r=>by
   simp only [ins]
   split
   ·exact List.Perm.refl _
   ·exact ((Dp x r).cons y).trans (List.Perm.swap _ _ _)
theorem lH:∀ l,(yd l).Perm l
 | []=>List.Perm.refl _
 | x::r=>(Dp x _).trans ((lH r).cons x)
theorem Dq (x y:T):∀ l,ins x (ins y l)=ins y (ins x l)
 | []=>by
   simp only [ins]
   by_cases h1:BM x y <;> by_cases h2:BM y x <;> simp only [h1,h2,if_true,if_false,ins]
   ·rw [Dn h1 h2]
   ·rcases zq x y with h | h
    ·exact absurd h h1
    ·exact absurd h h2
 | z::r=>by
   simp only [ins]
   by_cases hx:BM x z <;> by_cases hy:BM y z <;> simp only [hx,hy,if_true,if_false,ins]
   ·by_cases h1:BM x y <;> by_cases h2:BM y x <;> simp only [h1,h2,hx,hy,if_true,if_false,ins]
    ·rw [Dn h1 h2]
    ·rcases zq x y with h | h
     ·exact absurd h h1
     ·exact absurd h h2
   ·have h2:¬ BM y x:=fun h=>hy (zr h hx)
    simp only [h2,hy,if_false,ins]
   ·have h2:¬ BM x y:=fun h=>hx (zr h hy)
    simp only [h2,hx,if_false,ins]
   ·rw [Dq x y r]
theorem TV {l m:List T} (h:l.Perm m):yd l=yd m:=by
 induction h with
 | nil=>rfl
 | cons x _ ih=>simp only [yd,ih]
 | swap x y l=>simp only [yd];exact Dq _ _ _
 | trans _ _ h1 h2=>rw [h1,h2]
theorem G8 {l m:List T}:yd l=yd m↔l.Perm m:=⟨fun h=>(lH l).symm.trans (h ▸ lH m),TV⟩
theorem PD {x:T} {l:List T}:x∈yd l↔x∈l:=(lH l).mem_iff
mutual
def wt:T→Nat
 | .mk _ _ l=>1 + ij l
def ij:List T→Nat
 | []=>0
 | x::r=>wt x + ij r
end
theorem G9 {x:T}:∀ {l:List T},x∈l→wt x≤ij l
 | y::r,h=>by
   simp only [ij]
   rcases UQ.1 h with rfl | h
   ·omega
   ·have:=G9 h;omega
theorem fO (a:T):0 < wt a:=by cases a;simp only [wt];omega
theorem bX {a x:T} (h:x∈a.l):wt x < wt a:=by
 cases a with
 | mk k n l=>have:=G9 (l:=l) h;simp only [wt];omega
structure Od where
 pl:Int→Int
 sp:Int→Int
mutual
def norm (O:Od):T→T
 | .mk k n l=>if k=2 then .mk 2 (O.pl n) (if O.sp (O.pl n)=3 then yd (Dr O l) else Dr O l) else .mk 1 n []
def Dr (O:Od):List T→List T
 | []=>[]
 | x::r=>norm O x::Dr O r
end
theorem zt (O:Od):∀ l,Dr O l=l.map (norm O)
 | []=>rfl
 | x::r=>by simp [Dr,zt O r]
def Lx (G:T→T→Prop):List T→List T→Prop
 | [],_=>False
 | _::_,[]=>True
 | x::l,y::m=>x=y∧Lx G l m∨G x y
def side (s:Int) (l:List T):List T:=if s=2 then l.reverse else l
def Mu (G:T→T→Prop) (l m:List T):Prop:=
 (∃ x∈l,m.count x < l.count x)∧∀ y∈m,l.count y < m.count y→∃ x∈l,m.count x < l.count x∧G x y
def Fm (sp:Int→Int) (G:T→T→Prop) (a b:T):Prop:=
 a.k=2∧((∃ x∈a.l,x=b∨G x b)∨b.k=2∧(
  (b.n < a.n∧∀ y∈b.l,G a y)∨
  (b.n=a.n∧sp a.n≠3∧(∀ y∈b.l,G a y)∧Lx G (side (sp a.n) a.l) (side (sp a.n) b.l))∨
  (b.n=a.n∧sp a.n=3∧Mu G a.l b.l)))
theorem fW {s:Int} {l:List T} {x:T}:x∈side s l↔x∈l:=by unfold side;split <;> simp
theorem Ds {G G':T→T→Prop}:∀ {l m:List T},(∀ x∈l,∀ y∈m,(G x y↔G' x y))→(Lx G l m↔Lx G' l m)
 | [],_,_=>Iff.rfl
 | _::_,[],_=>Iff.rfl
 | x::l,y::m,h=>by
   simp only [Lx]
   rw [Ds (fun x hx y hy=>h x (aai _ hx) y (aai _ hy)),h x aan y aan]
theorem Dt {sp:Int→Int} {G G':T→T→Prop} {a b:T} (h1:∀ x∈a.l,(G x b↔G' x b)) (h2:∀ y∈b.l,(G a y↔G' a y)) (h3:∀ x∈a.l,∀ y∈b.l,(G x y↔G' x y)) :
 Fm sp G a b↔Fm sp G' a b:=by
 have e1:(∃ x∈a.l,x=b∨G x b)↔(∃ x∈a.l,x=b∨G' x b):=⟨fun ⟨x,hx,h⟩=>⟨x,hx,by rwa [← h1 x hx]⟩,fun ⟨x,hx,h⟩=>⟨x,hx,by rwa [h1 x hx]⟩⟩
 have e2:(∀ y∈b.l,G a y)↔(∀ y∈b.l,G' a y):=⟨fun h y hy=>(h2 y hy).1 (h y hy),fun h y hy=>(h2 y hy).2 (h y hy)⟩
 have e3:Lx G (side (sp a.n) a.l) (side (sp a.n) b.l)↔Lx G' (side (sp a.n) a.l) (side (sp a.n) b.l):=Ds fun x hx y hy=>h3 x (fW.1 hx) y (fW.1 hy)
 have e4:Mu G a.l b.l↔Mu G' a.l b.l:=by
  unfold Mu
  refine and_congr Iff.rfl ⟨fun h y hy hc=>?_,fun h y hy hc=>?_⟩ <;> obtain ⟨x,hx,Ao,hg⟩:=h y hy hc
  ·exact ⟨x,hx,Ao,(h3 x hx y hy).1 hg⟩
  ·exact ⟨x,hx,Ao,(h3 x hx y hy).2 hg⟩
 unfold Fm
 rw [e1,e2,e3,e4]
def M6 (sp:Int→Int):Nat→T→T→Prop
 | 0=>fun _ _=>False
 | f + 1=>Fm sp (M6 sp f)
def Gt (sp:Int→Int) (a b:T):Prop:=M6 sp (wt a + wt b) a b
theorem gC (sp:Int→Int):∀ (f g:Nat) (a b:T),wt a + wt b≤f→wt a + wt b≤g→(M6 sp f a b↔M6 sp g a b)
 | 0,_,a,b,h,_=>by have:=fO a;omega
 | _ + 1,0,a,b,_,h=>by have:=fO a;omega
 | f + 1,g + 1,a,b,h1,h2=>by
   simp only [M6]
   refine Dt (fun x hx=>?_) (fun y hy=>?_) (fun x hx y hy=>?_)
   ·have:=bX hx;exact gC sp f g x b (by omega) (by omega)
   ·have:=bX hy;exact gC sp f g a y (by omega) (by omega)
   ·have:=bX hx;have:=bX hy;exact gC sp f g x y (by omega) (by omega)
theorem wZ {sp:Int→Int} {a b:T}:Gt sp a b↔Fm sp (Gt sp) a b:=by
 have e:M6 sp (wt a + wt b) a b↔M6 sp (wt a + wt b + 1) a b:=gC sp _ _ a b (by omega) (by omega)
 unfold Gt
 rw [e]
 show Fm sp (M6 sp (wt a + wt b)) a b↔_
 refine Dt (fun x hx=>?_) (fun y hy=>?_) (fun x hx y hy=>?_)
 ·have:=bX hx;exact gC sp _ _ x b (by omega) (by omega)
 ·have:=bX hy;exact gC sp _ _ a y (by omega) (by omega)
 ·have:=bX hx;have:=bX hy;exact gC sp _ _ x y (by omega) (by omega)
section
variable {sp:Int→Int}
theorem zw {a b:T} (h:Gt sp a b):a.k=2:=(wZ.1 h).1
theorem qg {a b x:T} (ha:a.k=2) (hx:x∈a.l) (h:x=b∨Gt sp x b):Gt sp a b:=wZ.2 ⟨ha,.inl ⟨x,hx,h⟩⟩
theorem nj {l m:List T} {x:T} (h:m.count x < l.count x):x∈l:=abJ.1 (by omega)
theorem ru {a b:T} (h:Gt sp a b):(∃ x∈a.l,x=b∨Gt sp x b)∨b.k=2∧(∀ y∈b.l,Gt sp a y)∧(
 b.n < a.n∨(b.n=a.n∧sp a.n≠3∧Lx (Gt sp) (side (sp a.n) a.l) (side (sp a.n) b.l))∨(b.n=a.n∧sp a.n=3∧Mu (Gt sp) a.l b.l)):=by
 obtain ⟨ha,h | ⟨hb,h | h | h⟩⟩:=wZ.1 h
 ·exact .inl h
 ·exact .inr ⟨hb,h.2,.inl h.1⟩
 ·exact .inr ⟨hb,h.2.2.1,.inr (.inl ⟨h.1,h.2.1,h.2.2.2⟩)⟩
 ·refine .inr ⟨hb,fun y hy=>?_,.inr (.inr h)⟩
  obtain ⟨_,_,_,h2⟩:=h
  by_cases hc:a.l.count y < b.l.count y
  ·obtain ⟨x,hx,_,hg⟩:=h2 y hy hc
   exact qg ha hx (.inr hg)
  ·have:0 < b.l.count y:=abJ.2 hy
   exact qg ha (abJ.1 (by omega)) (.inl rfl)
theorem Xs {a b:T} (ha:a.k=2) (hb:b.k=2) (h1:∀ y∈b.l,Gt sp a y) (h2:b.n < a.n∨(b.n=a.n∧sp a.n≠3∧Lx (Gt sp) (side (sp a.n) a.l) (side (sp a.n) b.l))∨(b.n=a.n∧sp a.n=3∧Mu (Gt sp) a.l b.l)):Gt sp a b:=by
 refine wZ.2 ⟨ha,.inr ⟨hb,?_⟩⟩
 rcases h2 with h | h | h
 ·exact .inl ⟨h,h1⟩
 ·exact .inr (.inl ⟨h.1,h.2.1,h1,h.2.2⟩)
 ·exact .inr (.inr h)
theorem PE:∀ {a b y:T},Gt sp a b→b.k=2→y∈b.l→Gt sp a y:=by
 intro a
 induction h:wt a using Nat.strongRecOn generalizing a with
 | _ n ih=>
   intro b y Dv hb hy
   rcases ru Dv with ⟨x,hx,rfl | hg⟩ | ⟨_,h1,_⟩
   ·exact qg (zw Dv) hx (.inr (qg hb hy (.inl rfl)))
   ·exact qg (zw Dv) hx (.inr (ih _ (by have:=bX hx;omega) rfl hg hb hy))
   ·exact h1 y hy
theorem Lp {G:T→T→Prop}:∀ {l:List T},Lx G l l→∃ x∈l,G x x
 | x::l,h=>by
   rcases h with ⟨_,h⟩ | h
   ·obtain ⟨y,hy,hg⟩:=Lp h;exact ⟨y,aai _ hy,hg⟩
   ·exact ⟨x,aan,h⟩
theorem A8:∀ a:T,¬ Gt sp a a:=by
 intro a
 induction h:wt a using Nat.strongRecOn generalizing a with
 | _ n ih=>
   intro hg
   rcases ru hg with ⟨x,hx,rfl | PF⟩ | ⟨_,_,h1 | ⟨_,_,h1⟩ | ⟨_,_,h1⟩⟩
   ·have:=bX hx;omega
   ·exact ih (wt x) (by have:=bX hx;omega) x rfl (PE PF (zw hg) hx)
   ·omega
   ·obtain ⟨x,hx,PF⟩:=Lp h1
    have hx:=fW.1 hx
    exact ih (wt x) (by have:=bX hx;omega) x rfl PF
   ·obtain ⟨⟨x,_,hx⟩,_⟩:=h1;omega
theorem Lq {G:T→T→Prop} {S:List T} (irr:∀ x∈S,¬ G x x) (tr:∀ x∈S,∀ y∈S,∀ z∈S,G x y→G y z→G x z) (P:T→Prop)
 (step:∀ z∈S,(∀ x∈S,G x z→P x)→P z):∀ z∈S,P z:=by
 classical
 intro z
 induction h:S.countP (fun w=>decide (G w z)) using Nat.strongRecOn generalizing z with
 | _ n ih=>
   intro hz
   refine step z hz fun x hx hg=>ih (S.countP fun w=>decide (G w x)) ?_ x rfl hx
   subst h
   have key:∀ (l:List T),(∀ w∈l,w∈S)→l.countP (fun w=>decide (G w x))≤l.countP (fun w=>decide (G w z))∧(x∈l→l.countP (fun w=>decide (G w x)) < l.countP (fun w=>decide (G w z))):=by
    intro l
    induction l with
    | nil=>intro _;exact ⟨yo _,fun h=>by cases h⟩
    | cons w l ihl=>
      intro hl
      obtain ⟨i1,i2⟩:=ihl fun w hw=>hl w (aai _ hw)
      have hw:=hl w aan
      by_cases h1:G w x
      ·have h2:G w z:=tr w hw x hx z hz h1 hg
       have eU:x≠w:=fun e=>irr x hx (by rw [← e] at h1;exact h1)
       simp only [ad0,h1,h2,decide_true,if_true]
       refine ⟨by omega,fun hm=>?_⟩
       rcases UQ.1 hm with e | hm
       ·exact absurd e eU
       ·have:=i2 hm;omega
      ·by_cases h2:G w z
       ·simp only [ad0,h1,h2,decide_true,decide_false,if_true]
        refine ⟨by simp;omega,fun _=>by simp;omega⟩
       ·have eU:x≠w:=fun e=>h2 (e ▸ hg)
        simp only [ad0,h1,h2,decide_false]
        refine ⟨by simpa using i1,fun hm=>?_⟩
        rcases UQ.1 hm with e | hm
        ·exact absurd e eU
        ·simpa using i2 hm
   exact (key S fun _ h=>h).2 hx
theorem Lr {G:T→T→Prop} {l m k:List T} (irr:∀ x∈l++m++k,¬ G x x) (tr:∀ x∈l++m++k,∀ y∈l++m++k,∀ z∈l++m++k,G x y→G y z→G x z)
 (h1:Mu G l m) (h2:Mu G m k):Mu G l k:=by
 have il:∀ {x},x∈l→x∈l++m++k:=fun h=>by simp [h]
 have im:∀ {x},x∈m→x∈l++m++k:=fun h=>by simp [h]
 have ik:∀ {x},x∈k→x∈l++m++k:=fun h=>by simp [h]
 have up:∀ z∈l++m++k,(l.count z < m.count z∨m.count z < k.count z)→∃ x∈l,k.count x < l.count x∧G x z:=by
  refine Lq irr tr _ fun z hz ih hc=>?_
  rcases hc with hc | hc
  ·obtain ⟨x1,tU,MK,Jx⟩:=h1.2 z (nj hc) hc
   by_cases hk:k.count x1 < l.count x1
   ·exact ⟨x1,tU,hk,Jx⟩
   ·obtain ⟨x,hx,ma,hg⟩:=ih x1 (il tU) Jx (.inr (by omega))
    exact ⟨x,hx,ma,tr x (il hx) x1 (il tU) z hz hg Jx⟩
  ·obtain ⟨x1,tU,MK,Jx⟩:=h2.2 z (nj hc) hc
   by_cases hk:l.count x1 < m.count x1
   ·obtain ⟨x,hx,ma,hg⟩:=ih x1 (im tU) Jx (.inl hk)
    exact ⟨x,hx,ma,tr x (il hx) x1 (im tU) z hz hg Jx⟩
   ·exact ⟨x1,abJ.1 (by omega),by omega,Jx⟩
 constructor
 ·obtain ⟨x0,JT,Ju⟩:=h1.1
  by_cases hk:k.count x0 < l.count x0
  ·exact ⟨x0,JT,hk⟩
  ·obtain ⟨x,hx,hc,_⟩:=up x0 (il JT) (.inr (by omega))
   exact ⟨x,hx,hc⟩
 ·intro y hy hc
  refine up y (ik hy) ?_
  by_cases h:l.count y < m.count y
  ·exact .inl h
  ·exact .inr (by omega)
theorem Dw {G:T→T→Prop}:∀ {l m k:List T},(∀ x∈l,∀ y∈m,∀ z∈k,G x y→G y z→G x z)→Lx G l m→Lx G m k→Lx G l k
 | [],_,_,_,h,_=>h.elim
 | _::_,[],_,_,_,h=>h.elim
 | _::_,_::_,[],_,_,_=>trivial
 | x::l,y::m,z::k,tr,h1,h2=>by
   have ih:=@Dw G l m k fun x hx y hy z hz=>tr x (aai _ hx) y (aai _ hy) z (aai _ hz)
   rcases h1 with ⟨rfl,h1⟩ | h1 <;> rcases h2 with ⟨rfl,h2⟩ | h2
   ·exact .inl ⟨rfl,ih h1 h2⟩
   ·exact .inr h2
   ·exact .inr h1
   ·exact .inr (tr x aan y aan z aan h1 h2)
theorem A9:∀ (N:Nat) {a b c:T},wt a≤N→wt b≤N→wt c≤N→Gt sp a b→Gt sp b c→Gt sp a c:=by
 intro N
 induction N with
 | zero=>intro a b c h;have:=fO a;omega
 | succ N ihN=>
 intro a b c
 induction h:wt a + wt b + wt c using Nat.strongRecOn generalizing a b c with
 | _ n ih=>
   intro la lb lc Dv Q5
   rcases ru Dv with ⟨x,hx,rfl | hg⟩ | ⟨hb,h1,h2⟩
   ·exact qg (zw Dv) hx (.inr Q5)
   ·have:=bX hx
    exact qg (zw Dv) hx (.inr (ih (wt x + wt b + wt c) (by omega) rfl (by omega) lb lc hg Q5))
   rcases ru Q5 with ⟨y,hy,rfl | hg⟩ | ⟨hc,h3,h4⟩
   ·exact h1 y hy
   ·have:=bX hy
    exact ih (wt a + wt y + wt c) (by omega) rfl la (by omega) lc (h1 y hy) hg
   have h5:∀ z∈c.l,Gt sp a z:=fun z hz=>by
    have:=bX hz
    exact ih (wt a + wt b + wt z) (by omega) rfl la lb (by omega) Dv (h3 z hz)
   refine Xs (zw Dv) hc h5 ?_
   rcases h2 with h2 | ⟨e2,s2,h2⟩ | ⟨e2,s2,h2⟩ <;> rcases h4 with h4 | ⟨e4,s4,h4⟩ | ⟨e4,s4,h4⟩
   ·exact .inl (by omega)
   ·exact .inl (by omega)
   ·exact .inl (by omega)
   ·exact .inl (by omega)
   ·refine .inr (.inl ⟨by omega,s2,?_⟩)
    rw [e2] at h4
    refine Dw (fun x hx y hy z hz=>?_) h2 h4
    have:=bX (fW.1 hx);have:=bX (fW.1 hy);have:=bX (fW.1 hz)
    exact ihN (by omega) (by omega) (by omega)
   ·rw [e2] at s4;exact absurd s4 s2
   ·exact .inl (by omega)
   ·rw [e2] at s4;exact absurd s2 s4
   ·refine .inr (.inr ⟨by omega,s2,?_⟩)
    have small:∀ x∈a.l++b.l++c.l,wt x≤N:=by
     intro x hx
     simp only [abf] at hx
     rcases hx with (hx | hx) | hx <;> have:=bX hx <;> omega
    exact Lr (fun x _=>A8 x) (fun x hx y hy z hz=>ihN (small x hx) (small y hy) (small z hz)) h2 h4
theorem gt_trans {a b c:T}:Gt sp a b→Gt sp b c→Gt sp a c:=A9 (wt a + wt b + wt c) (by omega) (by omega) (by omega)
theorem Xt {l m X Y C:List T} (hl:l.Perm (X++C)) (hm:m.Perm (Y++C)) (h0:X≠[]) (h1:∀ y∈Y,∃ x∈X,Gt sp x y):Mu (Gt sp) l m:=by
 have cl:∀ z,l.count z=X.count z + C.count z:=fun z=>by rw [hl.count_eq,ady]
 have cm:∀ z,m.count z=Y.count z + C.count z:=fun z=>by rw [hm.count_eq,ady]
 have up:∀ z∈X++Y,z∈Y→∃ x∈X,Y.count x < X.count x∧Gt sp x z:=by
  refine Lq (G:=Gt sp) (fun x _=>A8 x) (fun x _ y _ z _=>gt_trans) _ fun z hz ih hy=>?_
  obtain ⟨x1,tU,Jx⟩:=h1 z hy
  by_cases hc:Y.count x1 < X.count x1
  ·exact ⟨x1,tU,hc,Jx⟩
  ·have:0 < X.count x1:=abJ.2 tU
   obtain ⟨x,hx,ma,hg⟩:=ih x1 (by simp [tU]) Jx (abJ.1 (by omega))
   exact ⟨x,hx,ma,gt_trans hg Jx⟩
 have inl:∀ {x},x∈X→x∈l:=fun hx=>hl.mem_iff.2 (by simp [hx])
 constructor
 ·obtain ⟨x,hx⟩:=List.exists_mem_of_ne_nil X h0
  by_cases hc:Y.count x < X.count x
  ·exact ⟨x,inl hx,by rw [cl,cm];omega⟩
  ·have:0 < X.count x:=abJ.2 hx
   obtain ⟨x',qp,Ao,_⟩:=up x (by simp [hx]) (abJ.1 (by omega))
   exact ⟨x',inl qp,by rw [cl,cm];omega⟩
 ·intro y hy hc
  rw [cl,cm] at hc
  have hyY:y∈Y:=abJ.1 (by omega)
  obtain ⟨x,hx,Ao,hg⟩:=up y (by simp [hyY]) hyY
  exact ⟨x,inl hx,by rw [cl,cm];omega,hg⟩
def TW (X Y:List T):Prop:=∀ z,z∈X→z∉Y
theorem TX {G:T→T→Prop} {l m X Y C:List T} (hl:l.Perm (X++C)) (hm:m.Perm (Y++C)) (hd:TW X Y):Mu G l m↔X≠[]∧∀ y∈Y,∃ x∈X,G x y:=by
 have cl:∀ z,l.count z=X.count z + C.count z:=fun z=>by rw [hl.count_eq,ady]
 have cm:∀ z,m.count z=Y.count z + C.count z:=fun z=>by rw [hm.count_eq,ady]
 have inl:∀ {x},x∈X→x∈l:=fun hx=>hl.mem_iff.2 (by simp [hx])
 have inm:∀ {x},x∈Y→x∈m:=fun hx=>hm.mem_iff.2 (by simp [hx])
 have cX:∀ {z},m.count z < l.count z↔z∈X:=by
  intro z
  rw [cl,cm]
  constructor
  ·intro h;exact abJ.1 (by omega)
  ·intro h
   have h1:0 < X.count z:=abJ.2 h
   have h2:Y.count z=0:=List.count_eq_zero.2 (hd z h)
   omega
 have cY:∀ {z},l.count z < m.count z↔z∈Y:=by
  intro z
  rw [cl,cm]
  constructor
  ·intro h;exact abJ.1 (by omega)
  ·intro h
   have h1:0 < Y.count z:=abJ.2 h
   have h2:X.count z=0:=List.count_eq_zero.2 (fun hx=>hd z hx h)
   omega
 constructor
 ·rintro ⟨⟨x,_,hx⟩,h2⟩
  refine ⟨fun e=>(by have hm:=cX.1 hx;rw [e] at hm;cases hm),fun y hy=>?_⟩
  obtain ⟨x,_,hx,hg⟩:=h2 y (inm hy) (cY.2 hy)
  exact ⟨x,cX.1 hx,hg⟩
 ·rintro ⟨h1,h2⟩
  refine ⟨?_,fun y _ hy=>?_⟩
  ·obtain ⟨x,hx⟩:=List.exists_mem_of_ne_nil X h1
   exact ⟨x,inl hx,cX.2 hx⟩
  ·obtain ⟨x,hx,hg⟩:=h2 y (cY.1 hy)
   exact ⟨x,inl hx,cX.2 hx,hg⟩
theorem ye {l m X Y C:List T} (hl:l.Perm (X++C)) (hm:m.Perm (Y++C)) (hd:TW X Y):l.Perm m↔X=[]∧Y=[]:=by
 constructor
 ·intro h
  have hc:∀ z,X.count z=Y.count z:=fun z=>by
   have h1:=hl.count_eq z
   have h2:=hm.count_eq z
   have h3:=h.count_eq z
   rw [ady] at h1 h2
   omega
  constructor
  ·cases hX:X with
   | nil=>rfl
   | cons x r=>
     have h1:x∈X:=by rw [hX];simp
     have h2:0 < Y.count x:=by rw [← hc];exact abJ.2 h1
     exact absurd (abJ.1 h2) (hd x h1)
  ·cases hY:Y with
   | nil=>rfl
   | cons x r=>
     have h1:x∈Y:=by rw [hY];simp
     have h2:0 < X.count x:=by rw [hc];exact abJ.2 h1
     exact absurd h1 (hd x (abJ.1 h2))
 ·rintro ⟨rfl,rfl⟩
  exact hl.trans hm.symm
theorem rv (s:Int) (g:T→T) (l:List T):side s (l.map g)=(side s l).map g:=by unfold side;split <;> simp
theorem T.ext {a b:T} (h1:a.k=b.k) (h2:a.n=b.n) (h3:a.l=b.l):a=b:=by
 cases a;cases b;simp only [T.k,T.n,T.l] at h1 h2 h3;rw [h1,h2,h3]
end
end Go.eN
end
section
namespace Go.eN
open Go.aJ
def E (O:Od) (a b:T):Prop:=norm O a=norm O b
def R (O:Od) (a b:T):Prop:=Gt O.sp (norm O a) (norm O b)
theorem kmk (k n:Int) (l:List T):(T.mk k n l).k=k:=rfl
section
variable {O:Od}
theorem oY {a:T} (h:a.k=2):(norm O a).k=2∧(norm O a).n=O.pl a.n∧(O.sp (O.pl a.n)=3→(norm O a).l=yd (a.l.map (norm O)))∧(O.sp (O.pl a.n)≠3→(norm O a).l=a.l.map (norm O)):=by
 cases a with
 | mk k n l=>
   simp only [T.k] at h
   subst h
   simp only [norm,if_true,T.k,T.n,T.l,zt,true_and]
   exact ⟨fun h=>by rw [if_pos h],fun h=>by rw [if_neg h]⟩
theorem w7 {a:T} (h:a.k≠2):norm O a=.mk 1 a.n []:=by
 cases a with
 | mk k n l=>simp only [kmk] at h;simp only [norm];rw [if_neg h];rfl
theorem s5 {a:T}:(norm O a).k=2↔a.k=2:=by
 by_cases h:a.k=2
 ·simp [h,(oY h).1]
 ·rw [w7 h,kmk];simp [h]
theorem ry {a x:T} (h:a.k=2):x∈(norm O a).l↔∃ y∈a.l,norm O y=x:=by
 obtain ⟨_,_,h1,h2⟩:=oY (O:=O) h
 by_cases hs:O.sp (O.pl a.n)=3
 ·rw [h1 hs,PD,aag]
 ·rw [h2 hs,aag]
theorem PG {G:T→T→Prop} {l m l' m':List T} (h1:l.Perm l') (h2:m.Perm m'):Mu G l m↔Mu G l' m':=by
 unfold Mu
 simp only [h1.count_eq,h2.count_eq,h1.mem_iff,h2.mem_iff]
theorem Ha {a b:T}:E O a b↔(a.k=2∧b.k=2∧O.pl a.n=O.pl b.n∧(if O.sp (O.pl a.n)=3 then (a.l.map (norm O)).Perm (b.l.map (norm O)) else a.l.map (norm O)=b.l.map (norm O)))∨(a.k≠2∧b.k≠2∧a.n=b.n):=by
 by_cases ha:a.k=2
 ·by_cases hb:b.k=2
  ·obtain ⟨ka,na,pa,qa⟩:=oY (O:=O) ha
   obtain ⟨kb,nb,pb,qb⟩:=oY (O:=O) hb
   simp only [ha,hb,true_and,ne_eq,not_true_eq_false,false_and,or_false]
   unfold E
   constructor
   ·intro h
    have hn:O.pl a.n=O.pl b.n:=by rw [← na,← nb,h]
    refine ⟨hn,?_⟩
    have hl:(norm O a).l=(norm O b).l:=by rw [h]
    split
    ·rename_i hs
     rw [pa hs,pb (by rw [← hn];exact hs)] at hl
     exact G8.1 hl
    ·rename_i hs
     rw [qa hs,qb (by rw [← hn];exact hs)] at hl
     exact hl
   ·rintro ⟨hn,hl⟩
    refine T.ext (by rw [ka,kb]) (by rw [na,nb,hn]) ?_
    split at hl
    ·rename_i hs
     rw [pa hs,pb (by rw [← hn];exact hs)]
     exact G8.2 hl
    ·rename_i hs
     rw [qa hs,qb (by rw [← hn];exact hs)]
     exact hl
  ·simp only [ha,hb,ne_eq,not_true_eq_false,false_and,and_false,or_false,iff_false]
   intro h
   have:=s5 (O:=O) (a:=a)
   unfold E at h
   rw [h,s5] at this
   exact hb (this.2 ha)
 ·by_cases hb:b.k=2
  ·simp only [ha,hb,ne_eq,not_true_eq_false,false_and,and_false,or_false,iff_false]
   intro h
   have:=s5 (O:=O) (a:=b)
   unfold E at h
   rw [← h,s5] at this
   exact ha (this.2 hb)
  ·simp only [ha,hb,ne_eq,not_false_eq_true,false_and,true_and,false_or]
   unfold E
   rw [w7 ha,w7 hb]
   simp
theorem oh {a b:T}:R O a b↔a.k=2∧((∃ x∈a.l,E O x b∨R O x b)∨b.k=2∧(
 (O.pl b.n < O.pl a.n∧∀ y∈b.l,R O a y)∨
 (O.pl b.n=O.pl a.n∧O.sp (O.pl a.n)≠3∧(∀ y∈b.l,R O a y)∧Lx (Gt O.sp) (side (O.sp (O.pl a.n)) (a.l.map (norm O))) (side (O.sp (O.pl a.n)) (b.l.map (norm O))))∨
 (O.pl b.n=O.pl a.n∧O.sp (O.pl a.n)=3∧Mu (Gt O.sp) (a.l.map (norm O)) (b.l.map (norm O))))):=by
 unfold R
 rw [wZ]
 unfold Fm
 rw [s5,s5]
 refine and_congr_right fun ha=>?_
 obtain ⟨ka,na,pa,qa⟩:=oY (O:=O) ha
 refine or_congr ?_ (and_congr_right fun hb=>?_)
 ·constructor
  ·rintro ⟨x,hx,h⟩
   obtain ⟨y,hy,rfl⟩:=(ry ha).1 hx
   exact ⟨y,hy,h⟩
  ·rintro ⟨x,hx,h⟩
   exact ⟨_,(ry ha).2 ⟨x,hx,rfl⟩,h⟩
 ·obtain ⟨kb,nb,pb,qb⟩:=oY (O:=O) hb
  have e:(∀ y∈(norm O b).l,Gt O.sp (norm O a) y)↔∀ y∈b.l,Gt O.sp (norm O a) (norm O y):=by
   constructor
   ·intro h y hy;exact h _ ((ry hb).2 ⟨y,hy,rfl⟩)
   ·intro h y hy;obtain ⟨z,hz,rfl⟩:=(ry hb).1 hy;exact h z hz
  rw [e,na,nb]
  refine or_congr Iff.rfl (or_congr ?_ ?_)
  ·refine and_congr_right fun hn=>and_congr_right fun hs=>?_
   rw [qa hs,qb (by rw [hn];exact hs)]
  ·refine and_congr_right fun hn=>and_congr_right fun hs=>?_
   exact PG (by rw [pa hs];exact lH _) (by rw [pb (by rw [hn];exact hs)];exact lH _)
theorem Xu {a b:T} (h:E O a b):¬ R O a b:=by unfold R;rw [show norm O a=norm O b from h];exact A8 _
theorem PH {a b c:T} (h1:R O a b) (h2:R O b c):R O a c:=gt_trans h1 h2
theorem Xv {a b x:T} (ha:a.k=2) (hx:x∈a.l) (h:E O x b∨R O x b):R O a b:=oh.2 ⟨ha,.inl ⟨x,hx,h⟩⟩
end
inductive nE (p:Int→Prop):T→Prop
 | mk (k n:Int) (l:List T) (h1:k=2→p n) (h2:∀ x∈l,nE p x):nE p (.mk k n l)
theorem nE.op {p:Int→Prop} {a:T} (h:nE p a) (hk:a.k=2):p a.n:=by cases h with | mk k n l h1 _=>exact h1 hk
theorem nE.mem {p:Int→Prop} {a x:T} (h:nE p a) (hx:x∈a.l):nE p x:=by cases h with | mk k n l _ h2=>exact h2 x hx
structure Alike (O O':Od) (p:Int→Prop):Prop where
 lt:∀ n m,p n→p m→(O.pl n < O.pl m↔O'.pl n < O'.pl m)
 st:∀ n,p n→O.sp (O.pl n)=O'.sp (O'.pl n)
theorem Alike.eq {O O':Od} {p:Int→Prop} (h:Alike O O' p) {n m:Int} (hn:p n) (hm:p m):O.pl n=O.pl m↔O'.pl n=O'.pl m:=by
 have h1:=h.lt n m hn hm
 have h2:=h.lt m n hm hn
 omega
theorem Dx {f g:T→T}:∀ {l m:List T},(∀ x∈l,∀ y∈m,f x=f y→g x=g y)→(l.map f).Perm (m.map f)→(l.map g).Perm (m.map g)
 | [],m,_,h=>by
   have:m=[]:=by simpa using h.length_eq.symm
   subst this;exact List.Perm.refl _
 | x::l,m,hfg,h=>by
   have hx:f x∈m.map f:=h.mem_iff.1 (by simp)
   obtain ⟨y,hy,e⟩:=aag.1 hx
   have hp:m.Perm (y::m.erase y):=List.perm_cons_erase hy
   have h1:(f x::l.map f).Perm (f x::(m.erase y).map f):=by
    have:=h.trans (hp.map f)
    rwa [List.map_cons,List.map_cons,e] at this
   have ih:=Dx (f:=f) (g:=g) (l:=l) (m:=m.erase y) (fun x hx z hz=>hfg x (aai _ hx) z (List.mem_of_mem_erase hz)) h1.cons_inv
   refine List.Perm.trans ?_ (hp.map g).symm
   rw [List.map_cons,List.map_cons,hfg x aan y hy e.symm]
   exact ih.cons _
theorem count_map {f:T→T} (z:T) (l:List T):(l.map f).count z=l.countP (fun x=>decide (f x=z)):=by
 induction l with
 | nil=>rfl
 | cons x l ih=>
   simp only [List.map_cons,List.count_cons,ad0,ih]
   by_cases h:f x=z <;> simp [h]
theorem um {f g:T→T} {x:T} {l:List T} (h:∀ y∈l,f y=f x↔g y=g x):(l.map f).count (f x)=(l.map g).count (g x):=by
 rw [count_map,count_map]
 exact List.countP_congr fun y hy=>by simp [h y hy]
theorem Ls {G G':T→T→Prop} {f g:T→T} {l m:List T} (hf:∀ x∈l++m,∀ y∈l++m,f x=f y↔g x=g y) (hG:∀ x∈l,∀ y∈m,G (f x) (f y)→G' (g x) (g y)) :
 Mu G (l.map f) (m.map f)→Mu G' (l.map g) (m.map g):=by
 have c1:∀ x∈l++m,(l.map f).count (f x)=(l.map g).count (g x):=fun x hx=>um fun y hy=>hf y (by simp [hy]) x hx
 have c2:∀ x∈l++m,(m.map f).count (f x)=(m.map g).count (g x):=fun x hx=>um fun y hy=>hf y (by simp [hy]) x hx
 rintro ⟨⟨x',qp,hc⟩,h2⟩
 constructor
 ·obtain ⟨x,hx,rfl⟩:=aag.1 qp
  rw [c1 x (by simp [hx]),c2 x (by simp [hx])] at hc
  exact ⟨g x,aag.2 ⟨x,hx,rfl⟩,hc⟩
 ·intro y' UT hc
  obtain ⟨y,hy,rfl⟩:=aag.1 UT
  rw [← c1 y (by simp [hy]),← c2 y (by simp [hy])] at hc
  obtain ⟨x',qp,Ao,hg⟩:=h2 (f y) (aag.2 ⟨y,hy,rfl⟩) hc
  obtain ⟨x,hx,rfl⟩:=aag.1 qp
  rw [c1 x (by simp [hx]),c2 x (by simp [hx])] at Ao
  exact ⟨g x,aag.2 ⟨x,hx,rfl⟩,Ao,hG x hx y hy hg⟩
theorem Dy {G G':T→T→Prop} {f g:T→T}:∀ {l m:List T},(∀ x∈l,∀ y∈m,f x=f y→g x=g y)→(∀ x∈l,∀ y∈m,G (f x) (f y)→G' (g x) (g y))→Lx G (l.map f) (m.map f)→Lx G' (l.map g) (m.map g)
 | [],_,_,_,h=>h.elim
 | _::_,[],_,_,_=>trivial
 | x::l,y::m,hf,hG,h=>by
   rcases h with ⟨e,h⟩ | h
   ·exact .inl ⟨hf x aan y aan e,Dy (fun x hx y hy=>hf x (aai _ hx) y (aai _ hy)) (fun x hx y hy=>hG x (aai _ hx) y (aai _ hy)) h⟩
   ·exact .inr (hG x aan y aan h)
theorem zx {f g:T→T}:∀ {l m:List T},(∀ x∈l,∀ y∈m,f x=f y→g x=g y)→l.map f=m.map f→l.map g=m.map g
 | [],[],_,_=>rfl
 | [],_::_,_,h=>by simp at h
 | _::_,[],_,h=>by simp at h
 | x::l,y::m,hf,h=>by
   simp only [List.map_cons,List.cons.injEq] at h
   rw [List.map_cons,List.map_cons,hf x aan y aan h.1,zx (fun x hx y hy=>hf x (aai _ hx) y (aai _ hy)) h.2]
theorem Alike.symm {O O':Od} {p:Int→Prop} (h:Alike O O' p):Alike O' O p:=⟨fun n m hn hm=>(h.lt n m hn hm).symm,fun n hn=>(h.st n hn).symm⟩
theorem uo:∀ (N:Nat) {O O':Od} {p:Int→Prop} (h:Alike O O' p) {a b:T},wt a≤N→wt b≤N→nE p a→nE p b→E O a b→E O' a b:=by
 intro N
 induction N with
 | zero=>intro O O' p h a b h1;have:=fO a;omega
 | succ N ih=>
   intro O O' p h a b la lb ha hb he
   rcases Ha.1 he with ⟨ka,kb,hn,hl⟩ | h1
   ·refine Ha.2 (.inl ⟨ka,kb,(h.eq (ha.op ka) (hb.op kb)).1 hn,?_⟩)
    have key:∀ x∈a.l,∀ y∈b.l,norm O x=norm O y→norm O' x=norm O' y:=fun x hx y hy e=>by
     have:=bX hx;have:=bX hy
     exact ih h (by omega) (by omega) (ha.mem hx) (hb.mem hy) e
    rw [← h.st _ (ha.op ka)]
    split at hl
    ·rename_i hs;rw [if_pos hs];exact Dx key hl
    ·rename_i hs;rw [if_neg hs];exact zx key hl
   ·exact Ha.2 (.inr h1)
theorem Ba {O O':Od} {p:Int→Prop} (h:Alike O O' p) {a b:T} (ha:nE p a) (hb:nE p b):E O a b↔E O' a b:=
 ⟨uo (wt a + wt b) h (by omega) (by omega) ha hb,uo (wt a + wt b) h.symm (by omega) (by omega) ha hb⟩
theorem uq {O O':Od} {p:Int→Prop} (h:Alike O O' p):∀ {a b:T},nE p a→nE p b→R O a b→R O' a b:=by
 intro a b
 induction hw:wt a + wt b using Nat.strongRecOn generalizing a b with
 | _ n ih=>
   intro ha hb hr
   obtain ⟨ka,hr⟩:=oh.1 hr
   refine oh.2 ⟨ka,?_⟩
   rcases hr with ⟨x,hx,hr⟩ | ⟨kb,hr⟩
   ·have:=bX hx
    refine .inl ⟨x,hx,?_⟩
    rcases hr with hr | hr
    ·exact .inl ((Ba h (ha.mem hx) hb).1 hr)
    ·exact .inr (ih (wt x + wt b) (by omega) rfl (ha.mem hx) hb hr)
   ·have pa:=ha.op ka
    have pb:=hb.op kb
    have ab:∀ y∈b.l,R O a y→R O' a y:=fun y hy hr=>by
     have:=bX hy
     exact ih (wt a + wt y) (by omega) rfl ha (hb.mem hy) hr
    have key:∀ x∈a.l,∀ y∈b.l,norm O x=norm O y→norm O' x=norm O' y:=fun x hx y hy e=>(Ba h (ha.mem hx) (hb.mem hy)).1 e
    have keyG:∀ x∈a.l,∀ y∈b.l,Gt O.sp (norm O x) (norm O y)→Gt O'.sp (norm O' x) (norm O' y):=fun x hx y hy hg=>by
     have:=bX hx;have:=bX hy
     exact ih (wt x + wt y) (by omega) rfl (ha.mem hx) (hb.mem hy) hg
    refine .inr ⟨kb,?_⟩
    rw [← h.st _ pa]
    rcases hr with ⟨hn,hr⟩ | ⟨hn,hs,hr,hl⟩ | ⟨hn,hs,hm⟩
    ·exact .inl ⟨(h.lt _ _ pb pa).1 hn,fun y hy=>ab y hy (hr y hy)⟩
    ·refine .inr (.inl ⟨(h.eq pb pa).1 hn,hs,fun y hy=>ab y hy (hr y hy),?_⟩)
     rw [rv,rv] at hl ⊢
     exact Dy (fun x hx y hy=>key x (fW.1 hx) y (fW.1 hy)) (fun x hx y hy=>keyG x (fW.1 hx) y (fW.1 hy)) hl
    ·refine .inr (.inr ⟨(h.eq pb pa).1 hn,hs,?_⟩)
     have am:∀ x∈a.l++b.l,nE p x:=fun x hx=>by
      rcases abf.1 hx with hx | hx
      ·exact ha.mem hx
      ·exact hb.mem hx
     exact Ls (fun x hx y hy=>Ba h (am x hx) (am y hy)) keyG hm
theorem PI {O O':Od} {p:Int→Prop} (h:Alike O O' p) {a b:T} (ha:nE p a) (hb:nE p b):R O a b↔R O' a b:=
 ⟨uq h ha hb,uq h.symm ha hb⟩
end Go.eN
end
