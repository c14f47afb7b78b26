/- Part 11 of 18 of the proof. -/
import Derived.Test.YtljchnfgjdjobaaGreatWaj
import Derived.Test.YtljchnfgjdjobaaGreatWag
import Derived.KernelRfl
import Derived.Test.YtljchnfgjdjobaaGreatWai
import Derived.SizedLaws
set_option linter.unusedVariables false
set_option linter.unusedSimpArgs false
set_option linter.defProp false
set_option linter.unusedSectionVars false
section
namespace Go.aH
open Go
structure iz (esz:Nat) (x:AV):Prop where
 len:x.cells.length=esz
 un:x.cells.map AV.ab=x.cells
 bl:aj 0 x.cells=true
 one:x.cells.all AV.one=true
theorem iz.flat {esz:Nat}:∀ {xs:List AV},(∀ x∈xs,iz esz x)→(flat xs).length=xs.length * esz∧(flat xs).map AV.ab=flat xs∧(∀ n,aj n (flat xs)=true)∧(Go.aH.flat xs).all AV.one=true
 | [],_=>⟨by simp [Go.aH.flat],rfl,fun _=>rfl,rfl⟩
 | x::r,h=>by
   obtain ⟨h1,h2,h3,h4⟩:=iz.flat (xs:=r) fun y hy=>h y (List.mem_cons_of_mem _ hy)
   have hx:=h x List.mem_cons_self
   have e:Go.aH.flat (x::r)=x.cells++Go.aH.flat r:=rfl
   rw [e]
   refine ⟨by rw [List.length_append,hx.len,h1,List.length_cons,Nat.add_mul];omega,by rw [List.map_append,hx.un,h2],fun n=>?_,by rw [List.all_append,hx.one,h4];rfl⟩
   rw [bu];exact ⟨bD (Nat.zero_le n) _ hx.bl,h3 n⟩
theorem jQ (xs ys:List AV):flat (xs++ys)=flat xs++flat ys:=by simp [flat]
theorem jR {esz:Nat} {z:AV} (hz:iz esz (bL z)) (n:Nat):∀ x∈List.replicate n (bL z),iz esz x:=fun x hx=>by rw [List.eq_of_mem_replicate hx];exact hz
theorem nR {esz:Nat} {z:AV} (hz:iz esz (bL z)) (n:Nat):(ch z n).length=n * esz:=by
 have:=(iz.flat (jR hz n)).1
 rwa [List.length_replicate] at this
theorem ym {esz:Nat} {z:AV} (hz:iz esz (bL z)) (n k:Nat) (h:k≤n):(ch z n).drop (k * esz)=ch z (n - k):=by
 have e:ch z n=ch z k++ch z (n - k):=by
  unfold ch
  rw [← jQ,List.replicate_append_replicate]
  congr 2;omega
 rw [e,List.drop_append_of_le_length (by rw [nR hz];omega),List.drop_of_length_le (by rw [nR hz];omega)]
 rfl
def bc (z:AV) (xs:List AV) (cap:Nat):aa:=.cells (flat xs++ch z (cap - xs.length))
def RO (z:AV) (base:Nat) (v:AV) (xs:List AV) (G:List aa):Prop:=
 (xs=[]∧v=.ah)∨∃ id cap,base≤id∧v=.a8 id 0 xs.length cap∧G[id]?=some (bc z xs cap)∧xs.length≤cap∧xs≠[]
theorem RO.one {z:AV} {base:Nat} {v:AV} {xs:List AV} {G:List aa} (h:RO z base v xs G):v.one=true∧v.val=true∧v.ab=v∧v.cells=[v]:=by
 rcases h with ⟨_,rfl⟩ | ⟨id,cap,_,rfl,_⟩ <;> exact ⟨rfl,rfl,rfl,rfl⟩
theorem RO.aZ {z:AV} {base:Nat} {v:AV} {xs:List AV} {G:List aa} (h:RO z base v xs G) {n:Nat} (hn:G.length≤n):v.aZ n=true:=by
 rcases h with ⟨_,rfl⟩ | ⟨id,cap,_,rfl,c,_⟩
 ·rfl
 ·have:=(List.getElem?_eq_some_iff.1 c).1
  rw [jP];simp;omega
theorem RO.set {z:AV} {base:Nat} {v:AV} {xs:List AV} {G:List aa} (h:RO z base v xs G) {j:Nat} (hj:j < base) (o:aa):RO z base v xs (G.set j o):=by
 rcases h with h | ⟨id,cap,a,b,c,d⟩
 ·exact .inl h
 ·exact .inr ⟨id,cap,a,b,by rw [List.getElem?_set_ne (by omega)];exact c,d⟩
theorem RO.len {z:AV} {base:Nat} {v:AV} {xs:List AV} {G:List aa} (h:RO z base v xs G) {H:List aa} (φ:AV→Prop):fq v H φ=φ (.int .i64 xs.length):=by
 rcases h with ⟨rfl,rfl⟩ | ⟨id,cap,_,rfl,_⟩ <;> rfl
theorem Kj {esz bytes:Nat} {z:AV} (hz:iz esz (bL z)) {base:Nat} {v:AV} {xs:List AV} {G:List aa} (h:RO z base v xs G) (ej:∀ x∈xs,iz esz x) (o:Nat) (ys:List AV) (hy:ys≠[]) (pQ:∀ x∈ys,iz esz x)
 (hb:(xs.length + ys.length) * bytes≤140737488355328) (hG:base≤G.length) {K:AV→List aa→Prop}
 (hK:∀ v' G',RO z base v' (xs++ys) G'→G'.take base=G.take base→(∀ j,j < base→G'[j]?=G[j]?)→G.length≤G'.length→K v' G'):cD esz bytes z v (.ap o ys) G K:=by
 have jr:sR esz ys:=fun y hy=>⟨(pQ y hy).len,(pQ y hy).one⟩
 obtain ⟨f1,f2,f3,f4⟩:=iz.flat pQ
 obtain ⟨g1,g2,g3,g4⟩:=iz.flat ej
 have wN:=nR hz
 have kN:∀ n m,aj n (ch z m)=true:=fun n m=>(iz.flat (jR hz m)).2.2.1 n
 unfold cD
 simp only [dw]
 refine ⟨jr,?_⟩
 rcases h with ⟨rfl,rfl⟩ | ⟨id,cap,bk,rfl,hg,hle,_⟩
 ·refine ⟨by simpa using hb,fun e=>absurd e hy,fun _ cap hc _=>⟨?_,hK _ _ (.inr ⟨G.length,cap,hG,by simp,?_,by simpa using hc,by simpa using hy⟩) ?_ ?_ (by simp)⟩⟩
  ·rw [f2,bu];exact ⟨f3 _,kN _ _⟩
  ·rw [f2];simp [bc]
  ·rw [List.take_append_of_le_length hG]
  ·intro j hj;rw [List.getElem?_append_left (by omega)]
 ·have xT:=(List.getElem?_eq_some_iff.1 hg).1
  simp only [hg,bc,List.length_append,g1,wN,Nat.zero_add,List.drop_zero]
  refine ⟨hb,hle,by rw [← Nat.add_mul];exact Nat.le_of_eq (by congr 1;omega),fun hroom=>⟨by rw [f2];exact f3 _,?_⟩,fun j3 gC hc _=>⟨?_,?_⟩⟩
  ·rw [f2]
   refine hK _ _ (.inr ⟨id,cap,bk,by simp,?_,by simpa using hroom,by simp [hy]⟩) ?_ ?_ (by simp)
   ·rw [List.getElem?_set_self xT,bc]
    congr 2
    unfold ag
    rw [f1,List.take_append_of_le_length (by rw [g1];exact Nat.le_refl _),List.take_of_length_le (by rw [g1];exact Nat.le_refl _),List.drop_append,List.drop_of_length_le (by rw [g1];omega),g1,
     show xs.length * esz + ys.length * esz - xs.length * esz=ys.length * esz by omega,ym hz _ _ (by omega),jQ,List.nil_append,List.length_append]
    rw [show cap - xs.length - ys.length=cap - (xs.length + ys.length) by omega,List.append_assoc]
   ·rw [List.take_set_of_le (by omega)]
   ·intro j hj;rw [List.getElem?_set_ne (by omega)]
  ·rw [List.take_append_of_le_length (by rw [g1];exact Nat.le_refl _),List.take_of_length_le (by rw [g1];exact Nat.le_refl _),g2,f2,bu,bu];exact ⟨⟨g3 _,f3 _⟩,kN _ _⟩
  ·rw [List.take_append_of_le_length (by rw [g1];exact Nat.le_refl _),List.take_of_length_le (by rw [g1];exact Nat.le_refl _),g2,f2,← jQ]
   refine hK _ _ (.inr ⟨G.length,gC,hG,by simp,?_,by simpa using hc,by simp [hy]⟩) ?_ ?_ (by simp)
   ·simp [bc]
   ·rw [List.take_append_of_le_length hG]
   ·intro j hj;rw [List.getElem?_append_left (by omega)]
theorem pD {esz:Nat}:∀ {xs:List AV} (_:∀ x∈xs,iz esz x) (i:Nat),i < xs.length→(flat xs).drop (i * esz)=(xs.getD i .any).cells++flat (xs.drop (i + 1))
 | [],_,i,h=>by simp at h
 | x::r,hx,0,_=>by simp [flat]
 | x::r,hx,i + 1,h=>by
   have hl:=(hx x List.mem_cons_self).len
   have e:flat (x::r)=x.cells++flat r:=rfl
   rw [e,show (i + 1) * esz=x.cells.length + i * esz by rw [hl,Nat.add_mul];omega,List.drop_append,List.getD_cons_succ,List.drop_succ_cons]
   have:=pD (xs:=r) (fun y hy=>hx y (List.mem_cons_of_mem _ hy)) i (by simpa using h)
   simp [this]
theorem yn {esz:Nat} {z:AV} {c:Nat} (hc:c < esz) (v:AV):∀ {xs:List AV} (_:∀ x∈xs,iz esz x) (i:Nat) {y:AV} (rest:List AV),i < xs.length→y.cells=(xs.getD i .any).cells.set c v→
 (flat xs++rest).set (i * esz + c) v=flat (xs.set i y)++rest
 | [],_,i,_,_,h,_=>by simp at h
 | x::r,hx,0,y,rest,_,hy=>by
   have hl:=(hx x List.mem_cons_self).len
   have e:flat (x::r)=x.cells++flat r:=rfl
   rw [List.set_cons_zero,e,show flat (y::r)=y.cells++flat r from rfl,hy,Nat.zero_mul,Nat.zero_add,List.append_assoc,List.set_append_left _ _ (by omega),List.append_assoc]
   rfl
 | x::r,hx,i + 1,y,rest,h,hy=>by
   have hl:=(hx x List.mem_cons_self).len
   have e:flat (x::r)=x.cells++flat r:=rfl
   have ih:=yn (z:=z) hc v (xs:=r) (fun y hy=>hx y (List.mem_cons_of_mem _ hy)) i rest (y:=y) (by simpa using h) (by simpa using hy)
   rw [List.set_cons_succ,e,show flat (x::r.set i y)=x.cells++flat (r.set i y) from rfl,List.append_assoc,List.append_assoc,← ih,show (i + 1) * esz + c=x.cells.length + (i * esz + c) by rw [hl,Nat.add_mul];omega]
   rw [List.set_append_right _ _ (by omega)]
   congr 2;omega
theorem kO (e id N c i:Nat) (k:IntKind) (φ:AV→Prop):ay e (.a8 id 0 N c) (.int k (i:Int)) φ=(i < N∧φ (.ptr id (i * e))):=by
 simp only [ay,Int.toNat_natCast,Nat.zero_add,eq_iff_iff]
 constructor
 ·rintro ⟨_,h⟩;exact h
 ·exact fun h=>⟨by omega,h⟩
theorem nS {α:Type} (l:List α) (i:Nat) (x:α) (h:i < l.length):ag l i [x]=l.set i x:=by
 unfold ag
 rw [List.set_eq_take_append_cons_drop,if_pos h]
 rfl
theorem Ah {esz cap id:Nat} {z:AV} {ys:List AV} (pQ:∀ x∈ys,iz esz x) {i c:Nat} (hi:i < ys.length) (hc:c < esz) {v y:AV} (h1:v.one=true) (h2:v.val=true) (h3:v.ab.aZ 0=true) (hy:y.cells=(ys.getD i .any).cells.set c v.ab)
 {H:List aa} {K:List aa→Prop} (hK:K (H.set id (bc z (ys.set i y) cap))):iw (some (bc z ys cap)) 1 id (i * esz + c) v H K:=by
 obtain ⟨g1,g2,g3,g4⟩:=iz.flat pQ
 have hle:i * esz + esz≤ys.length * esz:=by rw [← Nat.succ_mul];exact Nat.mul_le_mul_right _ hi
 simp only [bc,Cj,xN h1,h2,List.length_cons,List.length_nil,List.all_cons,List.all_nil,h1,List.map_cons,List.map_nil]
 refine ⟨trivial,trivial,by rw [List.length_append,g1];omega,rfl,bD (Nat.zero_le _) [v.ab] (by rw [bG,cZ,h3];rfl),?_⟩
 rw [nS _ _ _ (by rw [List.length_append,g1];omega),yn (z:=z) hc v.ab pQ i _ hi hy]
 have e:(ys.set i y).length=ys.length:=by simp
 simp only [bc,e] at hK
 exact hK
theorem FX {esz:Nat} (h0:1 < esz):∀ {xs:List AV} (_:∀ x∈xs,iz esz x) (_:∀ x∈xs,AV.agg x.cells=x) (rest:List AV),chunks esz xs.length (flat xs++rest)=xs
 | [],_,_,_=>rfl
 | x::r,hx,ha,rest=>by
   have hl:=(hx x List.mem_cons_self)
   have e:flat (x::r)=x.cells++flat r:=rfl
   rw [List.length_cons,chunks,if_neg (by omega),e,List.append_assoc,List.take_append_of_le_length (by rw [hl.len];omega),List.take_of_length_le (by rw [hl.len];omega),hl.un,ha x List.mem_cons_self]
   rw [show List.drop esz (x.cells++(flat r++rest))=flat r++rest by rw [← hl.len,List.drop_left],FX h0 (fun y hy=>hx y (List.mem_cons_of_mem _ hy)) (fun y hy=>ha y (List.mem_cons_of_mem _ hy))]
theorem qH {esz id cap:Nat} (h0:1 < esz) {z:AV} (hz:iz esz (bL z)) {xs:List AV} {H:List aa} (hx:∀ x∈xs,iz esz x) (ha:∀ x∈xs,AV.agg x.cells=x) (h:H[id]?=some (bc z xs cap)) (hl:xs.length≤cap) {K:AV→List aa→Prop} (hK:K (.ap 0 xs) (H.set id .dead)):dC esz (.a8 id 0 xs.length cap) H K:=by
 obtain ⟨g1,g2,g3,g4⟩:=iz.flat hx
 simp only [dC,h,bc,List.drop_zero,FX h0 hx ha]
 refine ⟨by omega,hl,by simp [g1],?_,hK⟩
 rw [List.all_append,g4,show (ch z (cap - xs.length)).all AV.one=true from (iz.flat (jR hz _)).2.2.2];rfl
end Go.aH
end
section
set_option maxRecDepth 100000
set_option maxHeartbeats 0
namespace Go.aH
open Go Go.Proofs
noncomputable def V1:=aJ Tryz.call58 Tryz.func58 Tryz.ntmps58 [(3,0,2),(3,2,2),(3,3,1)] [(0,[0]),(1,[0,4]),(2,[2]),(3,[2])] []
noncomputable def V2:=aJ Tryz.call75 Tryz.func75 Tryz.ntmps75 [(0,0,1),(5,2,1000),(6,0,1),(6,8,1),(7,6,2),(7,9,2),(9,0,6004)] [(0,[1,2]),(1,[1,6]),(2,[1,6,7]),(3,[6,7,15,16,17]),(4,[6,7,15,16,17,18]),(5,[6,7,9,15,16,17]),(6,[6,7,9,15,16,17]),(7,[6,7,15,16,17]),(8,[6,7,15,16,17]),(9,[4,5])] [(7,(.take 1 true (.take 2 true (.take 3 true (.take 4 true (.take 5 true (.take 0 false (.br 6 (.take 7 true (.take 8 true (.br 9 .done .nil))) .nil))))))))]
noncomputable def PR:=aJ Tryz.call118 Tryz.func118 Tryz.ntmps118 [(3,0,2),(3,2,2),(3,3,1)] [(0,[0]),(1,[0,4]),(2,[2]),(3,[2])] []
noncomputable def FY:=aJ Tryz.call132 Tryz.func132 Tryz.ntmps132 [(0,0,1),(2,0,1),(2,4,2),(2,5,1),(6,2,1000),(7,0,1),(7,5,1),(8,1,1),(8,2,2),(8,3,1),(11,0,1),(11,1,1)] [(0,[1,2]),(1,[1,2,5]),(2,[1,2,5]),(3,[1,2,5,6]),(4,[1,5,6,17,18,19]),(5,[1,5,6,17,18,19,20]),(6,[1,5,6,8,17,18,19]),(7,[1,5,6,8,17,18,19]),(8,[1,5,6,17,18,19]),(9,[1,5,6,17,18,19]),(10,[1]),(11,[4])] []
noncomputable def PT:=aJ Tryz.call139 Tryz.func139 Tryz.ntmps139 [(10,9,2000),(15,0,1),(15,4,1),(21,0,1),(21,4,1),(23,2,3000)] [(0,[0,1,2]),(1,[0,1,2,9]),(2,[0,1,2,9,10]),(3,[0,1,2,9,10,11,12]),(4,[0,1,9,10,11,12,26,27,28]),(5,[0,1,9,10,11,12,26,27,28,29]),(6,[0,1,9,10,11,12,13,14,26,27,28]),(7,[0,1,9,10,11,12,13,14,26,27,28,33,34,35]),(8,[0,1,9,10,11,12,13,14,26,27,28,33,34,35,36]),(9,[0,1,9,10,11,12,13,14,15,16,26,27,28,33,34,35]),(10,[0,1,9,10,11,12,13,14,15,26,27,28,33,34,35,50]),(11,[0,1,9,10,11,12,13,15,26,27,28]),(12,[0,1,9,10,11,12,13,26,27,28]),(13,[0,1,9,10,11,12,13,14,26,27,28,33,34,35]),(14,[0,1,9,10,11,12,13,26,27,28,63]),(15,[0,1,9,10,11,12,26,27,28]),(16,[0,1,9,10,11,12,26,27,28]),(17,[10,11,12,69,70,71]),(18,[10,11,12,69,70,71,72]),(19,[10,11,12,17,18,69,70,71]),(20,[10,11,12,17,69,70,71,77]),(21,[10,11,12,69,70,71]),(22,[10,11,12,69,70,71]),(23,[6,7,8])] []
noncomputable def PU:=aJ Tryz.call149 Tryz.func149 Tryz.ntmps149 [(1,2,1),(3,1,2000),(4,0,3000)] [(0,[0,1]),(1,[0,1]),(2,[0,8]),(3,[0]),(4,[4])] []
noncomputable def PV:=aJ Tryz.call185 Tryz.func185 Tryz.ntmps185 [(5,3,2000),(6,19,2000)] [(0,[0,1,2]),(1,[0,1,2,7,8]),(2,[0,1,2,7,38]),(3,[6]),(4,[0,9,10]),(5,[0,9,10,11]),(6,[6])] [(4,(.take 0 true (.take 1 true (.take 2 true (.take 3 true (.take 4 true (.take 5 true (.take 6 true (.take 7 true (.take 8 true (.take 9 true (.take 10 true (.take 11 true (.take 12 true (.take 13 true (.take 14 true (.take 15 true (.take 16 true (.take 17 true (.take 18 true (.take 19 true (.take 20 true (.take 21 true .done))))))))))))))))))))))),(6,(.take 0 true (.take 1 true (.take 2 true (.take 3 true (.take 4 true (.take 5 true (.take 6 true (.take 7 true (.take 8 true (.take 9 true (.take 10 true (.take 11 true (.take 12 true (.take 13 true (.take 14 true (.take 15 true (.take 16 true (.take 17 true (.take 18 true (.br 19 (.take 20 true (.take 21 true (.take 22 true .done))) .nil)))))))))))))))))))))]
noncomputable def PW:=aJ Tryz.call199 Tryz.func199 Tryz.ntmps199 [] [(0,[0,2,3]),(1,[0,2,3,9]),(2,[0,2,3]),(3,[0,2,3])] [(3,(.take 0 true (.take 1 true (.take 4 true (.take 5 true (.take 6 true (.take 7 true (.take 8 true (.take 9 true (.take 10 true (.take 11 true (.take 12 true (.take 2 false (.take 3 false (.br 13 (.take 14 true (.br 15 .done .nil)) .nil)))))))))))))))]
end Go.aH
end
section
set_option maxRecDepth 100000
namespace Go.aH
open Go
inductive T where
 | mk (k n:Int) (l:List T)
 deriving Inhabited
mutual
def T.av:T→AV
 | .mk k n l=>.agg [.int .i64 k,.int .i64 n,.ap 0 (bW l)]
def bW:List T→List AV
 | []=>[]
 | x::r=>x.av::bW r
end
def T.k:T→Int | .mk k _ _=>k
def T.n:T→Int | .mk _ n _=>n
def T.l:T→List T | .mk _ _ l=>l
theorem T.tC (x:T):x.av=.agg [.int .i64 x.k,.int .i64 x.n,.ap 0 (bW x.l)]:=by cases x;rfl
theorem mr:∀ l,bW l=l.map T.av
 | []=>rfl
 | x::r=>by simp [bW,mr r]
theorem qI (l:List T):(bW l).length=l.length:=by simp [mr]
theorem Cp (l:List T) (i:Nat) (h:i < l.length):(bW l).getD i .any=(l.getD i default).av:=by
 simp [mr,h]
mutual
theorem T.kP (n:Nat):∀ x:T,x.av.aZ n=true
 | .mk k m l=>by simp [T.av,AV.aZ,aj,dI n l]
theorem dI (n:Nat):∀ l:List T,aj n (bW l)=true
 | []=>rfl
 | x::r=>by simp [bW,aj,T.kP n x,dI n r]
end
theorem T.rZ (x:T):AV.agg x.av.cells=x.av:=by cases x;rfl
theorem T.vR (x:T):x.av.val=true:=by cases x;rfl
theorem T.pE (x:T):x.av.cells.all AV.one=true:=by cases x;rfl
theorem T.nT (x:T):x.av.ab=x.av:=by cases x;rfl
theorem T.qJ (x:T):x.av.drop=x.av:=by cases x;rfl
theorem T.Cq (x:T):x.av.cells.map AV.ab=x.av.cells:=by cases x;rfl
theorem T.EF (x:T):x.av.cells.map AV.drop=x.av.cells:=by cases x;rfl
theorem T.gN (x:T):x.av.cells.length=3:=by cases x;rfl
theorem Kk (o:Nat) (l:List T):(∀ (own:Nat) (xs:List AV),AV.ap o (bW l)=AV.ap own xs→∀ z∈xs,z.cells.length=3)=True:=by
 simp only [eq_iff_iff,iff_true]
 intro own xs e z hz
 cases e
 rw [mr] at hz
 obtain ⟨y,_,rfl⟩:=List.mem_map.1 hz
 exact y.gN
theorem Oi (e o:Nat) (l:List T) (k:IntKind) (i:Nat) (φ:AV→Prop):ay e (.ap o (bW l)) (.int k (i:Int)) φ=(i < l.length∧φ (.ai (l.getD i default).av)):=by
 simp only [ay,qI,Int.toNat_natCast,eq_iff_iff]
 constructor
 ·rintro ⟨_,h,h2⟩;rw [Cp _ _ h] at h2;exact ⟨h,h2⟩
 ·rintro ⟨h,h2⟩;rw [Cp _ _ h];exact ⟨by omega,h,h2⟩
theorem Cr (x:T) (H:List aa) (φ:AV→Prop):aR (some 3) (.ai x.av) H φ=φ x.av:=by
 simp [aR,T.gN,T.rZ]
theorem Zs (a b c:AV) (x:T):ag [a,b,c] 0 x.av.cells=x.av.cells:=by simp [ag,T.gN]
theorem Zt (n:Nat) (x:T):aj n x.av.cells=true:=cz (x.kP _)
theorem Oj (x:T) (φ:AV→Prop):c8 (some (.cells x.av.cells)) (some 3) 0 φ=φ x.av:=by
 have e:List.map AV.drop (List.take 3 (List.drop 0 x.av.cells))=x.av.cells:=by cases x;rfl
 simp only [c8,e,T.rZ]
 simp [T.gN]
theorem fk (x:T) (φ:AV→Prop):ak 0 none (.ai x.av) φ=φ (.ai (.int .i64 x.k)):=by
 cases x;simp [ak,apart,T.av,AV.cells,T.k,AV.one]
theorem fn_ (x:T) (φ:AV→Prop):ak 1 none (.ai x.av) φ=φ (.ai (.int .i64 x.n)):=by
 cases x;simp [ak,apart,T.av,AV.cells,T.n,AV.one]
theorem fl (x:T) (φ:AV→Prop):ak 2 none (.ai x.av) φ=φ (.ai (.ap 0 (bW x.l))):=by
 cases x;simp [ak,apart,T.av,AV.cells,T.l,AV.one]
def ints (l:List Int):List AV:=l.map (AV.int .i64)
theorem aw (l:List Int):(ints l).length=l.length:=by simp [ints]
theorem aY (n:Nat) (l:List Int):aj n (ints l)=true:=by
 rw [ba];intro x hx;obtain ⟨y,_,rfl⟩:=List.mem_map.1 hx;rfl
theorem dH (o:Nat) (l:List Int):(∀ (own:Nat) (xs:List AV),AV.ap o (ints l)=AV.ap own xs→∀ z∈xs,z.cells.length=1)=True:=by
 simp only [eq_iff_iff,iff_true]
 intro own xs e z hz
 cases e
 obtain ⟨y,_,rfl⟩:=List.mem_map.1 hz
 rfl
theorem Kl (e o:Nat) (l:List Int) (k:IntKind) (i:Nat) (φ:AV→Prop):ay e (.ap o (ints l)) (.int k (i:Int)) φ=(i < l.length∧φ (.ai (.int .i64 (l.getD i 0)))):=by
 simp only [ay,aw,Int.toNat_natCast,eq_iff_iff]
 constructor
 ·rintro ⟨_,h,h2⟩;refine ⟨h,?_⟩;simpa [ints,h] using h2
 ·rintro ⟨h,h2⟩;refine ⟨by omega,h,?_⟩;simpa [ints,h] using h2
theorem sc (l:List Int) (n:Int):ints l++[.int .i64 n]=ints (l++[n]):=by simp [ints]
theorem ok_int (k:IntKind) (n:Int):sR 1 [.int k n]=True:=by simp [sR,AV.cells,AV.one]
theorem ms (l:List Int):sR 1 (ints l)=True:=by
 simp only [sR,eq_iff_iff,iff_true]
 intro y hy
 obtain ⟨z,_,rfl⟩:=List.mem_map.1 hy
 exact ⟨rfl,rfl⟩
theorem SF (x:T):sR 3 [x.av]=True:=by
 simp only [sR,eq_iff_iff,iff_true]
 intro y hy
 rw [List.mem_singleton] at hy
 subst hy
 exact ⟨x.gN,x.pE⟩
theorem SH (k:IntKind) (n:Int):aM (.int k n)=.int k n:=_root_.id rfl
theorem Zu (x:T):aM x.av=x.av:=by cases x;rfl
theorem bs0 (z:AV) (esz:Nat) (φ:List AV→Prop):bi (List.replicate 0 z) esz [] φ=φ []:=_root_.id rfl
theorem bs1 (z x:AV) (esz:Nat) (φ:List AV→Prop):bi (List.replicate 1 (aM z)) esz [(0,x)] φ=(x.val=true∧x.cells.length=esz∧φ [aM x]):=by
 simp [bi]
theorem bs2 (z x y:AV) (esz:Nat) (φ:List AV→Prop):bi (List.replicate 2 (aM z)) esz [(0,x),(1,y)] φ=(x.val=true∧x.cells.length=esz∧y.val=true∧y.cells.length=esz∧φ [aM x,aM y]):=by
 simp [bi,List.replicate]
theorem bs3 (z x y u:AV) (esz:Nat) (φ:List AV→Prop):bi (List.replicate 3 (aM z)) esz [(0,x),(1,y),(2,u)] φ=(x.val=true∧x.cells.length=esz∧y.val=true∧y.cells.length=esz∧u.val=true∧u.cells.length=esz∧φ [aM x,aM y,aM u]):=by
 simp [bi,List.replicate]
@[congr] theorem LQ {xs:List AV} {esz:Nat} {ps ps':List (Nat×AV)} {φ:List AV→Prop} (h:gD ps=ps'):bi xs esz ps φ=bi xs esz ps' φ:=by subst h;rfl
def SJ:=(And.intro (And.intro (And.intro (And.intro @or_true @true_or) (And.intro @true_and @and_true)) (And.intro (And.intro @true_implies @Bool.true_and) (And.intro @Bool.and_true (And.intro @Bool.not_true @Bool.not_false)))) (And.intro (And.intro (And.intro @decide_true @decide_false) (And.intro @Classical.not_not @not_true_eq_false)) (And.intro (And.intro @not_false_eq_true @false_implies) (And.intro @Int.not_le (And.intro @Int.not_lt @Nat.le_refl)))))
def SK:=(And.intro (And.intro (And.intro (And.intro (And.intro @qI @T.kP) (And.intro @dI @T.vR)) (And.intro (And.intro @T.pE @T.nT) (And.intro @T.qJ @T.Cq))) (And.intro (And.intro (And.intro @T.EF @T.gN) (And.intro @T.rZ @Kk)) (And.intro (And.intro @Oi @Cr) (And.intro @Zs (And.intro @Zt @Oj))))) (And.intro (And.intro (And.intro (And.intro @fk @fn_) (And.intro @fl @aw)) (And.intro (And.intro @aY @dH) (And.intro @Kl @sc))) (And.intro (And.intro (And.intro @ok_int @SF) (And.intro @ms @SH)) (And.intro (And.intro @Zu @bs0) (And.intro @bs1 (And.intro @bs2 @bs3))))))
theorem sZa {α:Type} (a b:α) (h:Decidable True):(if True then a else b)=a:=if_pos trivial
def sZ:=And.intro SE (And.intro SK (And.intro SJ (And.intro @sZa (And.intro @ne_eq.{1} (And.intro @forall_const.{1} (And.intro @implies_true.{0} (And.intro @implies_true.{1} (And.intro @List.nil_append.{0} (And.intro @List.append_nil.{0} (And.intro @List.cons_append.{0} (And.intro @List.length_cons.{0} @List.length_nil.{0})))))))))))
end Go.aH
end
section
end
section
set_option maxRecDepth 100000
namespace Go.aH
open Go Go.Proofs
theorem gO {l:List T} {i:Nat} (h:i < l.length):l.getD i default∈l:=by simp [h]
theorem T.lt {x y:T} (h:x∈y.l):SizeOf.sizeOf x < SizeOf.sizeOf y:=by
 cases y with
 | mk k n l=>
   have:=List.sizeOf_lt_of_mem h
   simp only [T.l] at this
   simp only [T.mk.sizeOf_spec]
   omega
end Go.aH
end
section
set_option maxRecDepth 100000
namespace Go.aH
open Go Go.Proofs
end Go.aH
end
section
set_option maxRecDepth 100000
namespace Go.aH
open Go Go.Proofs
mutual
def gf:T→Int→Int×Int→Int×Int
 | .mk _ _ l,d,s=>kQ l (d + 1) (s.1 + 1,max s.2 d)
def kQ:List T→Int→Int×Int→Int×Int
 | [],_,s=>s
 | x::r,d,s=>if 2000 < s.1∨200 < s.2 then s else kQ r d (gf x d s)
end
def pc (d:Int) (s:Int×Int):Prop:=0≤s.1∧s.1≤2000∧0≤s.2∧s.2≤200∧0≤d∧d≤201
def mv (s:Int×Int):Prop:=0≤s.1∧s.1≤2001∧0≤s.2∧s.2≤201
mutual
theorem vS:∀ (x:T) (d:Int) (s:Int×Int),pc d s→mv (gf x d s)∧(gf x d s).2 ≥ d
 | .mk k n l,d,s,h=>by
   simp only [gf]
   obtain ⟨h1,h2,h3,h4,h5,h6⟩:=h
   have:=Cs l (d + 1) (s.1 + 1,max s.2 d) (by unfold mv;simp only;omega) (by omega) (by simp only;omega)
   refine ⟨this.1,?_⟩
   have h:=this.2
   simp only at h
   omega
theorem Cs:∀ (l:List T) (d:Int) (s:Int×Int),mv s→0≤d→d≤s.2 + 1→mv (kQ l d s)∧s.2≤(kQ l d s).2
 | [],d,s,h,_,_=>by simp [kQ,h]
 | x::r,d,s,h,hd,GF=>by
   simp only [kQ]
   split
   ·exact ⟨h,Int.le_refl _⟩
   ·rename_i hn
    obtain ⟨h1,h2,h3,h4⟩:=h
    have hx:=vS x d s ⟨h1,by omega,h3,by omega,hd,by omega⟩
    have hr:=Cs r d (gf x d s) hx.1 hd (by omega)
    have:=sd x d s
    exact ⟨hr.1,by omega⟩
theorem sd:∀ (x:T) (d:Int) (s:Int×Int),s.2≤(gf x d s).2
 | .mk k n l,d,s=>by
   simp only [gf]
   have:=yo l (d + 1) (s.1 + 1,max s.2 d)
   simp only at this
   omega
theorem yo:∀ (l:List T) (d:Int) (s:Int×Int),s.2≤(kQ l d s).2
 | [],d,s=>by simp [kQ]
 | x::r,d,s=>by
   simp only [kQ]
   split
   ·omega
   ·have h1:=sd x d s
    have h2:=yo r d (gf x d s)
    omega
end
theorem HS {l:List T} {i:Nat} {d:Int} {s:Int×Int} (h:i < l.length):kQ (l.drop i) d s=if 2000 < s.1∨200 < s.2 then s else kQ (l.drop (i + 1)) d (gf (l.getD i default) d s):=by
 rw [List.drop_eq_getElem_cons h]
 simp [kQ,h]
def eK (s:Int×Int):List aa:=[.cells [.int .i64 s.1,.int .i64 s.2]]
theorem SL (H:List aa) (x:T) (d:Int) (s:Int×Int) (hs:pc d s) :
 aq Tryz.prog 171 [.ptr H.length 0,x.av,.int .i64 d] (H++eK s) fun r H'=>r=.tuple []∧H'=H++eK (gf x d s):=by
 have ih:∀ y∈x.l,∀ (d:Int) (s:Int×Int),pc d s→aq Tryz.prog 171 [.ptr H.length 0,y.av,.int .i64 d] (H++eK s) fun r H'=>r=.tuple []∧H'=H++eK (gf y d s):=
  fun y hy d s hs=>SL H y d s hs
 have e:gf x d s=kQ x.l (d + 1) (s.1 + 1,max s.2 d):=by cases x;simp only [gf,T.l]
 obtain ⟨h1,h2,h3,h4,h5,h6⟩:=hs
 have w1:IntKind.i64.wrap (s.1 + 1)=s.1 + 1:=eu _ (by omega)
 have w2:IntKind.i64.wrap (d + 1)=d + 1:=eu _ (by omega)
 refine MD.2.calls rfl ?_
 simp only [MD,aJ]
 simp only [w1,eK,sZ,Nat.reduceEqDiff,Nat.reduceAdd,Nat.reduceLT,Nat.reduceLeDiff,↓reduceIte,reduceCtorEq]
 intro hl
 have IF:mv (s.1 + 1,max s.2 d):=by unfold mv;simp only;omega
 have Y3:d≤max s.2 d:=by omega
 generalize max s.2 d=m at *
 refine aE x.l.length (fun i (t:Int×Int)=>mv t∧d≤t.2∧kQ (x.l.drop i) (d + 1) t=gf x d s)
  (fun i t=>[(0,.ptr H.length 0),(2,.int .i64 d),(25,.ap 0 (bW x.l)),(26,.int .i64 x.l.length),(27,.int .i64 i)]) (fun i t=>H++eK t) (s.1 + 1,m) ⟨⟨IF,Y3,by rw [e];rfl⟩,aA _ _ _⟩ fun i t hi hI=>?_
 obtain ⟨⟨k1,k2,k3,k4⟩,k5,hI⟩:=hI
 simp only [w2,eK,sZ,Nat.reduceEqDiff,Nat.reduceAdd,Nat.reduceLT,↓reduceIte,reduceCtorEq]
 refine ⟨fun aX=>⟨bS aX,?_⟩,fun jh=>?_⟩
 ·have aX:=bS aX
  rw [HS aX] at hI
  refine ⟨fun Zv=>⟨fun T1=>?_,fun T1=>?_⟩,fun Zv=>?_⟩
  ·rw [if_pos (.inr T1)] at hI;rw [← hI];exact iL (by simp [eK]) rfl
  ·rw [if_neg (by omega)] at hI
   have ho:pc (d + 1) t:=⟨k1,by omega,k3,by omega,by omega,by omega⟩
   have hx:=vS (x.l.getD i default) (d + 1) t ho
   refine af (ih _ (gO aX) (d + 1) t ho) ?_
   rintro r H' ⟨rfl,rfl⟩
   simp only [eK,sZ,Nat.reduceEqDiff,↓reduceIte,reduceCtorEq]
   exact ⟨i + 1,gf (x.l.getD i default) (d + 1) t,⟨aX,hx.1,by omega,hI⟩,by omega,aI (by rw [ax i (by omega)]) rfl⟩
  ·rw [if_pos (.inl Zv)] at hI;rw [← hI];exact iL (by simp [eK]) rfl
 ·rw [List.drop_of_length_le (dd jh)] at hI
  rw [← hI]
  exact iL (by simp [eK]) rfl
termination_by SizeOf.sizeOf x
decreasing_by exact T.lt hy
def tD (s:Int×Int):Bool:=decide (2000 < s.1) || decide (200 < s.2)
theorem V3 (H:List aa) (s:Int×Int):aq Tryz.prog 172 [.ptr H.length 0] (H++eK s) fun r H'=>r=.bool (tD s)∧H'=H++eK s:=by
 refine ME.2.calls rfl ?_
 simp only [ME,aJ]
 simp only [eK,sZ,Nat.reduceEqDiff,Nat.reduceAdd,Nat.reduceLT,↓reduceIte,reduceCtorEq]
 refine ⟨fun h=>?_,fun h=>?_⟩
 ·exact SA (by simp [eK]) rfl (by simp [tD,Int.not_lt.2 h]) rfl
 ·exact SA (by simp [eK]) rfl (by simp [tD,h]) rfl
def sf (p:T→Bool):List T→Int→Int
 | [],_=>-1
 | x::r,k=>if p x=true then k else sf p r (k + 1)
theorem vU (p:T→Bool):∀ (l:List T) (k:Int),0≤k→(decide (0≤sf p l k)=l.any p)
 | [],k,_=>by simp [sf]
 | x::r,k,h=>by
   simp only [sf,List.any_cons]
   split
   ·rename_i hp;simp [hp,h]
   ·rename_i hp;simp [hp,vU p r (k + 1) (by omega)]
theorem yp {p:T→Bool} {l:List T} {i:Nat} {k:Int} (h:i < l.length):sf p (l.drop i) k=if p (l.getD i default)=true then k else sf p (l.drop (i + 1)) (k + 1):=by
 rw [List.drop_eq_getElem_cons h]
 simp [sf,h]
theorem Zw (g:Nat) (p:T→Bool) (l:List T) (hf:∀ x∈l,Pure Tryz.prog g [x.av] (.bool (p x))) :
 Pure Tryz.prog 114 [.ap 0 (bW l),.fn (.func g) [] []] (.int .i64 (sf p l 0)):=by
 refine fun H=>BV.2.calls rfl ?_
 simp only [BV,aJ]
 simp only [sZ,Nat.reduceEqDiff,Nat.reduceAdd,↓reduceIte,reduceCtorEq]
 intro hl
 refine aP l.length (fun i=>sf p (l.drop i) i=sf p l 0) (fun i=>[(0,.ap 0 (bW l)),(1,.fn (.func g) [] []),(7,.int .i64 l.length),(8,.int .i64 i)]) (fun _=>H) ⟨rfl,aA _ _ _⟩ fun i hi hI=>?_
 simp only [sZ,Nat.reduceEqDiff,Nat.reduceAdd,↓reduceIte,reduceCtorEq]
 refine ⟨fun aX=>?_,fun jh=>?_⟩
 ·have aX:=bS aX
  rw [yp aX] at hI
  refine ⟨aX,ae (hf _ (gO aX)) ?_⟩
  simp only [sZ,Nat.reduceEqDiff,↓reduceIte,reduceCtorEq]
  refine qD (fun hb=>?_) (fun hb=>?_) <;> simp only [sZ,Nat.reduceEqDiff,↓reduceIte,reduceCtorEq]
  ·rw [if_pos hb] at hI
   exact bh rfl (by rw [← hI])
  ·rw [if_neg (by rw [hb];simp)] at hI
   exact ⟨i + 1,⟨aX,hI⟩,by omega,aI (by rw [ax i (by omega)]) rfl⟩
 ·rw [List.drop_of_length_le (dd jh)] at hI
  exact bh rfl (by rw [← hI];rfl)
theorem Zx (g:Nat) (p:T→Bool) (l:List T) (hf:∀ x∈l,Pure Tryz.prog g [x.av] (.bool (p x))) :
 Pure Tryz.prog 53 [.ap 0 (bW l),.fn (.func g) [] []] (.bool (l.any p)):=by
 refine fun H=>Pj.2.calls rfl ?_
 simp only [Pj,aJ]
 simp only [sZ,Nat.reduceEqDiff,Nat.reduceAdd,↓reduceIte,reduceCtorEq]
 refine ae (Zw g p l hf) ?_
 simp only [sZ,↓reduceIte,reduceCtorEq]
 exact bh rfl (by rw [vU p l 0 (by omega)])
mutual
def T.shaped:T→Bool
 | .mk k n l=>!(decide (n < 0) || (decide (k=1) && decide (0 < l.length)) || (decide (k≠1) && decide (k≠2)) || decide (8 < l.length)) && ew l
def ew:List T→Bool
 | []=>true
 | x::r=>x.shaped && ew r
end
theorem ku:∀ l,ew l=l.all T.shaped
 | []=>rfl
 | x::r=>by simp only [ew,List.all_cons,ku r]
theorem Ct (l:List T):(!(l.any fun x=>!x.shaped))=ew l:=by
 rw [ku]
 induction l with
 | nil=>rfl
 | cons x r ih=>simp only [List.any_cons,List.all_cons,Bool.not_or,Bool.not_not,ih]
theorem T.dX (x:T):x.shaped=(!(decide (x.n < 0) || (decide (x.k=1) && decide (0 < x.l.length)) || (decide (x.k≠1) && decide (x.k≠2)) || decide (8 < x.l.length)) && ew x.l):=by
 cases x;simp only [T.shaped,T.k,T.n,T.l];rfl
theorem Ai {l:List T} {i:Nat} (h:i < l.length):ew (l.drop i)=((l.getD i default).shaped && ew (l.drop (i + 1))):=by
 rw [List.drop_eq_getElem_cons h]
 simp [ew,h]
theorem T.HT {x:T} (hh:¬ (x.n < 0∨(x.k=1∧0 < x.l.length)∨(x.k≠1∧x.k≠2)∨8 < x.l.length)):x.shaped=ew x.l:=by
 rw [x.dX]
 have h1:decide (x.n < 0)=false:=Bool.eq_false_iff.2 (by simp only [ne_eq,decide_eq_true_eq];omega)
 have h2:(decide (x.k=1) && decide (0 < x.l.length))=false:=Bool.eq_false_iff.2 (by simp only [ne_eq,Bool.and_eq_true,decide_eq_true_eq];omega)
 have h3:(decide (x.k≠1) && decide (x.k≠2))=false:=Bool.eq_false_iff.2 (by simp only [ne_eq,Bool.and_eq_true,decide_eq_true_eq];omega)
 have h4:decide (8 < x.l.length)=false:=Bool.eq_false_iff.2 (by simp only [ne_eq,decide_eq_true_eq];omega)
 rw [h1,h2,h3,h4];rfl
theorem Zy (x:T) (h:Pure Tryz.prog 173 [x.av] (.bool x.shaped)):Pure Tryz.prog 211 [x.av] (.bool (!x.shaped)):=by
 refine fun H=>MT.2.calls rfl ?_
 simp only [MT,aJ]
 simp only [sZ,Nat.reduceEqDiff,Nat.reduceAdd,↓reduceIte]
 refine ae h ?_
 simp only [sZ,↓reduceIte,reduceCtorEq]
 exact bh rfl rfl
theorem V4 (x:T):Pure Tryz.prog 173 [x.av] (.bool x.shaped):=by
 have ih:∀ y∈x.l,Pure Tryz.prog 211 [y.av] (.bool (!y.shaped)):=fun y hy=>Zy y (V4 y)
 refine fun H=>MF.2.calls rfl ?_
 simp only [MF,aJ]
 simp +contextual only [sZ,Nat.reduceEqDiff,Nat.reduceAdd,↓reduceIte,reduceCtorEq]
 have fin:∀ (H':List aa),H'=H→(x.n < 0∨(x.k=1∧0 < x.l.length)∨(x.k≠1∧x.k≠2)∨8 < x.l.length)→bR H.length [RX.t 2] [(2,AV.bool false)] H' fun r H'=>r=AV.bool x.shaped∧H'=H:=by
  rintro H' rfl hh
  refine bh rfl ?_
  rw [x.dX]
  rcases hh with h | h | h | h <;> simp [h]
 have go:¬ (x.n < 0∨(x.k=1∧0 < x.l.length)∨(x.k≠1∧x.k≠2)∨8 < x.l.length)→x.shaped=ew x.l:=by
  intro hh
  rw [x.dX]
  have h1:decide (x.n < 0)=false:=Bool.eq_false_iff.2 (by simp only [ne_eq,decide_eq_true_eq];omega)
  have h2:(decide (x.k=1) && decide (0 < x.l.length))=false:=Bool.eq_false_iff.2 (by simp only [ne_eq,Bool.and_eq_true,decide_eq_true_eq];omega)
  have h3:(decide (x.k≠1) && decide (x.k≠2))=false:=Bool.eq_false_iff.2 (by simp only [ne_eq,Bool.and_eq_true,decide_eq_true_eq];omega)
  have h4:decide (8 < x.l.length)=false:=Bool.eq_false_iff.2 (by simp only [ne_eq,decide_eq_true_eq];omega)
  rw [h1,h2,h3,h4];rfl
 refine ⟨fun h=>fin _ rfl (.inl h),fun h=>⟨fun h1 hl=>⟨fun h2=>fin _ rfl (by omega),fun h2=>⟨fun h3=>fin _ rfl (by omega),fun h3=>ae (Zx 211 _ _ ih) ?_⟩⟩,
  fun h1=>⟨fun h2=>fin _ rfl (by omega),fun h2 hl=>⟨fun h3=>fin _ rfl (by omega),fun h3=>ae (Zx 211 _ _ ih) ?_⟩⟩⟩⟩ <;>
 ·simp only [sZ,↓reduceIte,reduceCtorEq]
  exact bh rfl (by rw [go (by omega),Ct])
termination_by SizeOf.sizeOf x
decreasing_by exact T.lt hy
def T.tree (x:T):Bool:=!tD (gf x 1 (0,0)) && x.shaped
theorem V5 (x:T):Pure Tryz.prog 108 [x.av] (.bool x.tree):=by
 refine fun H=>Mx.2.calls rfl ?_
 simp only [Mx,aJ]
 simp only [sZ,Nat.reduceEqDiff,Nat.reduceAdd,↓reduceIte,reduceCtorEq]
 refine af (SL H x 1 (0,0) (by unfold pc;simp)) ?_
 rintro r H' ⟨rfl,rfl⟩
 simp only [sZ,Nat.reduceEqDiff,Nat.reduceAdd,↓reduceIte]
 refine af (V3 H (gf x 1 (0,0))) ?_
 rintro r H' ⟨rfl,rfl⟩
 cases hb:tD (gf x 1 (0,0)) <;> simp +contextual only [sZ,Nat.reduceEqDiff,Nat.reduceAdd,↓reduceIte,reduceCtorEq]
 ·refine ae (V4 x) ?_
  simp only [sZ,Nat.reduceEqDiff,↓reduceIte,reduceCtorEq]
  exact Kh rfl (by simp [T.tree,hb])
 ·exact Kh rfl (by simp [T.tree,hb])
theorem Zz (x:T):Pure Tryz.prog 178 [x.av] (.bool (!x.tree)):=by
 refine fun H=>MG.2.calls rfl ?_
 simp only [MG,aJ]
 simp only [sZ,Nat.reduceEqDiff,Nat.reduceAdd,↓reduceIte]
 refine ae (V5 x) ?_
 simp only [sZ,↓reduceIte,reduceCtorEq]
 exact bh rfl rfl
def mw (l:List T):Bool:=l.all T.tree
theorem ZA (l:List T):Pure Tryz.prog 121 [.ap 0 (bW l)] (.int .i64 (if mw l=true then 0 else 4)):=by
 refine fun H=>Mz.2.calls rfl ?_
 simp only [Mz,aJ]
 simp only [sZ,Nat.reduceAdd,↓reduceIte,reduceCtorEq]
 refine ae (Zx 178 _ l fun x _=>Zz x) ?_
 have e:(l.any fun x=>!x.tree)=!mw l:=by
  unfold mw
  induction l with
  | nil=>rfl
  | cons x r ih=>simp only [List.any_cons,List.all_cons,ih,Bool.not_and]
 rw [e]
 cases mw l <;> simp +contextual only [sZ,↓reduceIte,reduceCtorEq]
 ·exact bh rfl rfl
 ·exact bh rfl rfl
mutual
def gP:T→Int→Int→Int×Bool
 | .mk _ _ l,left,deep=>if left - 1 < 0∨200 < deep then (left - 1,false) else mA l (left - 1) (deep + 1)
def mA:List T→Int→Int→Int×Bool
 | [],left,_=>(left,true)
 | x::r,left,deep=>if (gP x left deep).2=true then mA r (gP x left deep).1 deep else ((gP x left deep).1,false)
end
mutual
theorem Aj:∀ (x:T) (left deep:Int),(gP x left deep).1≤left∧(0≤left→-1≤(gP x left deep).1∧((gP x left deep).2=true→0≤(gP x left deep).1))
 | .mk k n l,left,deep=>by
   simp only [gP]
   split
   ·simp;omega
   ·rename_i hn
    have:=FZ l (left - 1) (deep + 1)
    exact ⟨by omega,fun _=>this.2 (by omega)⟩
theorem FZ:∀ (l:List T) (left deep:Int),(mA l left deep).1≤left∧(0≤left→-1≤(mA l left deep).1∧((mA l left deep).2=true→0≤(mA l left deep).1))
 | [],left,deep=>by simp [mA];omega
 | x::r,left,deep=>by
   have h1:=Aj x left deep
   simp only [mA]
   split
   ·rename_i hb
    have h2:=FZ r (gP x left deep).1 deep
    exact ⟨by omega,fun h0=>h2.2 ((h1.2 h0).2 hb)⟩
   ·exact ⟨h1.1,fun h0=>⟨(h1.2 h0).1,fun e=>by cases e⟩⟩
end
theorem HU {l:List T} {i:Nat} {left d:Int} (h:i < l.length):mA (l.drop i) left d=if (gP (l.getD i default) left d).2=true then mA (l.drop (i + 1)) (gP (l.getD i default) left d).1 d else ((gP (l.getD i default) left d).1,false):=by
 rw [List.drop_eq_getElem_cons h]
 simp [mA,h]
theorem V6 (x:T) (left deep:Int) (h0:0≤left) (h1:left≤100000) (h2:0≤deep) (h3:deep≤201) :
 Pure Tryz.prog 214 [x.av,.int .i64 left,.int .i64 deep] (.tuple [.int .i64 (gP x left deep).1,.bool (gP x left deep).2]):=by
 have ih:∀ y∈x.l,∀ (left deep:Int),0≤left→left≤100000→0≤deep→deep≤201→
  Pure Tryz.prog 214 [y.av,.int .i64 left,.int .i64 deep] (.tuple [.int .i64 (gP y left deep).1,.bool (gP y left deep).2]):=fun y hy left deep h0 h1 h2 h3=>V6 y left deep h0 h1 h2 h3
 have e:gP x left deep=if left - 1 < 0∨200 < deep then (left - 1,false) else mA x.l (left - 1) (deep + 1):=by cases x;simp only [gP,T.l]
 have w1:IntKind.i64.wrap (left - 1)=left - 1:=eu _ (by omega)
 have w2:IntKind.i64.wrap (deep + 1)=deep + 1:=eu _ (by omega)
 refine fun H=>Vs.2.calls rfl ?_
 simp only [Vs,aJ]
 simp +contextual only [w1,sZ,Nat.reduceEqDiff,Nat.reduceAdd,↓reduceIte,reduceCtorEq]
 refine ⟨fun h4=>⟨fun h5=>FV (by decide) rfl rfl (by rw [e,if_pos (.inr h5)];rfl) (by rw [e,if_pos (.inr h5)];rfl),fun h5=>?_⟩,fun h4=>FV (by decide) rfl rfl (by rw [e,if_pos (.inl h4)];rfl) (by rw [e,if_pos (.inl h4)];rfl)⟩
 have e2:gP x left deep=mA x.l (left - 1) (deep + 1):=by rw [e,if_neg (by omega)]
 refine aE x.l.length (fun i (s:Int)=>0≤s∧s≤100000∧mA (x.l.drop i) s (deep + 1)=gP x left deep)
  (fun i s=>[(1,.int .i64 s),(2,.int .i64 deep),(3,x.av.ai),(8,.int .i64 i)]) (fun i s=>H) (left - 1) ⟨⟨by omega,by omega,by rw [e2];rfl⟩,aA _ _ _⟩ fun i s hi hI=>?_
 obtain ⟨k0,k1,hI⟩:=hI
 simp +contextual only [w2,sZ,Nat.reduceEqDiff,Nat.reduceAdd,↓reduceIte,reduceCtorEq]
 intro hl
 refine ⟨fun aX=>⟨bS aX,?_⟩,fun jh=>?_⟩
 ·have aX:=bS aX
  rw [HU aX] at hI
  have hle:=Aj (x.l.getD i default) s (deep + 1)
  refine ae (ih _ (gO aX) s (deep + 1) k0 k1 (by omega) (by omega)) ?_
  simp +contextual only [sZ,Nat.reduceEqDiff,Nat.reduceAdd,Nat.reduceLT,↓reduceIte]
  refine qD (fun hb=>?_) (fun hb=>?_) <;> simp +contextual only [sZ,Nat.reduceEqDiff,↓reduceIte,reduceCtorEq]
  ·rw [if_pos hb] at hI
   exact ⟨i + 1,_,⟨aX,(hle.2 k0).2 hb,by omega,hI⟩,by omega,aI (by rw [ax i (by omega)]) rfl⟩
  ·rw [if_neg (by rw [hb];simp)] at hI
   exact FV (by decide) rfl rfl (by rw [← hI];rfl) (by rw [← hI];rfl)
 ·rw [List.drop_of_length_le (dd jh)] at hI
  exact FV (by decide) rfl rfl (by rw [← hI];rfl) (by rw [← hI];rfl)
termination_by SizeOf.sizeOf x
decreasing_by exact T.lt hy
theorem V7 (x:T):Pure Tryz.prog 215 [x.av] (.bool x.shaped):=by
 have ih:∀ y∈x.l,Pure Tryz.prog 215 [y.av] (.bool y.shaped):=fun y hy=>V7 y
 refine fun H=>Vt.2.calls rfl ?_
 simp only [Vt,aJ]
 simp +contextual only [sZ,Nat.reduceEqDiff,Nat.reduceAdd,↓reduceIte,reduceCtorEq,Int.reduceEq]
 have fin:∀ (H':List aa),H'=H→(x.n < 0∨(x.k=1∧0 < x.l.length)∨(x.k≠1∧x.k≠2)∨8 < x.l.length)→bR H.length [RX.t 2] [(2,AV.bool false)] H' fun r H'=>r=AV.bool x.shaped∧H'=H:=by
  rintro H' rfl hh
  refine bh rfl ?_
  rw [x.dX]
  rcases hh with h | h | h | h <;> simp [h]
 refine ⟨fun h=>⟨fun h1=>⟨fun h2 hl=>⟨fun h3=>fin _ rfl (by omega),fun h3=>?_⟩,fun h2=>fin _ rfl (by omega)⟩,fun h1 hl=>⟨fun h2=>⟨fun h3=>fin _ rfl (by omega),fun h3=>?_⟩,fun h2=>fin _ rfl (by omega)⟩⟩,fun h=>fin _ rfl (by omega)⟩
 all_goals
  have go:x.shaped=ew x.l:=T.HT (by omega)
  refine aP x.l.length (fun i=>ew (x.l.drop i)=x.shaped) (fun i=>[(1,x.av.ai),(3,.int .i64 i)]) (fun i=>H) ⟨by rw [go];rfl,aA _ _ _⟩ fun i hi hI=>?_
  simp +contextual only [sZ,Nat.reduceEqDiff,Nat.reduceAdd,↓reduceIte,reduceCtorEq]
  intro _
  refine ⟨fun aX=>⟨bS aX,?_⟩,fun jh=>?_⟩
  ·have aX:=bS aX
   rw [Ai aX] at hI
   refine ae (ih _ (gO aX)) ?_
   simp +contextual only [sZ,Nat.reduceEqDiff,↓reduceIte]
   refine qD (fun hb=>?_) (fun hb=>?_) <;> simp +contextual only [sZ,Nat.reduceEqDiff,↓reduceIte,reduceCtorEq]
   ·exact ⟨i + 1,⟨aX,by rw [hb] at hI;simpa using hI⟩,by omega,aI (by rw [ax i (by omega)]) rfl⟩
   ·exact bh rfl (by rw [← hI,hb];rfl)
  ·rw [List.drop_of_length_le (dd jh)] at hI
   exact bh rfl (by rw [← hI];rfl)
termination_by SizeOf.sizeOf x
decreasing_by exact T.lt hy
theorem ZB (x:T):Pure Tryz.prog 175 [x.av] (.bool ((gP x 2000 1).2 && x.shaped)):=by
 refine fun H=>Vh.2.calls rfl ?_
 simp only [Vh,aJ]
 simp +contextual only [sZ,Nat.reduceEqDiff,Nat.reduceAdd,↓reduceIte]
 refine ae (V6 x 2000 1 (by omega) (by omega) (by omega) (by omega)) ?_
 cases hb:(gP x 2000 1).2 <;> simp +contextual only [sZ,Nat.reduceEqDiff,Nat.reduceAdd,Nat.reduceLT,↓reduceIte,reduceCtorEq]
 ·exact bh rfl rfl
 ·refine ae (V7 x) ?_
  simp +contextual only [sZ,Nat.reduceEqDiff,↓reduceIte,reduceCtorEq]
  exact bh rfl rfl
end Go.aH
end
section
set_option maxRecDepth 100000
namespace Go.aH
open Go Go.Proofs
mutual
def T.sz:T→Int
 | .mk _ _ l=>1 + rp l
def rp:List T→Int
 | []=>0
 | x::r=>x.sz + rp r
end
mutual
def T.dp:T→Int
 | .mk _ _ l=>1 + IB l
def IB:List T→Int
 | []=>0
 | x::r=>max x.dp (IB r)
end
mutual
theorem T.EG:∀ x:T,1≤x.sz
 | .mk k n l=>by simp only [T.sz];have:=kv l;omega
theorem kv:∀ l:List T,0≤rp l
 | []=>by simp [rp]
 | x::r=>by simp only [rp];have:=T.EG x;have:=kv r;omega
end
mutual
theorem T.Ak:∀ x:T,1≤x.dp
 | .mk k n l=>by simp only [T.dp];have:=oE l;omega
theorem oE:∀ l:List T,0≤IB l
 | []=>by simp [IB]
 | x::r=>by simp only [IB];have:=T.Ak x;have:=oE r;omega
end
def eI (s:Int×Int):Prop:=2000 < s.1∨200 < s.2
mutual
theorem sg:∀ (x:T) (d:Int) (s:Int×Int),pc d s→(¬ eI (gf x d s)↔s.1 + x.sz≤2000∧d + x.dp - 1≤200)∧(¬ eI (gf x d s)→(gf x d s).1=s.1 + x.sz∧(gf x d s).2=max s.2 (d + x.dp - 1))
 | .mk k n l,d,s,h=>by
   obtain ⟨h1,h2,h3,h4,h5,h6⟩:=h
   simp only [gf,T.sz,T.dp]
   have hp:=oE l
   have ih:=yq l (d + 1) (s.1 + 1,max s.2 d) (by unfold mv;simp only;omega) (by omega) (by simp only;omega)
   simp only at ih
   refine ⟨ih.1.trans ⟨fun k=>⟨by omega,by omega⟩,fun k=>⟨by omega,by omega,by omega⟩⟩,fun k=>?_⟩
   have k1:=ih.2 k
   have k2:=ih.1.1 k
   exact ⟨by omega,by omega⟩
theorem yq:∀ (l:List T) (d:Int) (s:Int×Int),mv s→0≤d→d≤s.2 + 1→(¬ eI (kQ l d s)↔s.1 + rp l≤2000∧s.2≤200∧d + IB l - 1≤200)∧(¬ eI (kQ l d s)→(kQ l d s).1=s.1 + rp l∧(kQ l d s).2=max s.2 (d + IB l - 1))
 | [],d,s,h,h5,h6=>by
   simp only [kQ,rp,IB,eI]
   exact ⟨⟨fun k=>⟨by omega,by omega,by omega⟩,fun k=>by omega⟩,fun k=>⟨by omega,by omega⟩⟩
 | x::r,d,s,h,h5,h6=>by
   obtain ⟨h1,h2,h3,h4⟩:=h
   simp only [kQ]
   have IV:=x.EG
   have hd0:=x.Ak
   have Y0:=kv r
   have YR:=oE r
   simp only [rp,IB]
   by_cases ho:2000 < s.1∨200 < s.2
   ·rw [if_pos ho]
    refine ⟨⟨fun k=>absurd ho k,fun k=>?_⟩,fun k=>absurd ho k⟩
    omega
   ·rw [if_neg ho]
    have jr:pc d s:=⟨h1,by omega,h3,by omega,h5,by omega⟩
    have hx:=sg x d s jr
    have V8:=vS x d s jr
    have PX:=sd x d s
    have ih:=yq r d (gf x d s) V8.1 h5 (by omega)
    generalize gf x d s=t at *
    by_cases Yi:eI t
    ·have hn:eI (kQ r d t):=by
      refine Classical.byContradiction fun hc=>?_
      have:=ih.1.1 hc
      unfold eI at Yi
      omega
     refine ⟨⟨fun k=>absurd hn k,fun k=>?_⟩,fun k=>absurd hn k⟩
     have:=hx.1.2 (by omega)
     exact absurd Yi this
    ·have k1:=hx.2 Yi
     have k2:=hx.1.1 Yi
     refine ⟨ih.1.trans ⟨fun k=>⟨by omega,by omega,by omega⟩,fun k=>⟨by omega,by omega,by omega⟩⟩,fun k=>?_⟩
     have k3:=ih.2 k
     exact ⟨by omega,by omega⟩
end
theorem si (s:Int×Int):tD s=true↔eI s:=by simp [tD,eI]
mutual
theorem yr:∀ (x:T) (left d:Int),0≤left→d≤201→((gP x left d).2=true↔x.sz≤left∧d + x.dp - 1≤200)∧((gP x left d).2=true→(gP x left d).1=left - x.sz)
 | .mk k n l,left,d,h0,hd=>by
   simp only [gP,T.sz,T.dp]
   have hp:=oE l
   have hs:=kv l
   by_cases ho:left - 1 < 0∨200 < d
   ·rw [if_pos ho]
    refine ⟨⟨fun k=>(by cases k),fun k=>?_⟩,fun k=>(by cases k)⟩
    omega
   ·rw [if_neg ho]
    have ih:=yu l (left - 1) (d + 1) (by omega) (by omega)
    exact ⟨ih.1.trans ⟨fun k=>⟨by omega,by omega⟩,fun k=>⟨by omega,by omega⟩⟩,fun k=>by have:=ih.2 k;omega⟩
theorem yu:∀ (l:List T) (left d:Int),0≤left→d≤201→((mA l left d).2=true↔rp l≤left∧d + IB l - 1≤200)∧((mA l left d).2=true→(mA l left d).1=left - rp l)
 | [],left,d,h0,hd=>by simp only [mA,rp,IB];exact ⟨⟨fun _=>⟨by omega,by omega⟩,fun _=>trivial⟩,fun _=>by omega⟩
 | x::r,left,d,h0,hd=>by
   simp only [mA,rp,IB]
   have IV:=x.EG
   have hd0:=x.Ak
   have Y0:=kv r
   have YR:=oE r
   have hx:=yr x left d h0 hd
   have hle:=Aj x left d
   cases hb:(gP x left d).2 with
   | false=>
     rw [if_neg (by simp)]
     refine ⟨⟨fun k=>(by cases k),fun k=>?_⟩,fun k=>(by cases k)⟩
     have:=hx.1.2 (by omega)
     rw [hb] at this;cases this
   | true=>
     rw [if_pos rfl]
     have k1:=hx.2 hb
     have k2:=hx.1.1 hb
     have ih:=yu r (gP x left d).1 d ((hle.2 h0).2 hb) hd
     exact ⟨ih.1.trans ⟨fun k=>⟨by omega,by omega⟩,fun k=>⟨by omega,by omega⟩⟩,fun k=>by have:=ih.2 k;omega⟩
end
theorem T.ff (x:T):x.tree=true↔x.sz≤2000∧x.dp≤200∧x.shaped=true:=by
 have h:=(sg x 1 (0,0) (by unfold pc;simp)).1
 unfold T.tree
 rw [Bool.and_eq_true,Bool.not_eq_true',← Bool.not_eq_true,si]
 constructor
 ·rintro ⟨h1,h2⟩
  have:=h.1 h1
  simp only at this
  exact ⟨by omega,by omega,h2⟩
 ·rintro ⟨h1,h2,h3⟩
  exact ⟨h.2 (by simp only;omega),h3⟩
theorem SM (x:T):((gP x 2000 1).2 && x.shaped)=x.tree:=by
 have h:=(yr x 2000 1 (by omega) (by omega)).1
 rw [Bool.eq_iff_iff,Bool.and_eq_true,h,T.ff]
 constructor
 ·rintro ⟨⟨h1,h2⟩,h3⟩;exact ⟨h1,by omega,h3⟩
 ·rintro ⟨h1,h2,h3⟩;exact ⟨⟨h1,by omega⟩,h3⟩
theorem V9 (x:T):Pure Tryz.prog 175 [x.av] (.bool x.tree):=by rw [← SM];exact ZB x
theorem Km {p:T→Bool} {l:List T} {i:Nat} (h:i < l.length):(l.drop i).all p=(p (l.getD i default) && (l.drop (i + 1)).all p):=by
 rw [List.drop_eq_getElem_cons h,List.all_cons]
 simp [h]
theorem ad8 (l:List T):Pure Tryz.prog 243 [.ap 0 (bW l)] (.bool (mw l)):=by
 refine fun H=>VB.2.calls rfl ?_
 simp only [VB,aJ]
 simp +contextual only [sZ,Nat.reduceAdd,↓reduceIte,reduceCtorEq]
 refine aP l.length (fun i=>(l.drop i).all T.tree=mw l) (fun i=>[(0,.ap 0 (bW l)),(3,.int .i64 i)]) (fun i=>H) ⟨rfl,aA _ _ _⟩ fun i hi hI=>?_
 simp +contextual only [sZ,Nat.reduceEqDiff,Nat.reduceAdd,↓reduceIte,reduceCtorEq]
 intro _
 refine ⟨fun aX=>⟨bS aX,?_⟩,fun jh=>?_⟩
 ·have aX:=bS aX
  rw [Km aX] at hI
  refine ae (V9 _) ?_
  simp +contextual only [sZ,Nat.reduceEqDiff,↓reduceIte,reduceCtorEq]
  refine qD (fun hb=>?_) (fun hb=>?_) <;> simp +contextual only [sZ,↓reduceIte,reduceCtorEq]
  ·exact ⟨i + 1,⟨aX,by rw [hb] at hI;simpa using hI⟩,by omega,aI (by rw [ax i (by omega)]) rfl⟩
  ·exact bh rfl (by rw [← hI,hb];rfl)
 ·rw [List.drop_of_length_le (dd jh)] at hI
  exact bh rfl (by rw [← hI];rfl)
def ents (vs:List Int):List (AV×AV):=vs.map fun v=>(.int .i64 v,.bool true)
theorem pF (n:Int):∀ (vs:List Int) (i:Nat),(n∈vs→∃ j,di 0 (.int .i64 n) (ents vs) i=some (some (j,.bool true)))∧(n∉vs→di 0 (.int .i64 n) (ents vs) i=some none)
 | [],i=>⟨fun h=>(by cases h),fun _=>rfl⟩
 | v::r,i=>by
   have ih:=pF n r (i + 1)
   simp only [ents,List.map_cons,di,cC,if_true]
   by_cases hv:n=v
   ·subst hv
    simp
   ·simp only [List.mem_cons,hv,false_or]
    exact ih
theorem Al (n:Int) (vs:List Int) (φ:AV→Prop):fP (some (.map (ents vs))) 0 (.bool false) (.int .i64 n) false φ=φ (.bool (decide (n∈vs))):=by
 have h:=pF n vs 0
 unfold fP
 by_cases hn:n∈vs
 ·obtain ⟨j,hj⟩:=h.1 hn
  simp [hj,hn,mi]
 ·simp [h.2 hn,hn,cC,aM,bi.aM,mi]
theorem F0 {n:Int} {vs:List Int} (hn:n∉vs) (id:Nat) (H:List aa) (K:List aa→Prop):eT (some (.map (ents vs))) 0 id (.int .i64 n) (.bool true) H K=K (H.set id (.map (ents (vs++[n])))):=by
 have h:=(pF n vs 0).2 hn
 unfold eT
 simp only [h]
 simp [cC,gb,qC,uk,ents,aM,bi.aM,mi]
def jS:List Int→AV
 | []=>.ah
 | v::r=>.ap 1 (ints (v::r))
theorem jt (vs:List Int) (n:Int):AV.ap 1 (ints (vs++[n]))=jS (vs++[n]):=by
 cases vs <;> rfl
theorem Kn (vs:List Int):(jS vs).one=true:=by cases vs <;> rfl
theorem Ko (k:Nat) (vs:List Int):(jS vs).aZ k=true:=by
 cases vs with
 | nil=>rfl
 | cons v r=>simp only [jS,b8,aY]
theorem sj (vs:List Int) (n:Int) (o:Nat) (ψ:List AV→Prop):bp 1 8 (jS vs) (.ap o [.int .i64 n]) ψ=((vs.length + 1) * 8≤140737488355328∧ψ (ints (vs++[n]))):=by
 cases vs with
 | nil=>simp [jS,mj,ok_int,ints]
 | cons v r=>
   show bp 1 8 (.ap 1 (ints (v::r))) _ ψ=_
   rw [kM,ok_int,aw,sc]
   simp
def cM (vs:List Int):List aa:=[.cells [jS vs],.map (ents vs)]
def Am (vs:List Int) (x:T):List Int:=if x.k=1∧x.n∉vs then vs++[x.n] else vs
theorem ZC (H:List aa) (x:T) (vs:List Int) (hl:vs.length≤1000000) :
 aq Tryz.prog 246 [x.av,.ai (.map (H.length + 1)),.ptr H.length 0] (H++cM vs) fun r H'=>r=.tuple []∧H'=H++cM (Am vs x):=by
 refine M6.2.calls rfl ?_
 simp only [M6,aJ]
 simp +contextual only [cM,Al,sZ,Nat.reduceEqDiff,Nat.reduceAdd,↓reduceIte,reduceCtorEq]
 refine ⟨fun hk=>⟨fun hn=>?_,fun hn=>?_⟩,fun hk=>?_⟩
 ·exact iL (by simp [cM]) (by simp [Am,hk,hn,cM])
 ·rw [F0 hn]
  simp +contextual only [sj,jt,Kn,Ko,sZ,Nat.reduceEqDiff,Nat.reduceAdd,Nat.reduceLT,↓reduceIte,reduceCtorEq]
  refine ⟨by omega,?_⟩
  exact iL (by simp [cM]) (by simp [Am,hk,hn,cM])
 ·exact iL (by simp [cM]) (by simp [Am,hk,cM])
mutual
def mS:T→List Int→List Int
 | .mk k n l,vs=>dN l (if k=1∧n∉vs then vs++[n] else vs)
def dN:List T→List Int→List Int
 | [],vs=>vs
 | x::r,vs=>dN r (mS x vs)
end
mutual
theorem sk:∀ (x:T) (vs:List Int),((mS x vs).length:Int)≤vs.length + x.sz
 | .mk k n l,vs=>by
   simp only [mS,T.sz]
   have:=vV l (if k=1∧n∉vs then vs++[n] else vs)
   split at this
   ·rename_i h;rw [if_pos h];simp only [List.length_append,List.length_cons,List.length_nil] at this;omega
   ·rename_i h;rw [if_neg h];omega
theorem vV:∀ (l:List T) (vs:List Int),((dN l vs).length:Int)≤vs.length + rp l
 | [],vs=>by simp [dN,rp]
 | x::r,vs=>by
   simp only [dN,rp]
   have h1:=sk x vs
   have h2:=vV r (mS x vs)
   omega
end
theorem tE {l:List T} {i:Nat} {vs:List Int} (h:i < l.length):dN (l.drop i) vs=dN (l.drop (i + 1)) (mS (l.getD i default) vs):=by
 rw [List.drop_eq_getElem_cons h]
 simp [dN,h]
theorem Cu {l:List T} {i:Nat} (h:i < l.length):rp (l.drop i)=(l.getD i default).sz + rp (l.drop (i + 1)):=by
 rw [List.drop_eq_getElem_cons h]
 simp [rp,h]
theorem Wa (H:List aa) (x:T) (vs:List Int) (hl:vs.length + x.sz≤1000000) :
 aq Tryz.prog 245 [x.av,.fn (.func 246) [] [.ai (.map (H.length + 1)),.ptr H.length 0]] (H++cM vs) fun r H'=>r=.tuple []∧H'=H++cM (mS x vs):=by
 have ih:∀ y∈x.l,∀ (vs:List Int),vs.length + y.sz≤1000000→aq Tryz.prog 245 [y.av,.fn (.func 246) [] [.ai (.map (H.length + 1)),.ptr H.length 0]] (H++cM vs) fun r H'=>r=.tuple []∧H'=H++cM (mS y vs):=
  fun y hy vs h=>Wa H y vs h
 have e:mS x vs=dN x.l (Am vs x):=by cases x;simp only [mS,Am,T.k,T.n,T.l];rfl
 have es:x.sz=1 + rp x.l:=by cases x;simp only [T.sz,T.l]
 have Ya:=kv x.l
 have ha:((Am vs x).length:Int)≤vs.length + 1:=by
  unfold Am;split
  ·simp only [List.length_append,List.length_cons,List.length_nil];omega
  ·omega
 refine M5.2.calls rfl ?_
 simp only [M5,aJ]
 simp +contextual only [cM,sZ,Nat.reduceEqDiff,Nat.reduceAdd,↓reduceIte,reduceCtorEq]
 refine af (ZC H x vs (by omega)) ?_
 rintro r H' ⟨rfl,rfl⟩
 simp +contextual only [cM,sZ,Nat.reduceEqDiff,↓reduceIte]
 intro GB
 refine aE x.l.length (fun i (s:List Int)=>(s.length:Int) + rp (x.l.drop i)≤1000000∧dN (x.l.drop i) s=mS x vs)
  (fun i s=>[(1,.fn (.func 246) [] [.ai (.map (H.length + 1)),.ptr H.length 0]),(10,.ap 0 (bW x.l)),(11,.int .i64 x.l.length),(12,.int .i64 i)]) (fun i s=>H++cM s) (Am vs x) ⟨⟨by rw [List.drop_zero];omega,by rw [e];rfl⟩,aA _ _ _⟩ fun i s hi hI=>?_
 obtain ⟨k1,hI⟩:=hI
 simp +contextual only [cM,sZ,Nat.reduceEqDiff,Nat.reduceAdd,↓reduceIte,reduceCtorEq]
 refine ⟨fun aX=>⟨bS aX,?_⟩,fun jh=>?_⟩
 ·have aX:=bS aX
  rw [tE aX] at hI
  rw [Cu aX] at k1
  have hp:=kv (x.l.drop (i + 1))
  refine af (ih _ (gO aX) s (by omega)) ?_
  rintro r H' ⟨rfl,rfl⟩
  simp +contextual only [cM,sZ,Nat.reduceEqDiff,↓reduceIte]
  have:=sk (x.l.getD i default) s
  exact ⟨i + 1,_,⟨aX,by omega,hI⟩,by omega,aI (by rw [ax i (by omega)]) rfl⟩
 ·rw [List.drop_of_length_le (dd jh)] at hI
  rw [← hI]
  exact iL (by simp [cM]) rfl
termination_by SizeOf.sizeOf x
decreasing_by exact T.lt hy
theorem EH (vs:List Int):(jS vs).ab.le (.ap 0 (ints vs)):=by
 cases vs with
 | nil=>exact .inr (.inr (.inr (.inl ⟨rfl,0,rfl⟩)))
 | cons v r=>exact le_refl _
theorem ZD (l:List T) (hl:rp l≤1000000):Pure Tryz.prog 237 [.ap 0 (bW l)] (.ap 0 (ints (dN l []))):=by
 refine fun H=>M4.2.calls rfl ?_
 simp only [M4,aJ]
 simp +contextual only [sZ,Nat.reduceEqDiff,Nat.reduceAdd,↓reduceIte,reduceCtorEq]
 intro GB
 refine aE l.length (fun i (s:List Int)=>(s.length:Int) + rp (l.drop i)≤1000000∧dN (l.drop i) s=dN l [])
  (fun i s=>[(3,.ptr H.length 0),(4,.ai (.map (H.length + 1))),(8,.ap 0 (bW l)),(9,.int .i64 l.length),(10,.int .i64 i)]) (fun i s=>H++cM s) [] ⟨⟨by rw [List.drop_zero,List.length_nil];omega,rfl⟩,aA _ _ _⟩ fun i s hi hI=>?_
 obtain ⟨k1,hI⟩:=hI
 simp +contextual only [cM,sZ,Nat.reduceEqDiff,Nat.reduceAdd,Nat.reduceLT,↓reduceIte,reduceCtorEq]
 refine ⟨fun aX=>⟨bS aX,?_⟩,fun jh=>?_⟩
 ·have aX:=bS aX
  rw [tE aX] at hI
  rw [Cu aX] at k1
  have hp:=kv (l.drop (i + 1))
  refine af (Wa H (l.getD i default) s (by omega)) ?_
  rintro r H' ⟨rfl,rfl⟩
  simp +contextual only [cM,sZ,Nat.reduceEqDiff,↓reduceIte]
  have:=sk (l.getD i default) s
  exact ⟨i + 1,_,⟨aX,by omega,hI⟩,by omega,aI (by rw [ax i (by omega)]) rfl⟩
 ·rw [List.drop_of_length_le (dd jh)] at hI
  have:s=dN l []:=hI
  subst this
  refine V0 ?_ (by simp only [b8,aY])
  have e:(jS (dN l [])).ab.ab=(jS (dN l [])).ab:=by cases (dN l []) <;> rfl
  rw [e]
  exact EH _
mutual
def ZE:T→List Int→List Int
 | .mk k n l,vs=>if k=1 then (if n∈vs then vs else vs++[n]) else Wb l vs
def Wb:List T→List Int→List Int
 | [],vs=>vs
 | x::r,vs=>Wb r (ZE x vs)
end
mutual
theorem Ol:∀ (x:T) (vs:List Int),x.shaped=true→mS x vs=ZE x vs
 | .mk k n l,vs,h=>by
   have h':=h
   rw [T.dX] at h
   simp only [T.k,T.n,T.l,Bool.and_eq_true,Bool.not_eq_true',Bool.or_eq_false_iff,Bool.and_eq_false_iff] at h
   obtain ⟨⟨⟨⟨h1,h2⟩,h3⟩,h4⟩,h5⟩:=h
   simp only [mS,ZE]
   by_cases hk:k=1
   ·have hl:l=[]:=by
     rcases h2 with h2 | h2
     ·simp [hk] at h2
     ·cases l with
      | nil=>rfl
      | cons x r=>simp at h2
    subst hl
    simp only [dN,hk,true_and,if_true]
    by_cases hn:n∈vs <;> simp [hn]
   ·simp only [hk,false_and,if_false]
    exact vW l vs h5
theorem vW:∀ (l:List T) (vs:List Int),ew l=true→dN l vs=Wb l vs
 | [],vs,_=>rfl
 | x::r,vs,h=>by
   simp only [ew,Bool.and_eq_true] at h
   simp only [dN,Wb,Ol x vs h.1]
   exact vW r _ h.2
end
def jT (l:List T):List Int:=if mw l=true then Wb l [] else []
end Go.aH
end
section
set_option maxRecDepth 100000
namespace Go.aH
open Go Go.Proofs
mutual
def Wc (f:Int→T):T→T
 | .mk k n l=>if k=1 then f n else .mk k n (PY f l)
def PY (f:Int→T):List T→List T
 | []=>[]
 | x::r=>Wc f x::PY f r
end
def sl:List T→AV
 | []=>.ah
 | v::r=>.ap 3 (bW (v::r))
theorem Kp (l:List T) (x:T):bW l++[x.av]=bW (l++[x]):=by simp [mr]
theorem HV (vs:List T) (n:T):AV.ap 3 (bW (vs++[n]))=sl (vs++[n]):=by
 cases vs <;> rfl
theorem Om (b:Nat) (vs:List T) (n:T) (o:Nat) (ψ:List AV→Prop):bp 3 b (sl vs) (.ap o [n.av]) ψ=((vs.length + 1) * b≤140737488355328∧ψ (bW (vs++[n]))):=by
 cases vs with
 | nil=>simp [sl,mj,SF,bW]
 | cons v r=>
   show bp 3 b (.ap 3 (bW (v::r))) _ ψ=_
   rw [kM,SF,qI,Kp]
   simp
theorem kw {x:T} (h:x.shaped=true):x.l.length≤8∧∀ y∈x.l,y.shaped=true:=by
 rw [x.dX,Bool.and_eq_true,Bool.not_eq_true',Bool.or_eq_false_iff] at h
 have h1:=h.1.2
 have h2:=h.2
 rw [ku] at h2
 exact ⟨by simpa using h1,fun y hy=>List.all_eq_true.1 h2 y hy⟩
end Go.aH
end
section
set_option maxRecDepth 100000
namespace Go.aH
open Go Go.Proofs
end Go.aH
end
section
set_option maxRecDepth 100000
namespace Go.aH
open Go Go.RowKit
mutual
def T.wf:T→Prop
 | .mk k n l=>(-9223372036854775808≤k∧k≤9223372036854775807)∧(-9223372036854775808≤n∧n≤9223372036854775807)∧l.length≤9223372036854775807∧T2 l
def T2:List T→Prop
 | []=>True
 | x::r=>x.wf∧T2 r
end
theorem F3:∀ l:List T,T2 l↔∀ x∈l,x.wf
 | []=>by simp [T2]
 | x::r=>by simp [T2,F3 r]
section
variable {H:Type} {enc:TypeId×Value→H} {P:Program} {w:World} {base:Nat} {sp:Nat→Bool} {held:Bool}
structure mB (P:Program) (ti tt tl:TypeId):Prop where
 int:P.underlying ti=some (.int .i64)
 tree:∃ f0 f1 f2:Field,P.underlying tt=some (.struct #[f0,f1,f2])∧f0.type=ti∧f0.offset=0∧f1.type=ti∧f1.offset=1∧f2.type=tl∧f2.offset=2
 list:P.underlying tl=some (.slice tt)
 c1:P.cellsOf ti=1
 c3:P.cellsOf tt=3
 cl:P.cellsOf tl=1
theorem EI {n:Int} (h:(Lit.int .i64 n).wf=true):-9223372036854775808≤n∧n≤9223372036854775807:=by
 simp only [Lit.wf,Bool.and_eq_true,decide_eq_true_eq] at h
 revert h
 simp [IntKind.min,IntKind.max,IntKind.signed,IntKind.bits]
theorem EJ {n:Nat} {p:Nat→T→Prop} (h:∀ i,i < n→∃ t,p i t):∃ f:Nat→T,∀ i,i < n→p i (f i):=by
 refine ⟨fun i=>if hi:i < n then Classical.choose (h i hi) else default,fun i hi=>?_⟩
 simp only [dif_pos hi]
 exact Classical.choose_spec (h i hi)
def isT (w:World) (cs:List Value) (t:T):Prop:=aG (dW w) [] cs t.av.cells∧t.wf
def SN (w:World) (cs:List Value) (l:List T):Prop:=(∃ v,cs=[v]∧(∃ y,aS (dW w) [] v y∧(y=.ap 0 (bW l)∨(y=.ah∧l=[]))))∧l.length≤9223372036854775807∧T2 l
theorem SN.X3 {cs:List Value} {l:List T} (h:SN w cs l):∃ v,cs=[v]∧aS (dW w) [] v (.ap 0 (bW l)):=by
 obtain ⟨⟨v,rfl,y,hr,hy⟩,_⟩:=h
 refine ⟨v,rfl,?_⟩
 rcases hy with rfl | ⟨rfl,rfl⟩
 ·exact hr
 ·exact hr.drop
def PZ (d:DataW H) (l:List T):Prop:=match d with | .slice es _=>l.length=es.length | _=>l=[]
theorem HW {ti tt tl:TypeId} (hT:mB P ti tt tl):∀ (fuel:Nat),
 (∀ (cs:List Value) (x:DataW H×List MemPlace),DataW.trod enc P w base sp held fuel tt cs=some x→∃ t:T,isT w cs t)∧
 (∀ (cs:List Value) (x:DataW H×List MemPlace),DataW.trod enc P w base sp held fuel tl cs=some x→∃ l:List T,SN w cs l∧PZ x.1 l):=by
 intro fuel
 induction fuel with
 | zero=>exact ⟨fun cs x h=>by simp [DataW.trod] at h,fun cs x h=>by simp [DataW.trod] at h⟩
 | succ n ih=>
   refine ⟨fun cs x h=>?_,fun cs x h=>?_⟩
   ·obtain ⟨f0,f1,f2,hu,h0,o0,h1,o1,h2,o2⟩:=hT.tree
    obtain ⟨xs,m,hm,rfl,hlen,ej,hf⟩:=DataW.trod_struct hu h
    cases hm
    have g0:=hf 0 f0 rfl
    have g1:=hf 1 f1 rfl
    have g2:=hf 2 f2 rfl
    rw [h0,o0,hT.c1] at g0
    rw [h1,o1,hT.c1] at g1
    rw [h2,o2,hT.cl] at g2
    simp at ej
    rw [hT.c3] at hlen
    match cs,hlen with
    | [a,b,c],_=>
      have e0:xs[0]?=some xs[0]:=by simp [ej]
      have e1:xs[1]?=some xs[1]:=by simp [ej]
      have e2:xs[2]?=some xs[2]:=by simp [ej]
      rw [e0] at g0;rw [e1] at g1;rw [e2] at g2
      obtain ⟨k,ek,_,wk⟩:=DataW.trod_int hT.int g0
      obtain ⟨q,eq,_,wq⟩:=DataW.trod_int hT.int g1
      obtain ⟨l,hl,_⟩:=ih.2 _ _ g2
      obtain ⟨v,ev,hv⟩:=hl.X3
      simp at ek eq ev
      subst ek eq ev
      exact ⟨.mk k q l,.cons _ _ _ _ (.int _ _) (.cons _ _ _ _ (.int _ _) (.cons _ _ _ _ hv .nil)),EI wk,EI wq,hl.2.1,hl.2.2⟩
   ·rcases DataW.trod_slice hT.list h with ⟨rfl,rfl⟩ | ⟨a,len,cap,elems,rest,m,hm,rfl,rfl,hb,hle,b9,Pb,jA,_,_⟩
    ·exact ⟨[],⟨⟨_,rfl,.ah,.ah,.inr ⟨rfl,rfl⟩⟩,by simp,trivial⟩,rfl⟩
    cases hm
    rw [hT.c3] at jA
    have hex:∀ i,i < len→∃ t:T,∃ cs',w.cells? base (a.add (i * 3)) 3=some cs'∧isT w cs' t:=by
     intro i hi
     have:=jA i hi
     rw [List.getElem?_eq_getElem (by omega)] at this
     obtain ⟨cs',k1,k2⟩:=Option.bind_eq_some_iff.1 this
     obtain ⟨t,ht⟩:=ih.1 _ _ k2
     exact ⟨t,cs',k1,ht⟩
    obtain ⟨f,hf⟩:=EJ hex
    have TN:maxLen=9223372036854775807:=rfl
    refine ⟨(List.range len).map f,⟨⟨_,rfl,_,?_,.inl rfl⟩,by simp;omega,?_⟩,by simp [PZ,Pb]⟩
    ·rw [mr,List.map_map]
     refine yl (e:=3) (base:=base) (by decide) hle b9 (fun i=>if hi:i < len then Classical.choose (hf i hi) else []) _ fun i hi=>?_
     simp only [dif_pos hi]
     obtain ⟨k1,k2⟩:=Classical.choose_spec (hf i hi)
     exact ⟨k1,k2.1⟩
    ·rw [F3]
     intro x hx
     obtain ⟨i,hi,rfl⟩:=List.mem_map.1 hx
     obtain ⟨cs',_,k2⟩:=hf i (List.mem_range.1 hi)
     exact k2.2
end
end Go.aH
end
section
end
section
set_option maxRecDepth 100000
namespace Go.aH
open Go Go.Proofs
end Go.aH
end
section
set_option maxRecDepth 100000
namespace Go.aH
open Go Go.Proofs
def yv (t:T):Int×Int:=if t.sz≤2000∧t.dp≤200 then (t.sz,t.dp) else (2001,201)
theorem ZF (t:T):(¬ eI (gf t 1 (0,0))↔t.sz≤2000∧t.dp≤200)∧(¬ eI (gf t 1 (0,0))→gf t 1 (0,0)=(t.sz,t.dp)):=by
 have h:=sg t 1 (0,0) (by unfold pc;simp)
 have hd:=t.Ak
 refine ⟨h.1.trans ⟨fun k=>⟨by omega,by omega⟩,fun k=>⟨by simp only;omega,by omega⟩⟩,fun k=>?_⟩
 have:=h.2 k
 exact Prod.ext (by simpa using this.1) (by have:=this.2;simp only at this ⊢;omega)
theorem ad9 (t:T):Pure Tryz.prog 122 [t.av] (.tuple [.int .i64 (yv t).1,.int .i64 (yv t).2]):=by
 refine fun H=>UQ.2.calls rfl ?_
 simp only [UQ,aJ]
 simp +contextual only [sZ,Nat.reduceEqDiff,Nat.reduceAdd,↓reduceIte,reduceCtorEq]
 refine af (SL H t 1 (0,0) (by unfold pc;simp)) ?_
 rintro r H' ⟨rfl,rfl⟩
 simp +contextual only [sZ,Nat.reduceEqDiff,Nat.reduceAdd,↓reduceIte]
 refine af (V3 H (gf t 1 (0,0))) ?_
 rintro r H' ⟨rfl,rfl⟩
 have h0:=ZF t
 cases hb:tD (gf t 1 (0,0)) with
 | true=>
   have hn:¬ (t.sz≤2000∧t.dp≤200):=fun h=>h0.1.2 h ((si _).1 hb)
   simp +contextual only [eK,sZ,Nat.reduceEqDiff,↓reduceIte,reduceCtorEq]
   exact vP (by decide) rfl rfl (by rw [yv,if_neg hn];rfl) (by rw [yv,if_neg hn];rfl)
 | false=>
   have hn:¬ eI (gf t 1 (0,0)):=fun h=>by rw [(si _).2 h] at hb;cases hb
   have h1:=h0.1.1 hn
   rw [h0.2 hn]
   simp +contextual only [eK,sZ,Nat.reduceEqDiff,Nat.reduceAdd,Nat.reduceLT,↓reduceIte,reduceCtorEq]
   exact vP (by decide) rfl rfl (by rw [yv,if_pos h1];rfl) (by rw [yv,if_pos h1];rfl)
theorem Wd (l:List T):jT l=if mw l=true then dN l [] else []:=by
 unfold jT
 split
 ·rename_i h
  rw [vW l []]
  rw [ku,List.all_eq_true]
  intro x hx
  exact ((T.ff x).1 (List.all_eq_true.1 h x hx)).2.2
 ·rfl
theorem We (l:List T) (hl:rp l≤1000000):Pure Tryz.prog 219 [.ap 0 (bW l)] (.ap 0 (ints (jT l))):=by
 refine fun H=>MX.2.calls rfl ?_
 simp only [MX,aJ]
 simp +contextual only [sZ,Nat.reduceAdd,↓reduceIte,reduceCtorEq]
 refine ae (ZA l) ?_
 cases hb:mw l with
 | false=>
   simp +contextual only [Bool.false_eq_true,sZ,↓reduceIte,reduceCtorEq,Int.reduceEq]
   exact VZ (by rw [jT,hb];exact .inr (.inr (.inr (.inl ⟨rfl,0,rfl⟩)))) (by simp only [b8,aY])
 | true=>
   simp +contextual only [sZ,Nat.reduceAdd,↓reduceIte,reduceCtorEq]
   refine ae (ZD l hl) ?_
   simp +contextual only [sZ,↓reduceIte,reduceCtorEq]
   exact bh (by simp only [b8,aY]) (by rw [Wd,if_pos hb])
theorem EK (l:List T):sR 3 (bW l)=True:=by
 simp only [sR,eq_iff_iff,iff_true]
 intro y hy
 rw [mr] at hy
 obtain ⟨z,_,rfl⟩:=List.mem_map.1 hy
 exact ⟨z.gN,z.pE⟩
end Go.aH
end
section
set_option maxRecDepth 100000
namespace Go.aH
open Go Go.Proofs
def sub (l:List T) (t:T):T:=Wc (fun n=>l.getD n.toNat default) t
end Go.aH
end
section
namespace Go.fm
open Go.aH
mutual
def code:T→List Int
 | .mk k n l=>k::n::(l.length:Int)::yw l
def yw:List T→List Int
 | []=>[]
 | x::r=>code x++yw r
end
mutual
theorem Cv:∀ (a b:T) (r s:List Int),code a++r=code b++s→a=b∧r=s
 | .mk k n l,.mk k' n' l',r,s,h=>by
   simp only [code,List.cons_append,List.cons.injEq] at h
   obtain ⟨h1,h2,h3,h4⟩:=h
   obtain ⟨h5,h6⟩:=yx l l' r s (by omega) h4
   exact ⟨by rw [h1,h2,h5],h6⟩
theorem yx:∀ (l m:List T) (r s:List Int),l.length=m.length→yw l++r=yw m++s→l=m∧r=s
 | [],[],r,s,_,h=>⟨rfl,by simpa [yw] using h⟩
 | x::l,y::m,r,s,hl,h=>by
   simp only [yw,List.append_assoc] at h
   obtain ⟨h1,h2⟩:=Cv x y _ _ h
   obtain ⟨h3,h4⟩:=yx l m r s (by simpa using hl) h2
   exact ⟨by rw [h1,h3],h4⟩
 | [],_::_,_,_,h,_=>by simp at h
 | _::_,[],_,_,h,_=>by simp at h
end
theorem F4 {a b:T} (h:code a=code b):a=b:=(Cv a b [] [] (by rw [h])).1
instance:DecidableEq T:=fun a b=>decidable_of_iff (code a=code b) ⟨F4,fun h=>by rw [h]⟩
def A5 (a b:T):Prop:=code a≤code b
instance (a b:T):Decidable (A5 a b):=inferInstanceAs (Decidable (code a≤code b))
theorem Cw {a b:T} (h1:A5 a b) (h2:A5 b a):a=b:=F4 (List.le_antisymm h1 h2)
theorem yy (a b:T):A5 a b∨A5 b a:=List.le_total _ _
theorem yz {a b c:T} (h1:A5 a b) (h2:A5 b c):A5 a c:=List.le_trans h1 h2
def ins (x:T):List T→List T
 | []=>[x]
 | y::r=>if A5 x y then x::y::r else y::ins x r
def xn:List T→List T
 | []=>[]
 | x::r=>ins x (xn r)
theorem Cy (x:T):∀ l,(ins x l).Perm (x::l)
 | []=>List.Perm.refl _
 | y::r=>by
   simp only [ins]
   split
   ·exact List.Perm.refl _
   ·exact ((Cy x r).cons y).trans (List.Perm.swap _ _ _)
theorem lf:∀ l,(xn l).Perm l
 | []=>List.Perm.refl _
 | x::r=>(Cy x _).trans ((lf r).cons x)
theorem Cz (x y:T):∀ l,ins x (ins y l)=ins y (ins x l)
 | []=>by
   simp only [ins]
   by_cases h1:A5 x y <;> by_cases h2:A5 y x <;> simp only [h1,h2,if_true,if_false]
   ·rw [Cw h1 h2]
   ·rcases yy x y with h | h
    ·exact absurd h h1
    ·exact absurd h h2
 | z::r=>by
   simp only [ins]
   by_cases hx:A5 x z <;> by_cases hy:A5 y z <;> simp only [hx,hy,if_true,if_false,ins]
   ·by_cases h1:A5 x y <;> by_cases h2:A5 y x <;> simp only [h1,h2,if_true,if_false]
    ·rw [Cw h1 h2]
    ·rcases yy x y with h | h
     ·exact absurd h h1
     ·exact absurd h h2
   ·have h2:¬ A5 y x:=fun h=>hy (yz h hx)
    simp only [h2,if_false]
   ·have h2:¬ A5 x y:=fun h=>hx (yz h hy)
    simp only [h2,if_false]
   ·rw [Cz x y r]
theorem SO {l m:List T} (h:l.Perm m):xn l=xn m:=by
 induction h with
 | nil=>rfl
 | cons x _ ih=>simp only [xn,ih]
 | swap x y l=>simp only [xn];exact Cz _ _ _
 | trans _ _ h1 h2=>rw [h1,h2]
theorem F5 {l m:List T}:xn l=xn m↔l.Perm m:=⟨fun h=>(lf l).symm.trans (h ▸ lf m),SO⟩
theorem On {x:T} {l:List T}:x∈xn l↔x∈l:=(lf l).mem_iff
mutual
def wt:T→Nat
 | .mk _ _ l=>1 + gW l
def gW:List T→Nat
 | []=>0
 | x::r=>wt x + gW r
end
theorem F6 {x:T}:∀ {l:List T},x∈l→wt x≤gW l
 | y::r,h=>by
   simp only [gW]
   rcases List.mem_cons.1 h with rfl | h
   ·omega
   ·have:=F6 h;omega
theorem gg (a:T):0 < wt a:=by cases a;simp only [wt];omega
theorem cK {a x:T} (h:x∈a.l):wt x < wt a:=by
 cases a with
 | mk k n l=>have:=F6 (l:=l) h;simp only [wt];omega
structure Od where
 pl:Int→Int
 sp:Int→Int
mutual
def norm (O:Od):T→T
 | .mk k n l=>if k=2 then .mk 2 (O.pl n) (if O.sp (O.pl n)=3 then xn (CA O l) else CA O l) else .mk 1 n []
def CA (O:Od):List T→List T
 | []=>[]
 | x::r=>norm O x::CA O r
end
theorem yA (O:Od):∀ l,CA O l=l.map (norm O)
 | []=>rfl
 | x::r=>by simp [CA,yA O r]
def Lx (G:T→T→Prop):List T→List T→Prop
 | [],_=>False
 | _::_,[]=>True
 | x::l,y::m=>x=y∧Lx G l m∨G x y
def side (s:Int) (l:List T):List T:=if s=2 then l.reverse else l
def Mu (G:T→T→Prop) (l m:List T):Prop:=
 (∃ x∈l,m.count x < l.count x)∧∀ y∈m,l.count y < m.count y→∃ x∈l,m.count x < l.count x∧G x y
def Fm (sp:Int→Int) (G:T→T→Prop) (a b:T):Prop:=
 a.k=2∧((∃ x∈a.l,x=b∨G x b)∨b.k=2∧(
  (b.n < a.n∧∀ y∈b.l,G a y)∨
  (b.n=a.n∧sp a.n≠3∧(∀ y∈b.l,G a y)∧Lx G (side (sp a.n) a.l) (side (sp a.n) b.l))∨
  (b.n=a.n∧sp a.n=3∧Mu G a.l b.l)))
theorem lg {s:Int} {l:List T} {x:T}:x∈side s l↔x∈l:=by unfold side;split <;> simp
theorem CB {G G':T→T→Prop}:∀ {l m:List T},(∀ x∈l,∀ y∈m,(G x y↔G' x y))→(Lx G l m↔Lx G' l m)
 | [],_,_=>Iff.rfl
 | _::_,[],_=>Iff.rfl
 | x::l,y::m,h=>by
   simp only [Lx]
   rw [CB (fun x hx y hy=>h x (List.mem_cons_of_mem _ hx) y (List.mem_cons_of_mem _ hy)),h x List.mem_cons_self y List.mem_cons_self]
theorem CC {sp:Int→Int} {G G':T→T→Prop} {a b:T} (h1:∀ x∈a.l,(G x b↔G' x b)) (h2:∀ y∈b.l,(G a y↔G' a y)) (h3:∀ x∈a.l,∀ y∈b.l,(G x y↔G' x y)) :
 Fm sp G a b↔Fm sp G' a b:=by
 have e1:(∃ x∈a.l,x=b∨G x b)↔(∃ x∈a.l,x=b∨G' x b):=⟨fun ⟨x,hx,h⟩=>⟨x,hx,by rwa [← h1 x hx]⟩,fun ⟨x,hx,h⟩=>⟨x,hx,by rwa [h1 x hx]⟩⟩
 have e2:(∀ y∈b.l,G a y)↔(∀ y∈b.l,G' a y):=⟨fun h y hy=>(h2 y hy).1 (h y hy),fun h y hy=>(h2 y hy).2 (h y hy)⟩
 have e3:Lx G (side (sp a.n) a.l) (side (sp a.n) b.l)↔Lx G' (side (sp a.n) a.l) (side (sp a.n) b.l):=CB fun x hx y hy=>h3 x (lg.1 hx) y (lg.1 hy)
 have e4:Mu G a.l b.l↔Mu G' a.l b.l:=by
  unfold Mu
  refine and_congr Iff.rfl ⟨fun h y hy hc=>?_,fun h y hy hc=>?_⟩ <;> obtain ⟨x,hx,GV,hg⟩:=h y hy hc
  ·exact ⟨x,hx,GV,(h3 x hx y hy).1 hg⟩
  ·exact ⟨x,hx,GV,(h3 x hx y hy).2 hg⟩
 unfold Fm
 rw [e1,e2,e3,e4]
def LR (sp:Int→Int):Nat→T→T→Prop
 | 0=>fun _ _=>False
 | f + 1=>Fm sp (LR sp f)
def Gt (sp:Int→Int) (a b:T):Prop:=LR sp (wt a + wt b) a b
theorem gh (sp:Int→Int):∀ (f g:Nat) (a b:T),wt a + wt b≤f→wt a + wt b≤g→(LR sp f a b↔LR sp g a b)
 | 0,_,a,b,h,_=>by have:=gg a;omega
 | _ + 1,0,a,b,_,h=>by have:=gg a;omega
 | f + 1,g + 1,a,b,h1,h2=>by
   simp only [LR]
   refine CC (fun x hx=>?_) (fun y hy=>?_) (fun x hx y hy=>?_)
   ·have:=cK hx;exact gh sp f g x b (by omega) (by omega)
   ·have:=cK hy;exact gh sp f g a y (by omega) (by omega)
   ·have:=cK hx;have:=cK hy;exact gh sp f g x y (by omega) (by omega)
theorem vX {sp:Int→Int} {a b:T}:Gt sp a b↔Fm sp (Gt sp) a b:=by
 have e:LR sp (wt a + wt b) a b↔LR sp (wt a + wt b + 1) a b:=gh sp _ _ a b (by omega) (by omega)
 unfold Gt
 rw [e]
 show Fm sp (LR sp (wt a + wt b)) a b↔_
 refine CC (fun x hx=>?_) (fun y hy=>?_) (fun x hx y hy=>?_)
 ·have:=cK hx;exact gh sp _ _ x b (by omega) (by omega)
 ·have:=cK hy;exact gh sp _ _ a y (by omega) (by omega)
 ·have:=cK hx;have:=cK hy;exact gh sp _ _ x y (by omega) (by omega)
section
variable {sp:Int→Int}
theorem yB {a b:T} (h:Gt sp a b):a.k=2:=(vX.1 h).1
theorem pG {a b x:T} (ha:a.k=2) (hx:x∈a.l) (h:x=b∨Gt sp x b):Gt sp a b:=vX.2 ⟨ha,.inl ⟨x,hx,h⟩⟩
theorem mT {l m:List T} {x:T} (h:m.count x < l.count x):x∈l:=List.count_pos_iff.1 (by omega)
theorem qK {a b:T} (h:Gt sp a b):(∃ x∈a.l,x=b∨Gt sp x b)∨b.k=2∧(∀ y∈b.l,Gt sp a y)∧(
 b.n < a.n∨(b.n=a.n∧sp a.n≠3∧Lx (Gt sp) (side (sp a.n) a.l) (side (sp a.n) b.l))∨(b.n=a.n∧sp a.n=3∧Mu (Gt sp) a.l b.l)):=by
 obtain ⟨ha,h | ⟨hb,h | h | h⟩⟩:=vX.1 h
 ·exact .inl h
 ·exact .inr ⟨hb,h.2,.inl h.1⟩
 ·exact .inr ⟨hb,h.2.2.1,.inr (.inl ⟨h.1,h.2.1,h.2.2.2⟩)⟩
 ·refine .inr ⟨hb,fun y hy=>?_,.inr (.inr h)⟩
  obtain ⟨_,_,_,h2⟩:=h
  by_cases hc:a.l.count y < b.l.count y
  ·obtain ⟨x,hx,_,hg⟩:=h2 y hy hc
   exact pG ha hx (.inr hg)
  ·have:0 < b.l.count y:=List.count_pos_iff.2 hy
   exact pG ha (List.count_pos_iff.1 (by omega)) (.inl rfl)
theorem Wf {a b:T} (ha:a.k=2) (hb:b.k=2) (h1:∀ y∈b.l,Gt sp a y) (h2:b.n < a.n∨(b.n=a.n∧sp a.n≠3∧Lx (Gt sp) (side (sp a.n) a.l) (side (sp a.n) b.l))∨(b.n=a.n∧sp a.n=3∧Mu (Gt sp) a.l b.l)):Gt sp a b:=by
 refine vX.2 ⟨ha,.inr ⟨hb,?_⟩⟩
 rcases h2 with h | h | h
 ·exact .inl ⟨h,h1⟩
 ·exact .inr (.inl ⟨h.1,h.2.1,h1,h.2.2⟩)
 ·exact .inr (.inr h)
theorem Oo:∀ {a b y:T},Gt sp a b→b.k=2→y∈b.l→Gt sp a y:=by
 intro a
 induction h:wt a using Nat.strongRecOn generalizing a with
 | _ n ih=>
   intro b y CD hb hy
   rcases qK CD with ⟨x,hx,rfl | hg⟩ | ⟨_,h1,_⟩
   ·exact pG (yB CD) hx (.inr (pG hb hy (.inl rfl)))
   ·exact pG (yB CD) hx (.inr (ih _ (by have:=cK hx;omega) rfl hg hb hy))
   ·exact h1 y hy
theorem Kq {G:T→T→Prop}:∀ {l:List T},Lx G l l→∃ x∈l,G x x
 | x::l,h=>by
   rcases h with ⟨_,h⟩ | h
   ·obtain ⟨y,hy,hg⟩:=Kq h;exact ⟨y,List.mem_cons_of_mem _ hy,hg⟩
   ·exact ⟨x,List.mem_cons_self,h⟩
theorem An:∀ a:T,¬ Gt sp a a:=by
 intro a
 induction h:wt a using Nat.strongRecOn generalizing a with
 | _ n ih=>
   intro hg
   rcases qK hg with ⟨x,hx,rfl | Oq⟩ | ⟨_,_,h1 | ⟨_,_,h1⟩ | ⟨_,_,h1⟩⟩
   ·have:=cK hx;omega
   ·exact ih (wt x) (by have:=cK hx;omega) x rfl (Oo Oq (yB hg) hx)
   ·omega
   ·obtain ⟨x,hx,Oq⟩:=Kq h1
    have hx:=lg.1 hx
    exact ih (wt x) (by have:=cK hx;omega) x rfl Oq
   ·obtain ⟨⟨x,_,hx⟩,_⟩:=h1;omega
theorem Kr {G:T→T→Prop} {S:List T} (irr:∀ x∈S,¬ G x x) (tr:∀ x∈S,∀ y∈S,∀ z∈S,G x y→G y z→G x z) (P:T→Prop)
 (step:∀ z∈S,(∀ x∈S,G x z→P x)→P z):∀ z∈S,P z:=by
 classical
 intro z
 induction h:S.countP (fun w=>decide (G w z)) using Nat.strongRecOn generalizing z with
 | _ n ih=>
   intro hz
   refine step z hz fun x hx hg=>ih (S.countP fun w=>decide (G w x)) ?_ x rfl hx
   subst h
   have key:∀ (l:List T),(∀ w∈l,w∈S)→l.countP (fun w=>decide (G w x))≤l.countP (fun w=>decide (G w z))∧(x∈l→l.countP (fun w=>decide (G w x)) < l.countP (fun w=>decide (G w z))):=by
    intro l
    induction l with
    | nil=>intro _;exact ⟨Nat.le_refl _,fun h=>by cases h⟩
    | cons w l ihl=>
      intro hl
      obtain ⟨i1,i2⟩:=ihl fun w hw=>hl w (List.mem_cons_of_mem _ hw)
      have hw:=hl w List.mem_cons_self
      by_cases h1:G w x
      ·have h2:G w z:=tr w hw x hx z hz h1 hg
       have eM:x≠w:=fun e=>irr x hx (by rw [← e] at h1;exact h1)
       simp only [List.countP_cons,h1,h2,decide_true,if_true]
       refine ⟨by omega,fun hm=>?_⟩
       rcases List.mem_cons.1 hm with e | hm
       ·exact absurd e eM
       ·have:=i2 hm;omega
      ·by_cases h2:G w z
       ·simp only [List.countP_cons,h1,h2,decide_true,decide_false,if_true]
        refine ⟨by simp;omega,fun _=>by simp;omega⟩
       ·have eM:x≠w:=fun e=>h2 (e ▸ hg)
        simp only [List.countP_cons,h1,h2,decide_false]
        refine ⟨by simpa using i1,fun hm=>?_⟩
        rcases List.mem_cons.1 hm with e | hm
        ·exact absurd e eM
        ·simpa using i2 hm
   exact (key S fun _ h=>h).2 hx
theorem Ks {G:T→T→Prop} {l m k:List T} (irr:∀ x∈l++m++k,¬ G x x) (tr:∀ x∈l++m++k,∀ y∈l++m++k,∀ z∈l++m++k,G x y→G y z→G x z)
 (h1:Mu G l m) (h2:Mu G m k):Mu G l k:=by
 have il:∀ {x},x∈l→x∈l++m++k:=fun h=>by simp [h]
 have im:∀ {x},x∈m→x∈l++m++k:=fun h=>by simp [h]
 have ik:∀ {x},x∈k→x∈l++m++k:=fun h=>by simp [h]
 have up:∀ z∈l++m++k,(l.count z < m.count z∨m.count z < k.count z)→∃ x∈l,k.count x < l.count x∧G x z:=by
  refine Kr irr tr _ fun z hz ih hc=>?_
  rcases hc with hc | hc
  ·obtain ⟨x1,s5,Pa,Iw⟩:=h1.2 z (mT hc) hc
   by_cases hk:k.count x1 < l.count x1
   ·exact ⟨x1,s5,hk,Iw⟩
   ·obtain ⟨x,hx,oP,hg⟩:=ih x1 (il s5) Iw (.inr (by omega))
    exact ⟨x,hx,oP,tr x (il hx) x1 (il s5) z hz hg Iw⟩
  ·obtain ⟨x1,s5,Pa,Iw⟩:=h2.2 z (mT hc) hc
   by_cases hk:l.count x1 < m.count x1
   ·obtain ⟨x,hx,oP,hg⟩:=ih x1 (im s5) Iw (.inl hk)
    exact ⟨x,hx,oP,tr x (il hx) x1 (im s5) z hz hg Iw⟩
   ·exact ⟨x1,List.count_pos_iff.1 (by omega),by omega,Iw⟩
 constructor
 ·obtain ⟨x0,IV,L5⟩:=h1.1
  by_cases hk:k.count x0 < l.count x0
  ·exact ⟨x0,IV,hk⟩
  ·obtain ⟨x,hx,hc,_⟩:=up x0 (il IV) (.inr (by omega))
   exact ⟨x,hx,hc⟩
 ·intro y hy hc
  refine up y (ik hy) ?_
  by_cases h:l.count y < m.count y
  ·exact .inl h
  ·exact .inr (by omega)
theorem CE {G:T→T→Prop}:∀ {l m k:List T},(∀ x∈l,∀ y∈m,∀ z∈k,G x y→G y z→G x z)→Lx G l m→Lx G m k→Lx G l k
 | [],_,_,_,h,_=>h.elim
 | _::_,[],_,_,_,h=>h.elim
 | _::_,_::_,[],_,_,_=>trivial
 | x::l,y::m,z::k,tr,h1,h2=>by
   have ih:=@CE G l m k fun x hx y hy z hz=>tr x (List.mem_cons_of_mem _ hx) y (List.mem_cons_of_mem _ hy) z (List.mem_cons_of_mem _ hz)
   rcases h1 with ⟨rfl,h1⟩ | h1 <;> rcases h2 with ⟨rfl,h2⟩ | h2
   ·exact .inl ⟨rfl,ih h1 h2⟩
   ·exact .inr h2
   ·exact .inr h1
   ·exact .inr (tr x List.mem_cons_self y List.mem_cons_self z List.mem_cons_self h1 h2)
theorem Ao:∀ (N:Nat) {a b c:T},wt a≤N→wt b≤N→wt c≤N→Gt sp a b→Gt sp b c→Gt sp a c:=by
 intro N
 induction N with
 | zero=>intro a b c h;have:=gg a;omega
 | succ N ihN=>
 intro a b c
 induction h:wt a + wt b + wt c using Nat.strongRecOn generalizing a b c with
 | _ n ih=>
   intro la lb lc CD P1
   rcases qK CD with ⟨x,hx,rfl | hg⟩ | ⟨hb,h1,h2⟩
   ·exact pG (yB CD) hx (.inr P1)
   ·have:=cK hx
    exact pG (yB CD) hx (.inr (ih (wt x + wt b + wt c) (by omega) rfl (by omega) lb lc hg P1))
   rcases qK P1 with ⟨y,hy,rfl | hg⟩ | ⟨hc,h3,h4⟩
   ·exact h1 y hy
   ·have:=cK hy
    exact ih (wt a + wt y + wt c) (by omega) rfl la (by omega) lc (h1 y hy) hg
   have h5:∀ z∈c.l,Gt sp a z:=fun z hz=>by
    have:=cK hz
    exact ih (wt a + wt b + wt z) (by omega) rfl la lb (by omega) CD (h3 z hz)
   refine Wf (yB CD) hc h5 ?_
   rcases h2 with h2 | ⟨e2,s2,h2⟩ | ⟨e2,s2,h2⟩ <;> rcases h4 with h4 | ⟨e4,s4,h4⟩ | ⟨e4,s4,h4⟩
   ·exact .inl (by omega)
   ·exact .inl (by omega)
   ·exact .inl (by omega)
   ·exact .inl (by omega)
   ·refine .inr (.inl ⟨by omega,s2,?_⟩)
    rw [e2] at h4
    refine CE (fun x hx y hy z hz=>?_) h2 h4
    have:=cK (lg.1 hx);have:=cK (lg.1 hy);have:=cK (lg.1 hz)
    exact ihN (by omega) (by omega) (by omega)
   ·rw [e2] at s4;exact absurd s4 s2
   ·exact .inl (by omega)
   ·rw [e2] at s4;exact absurd s2 s4
   ·refine .inr (.inr ⟨by omega,s2,?_⟩)
    have small:∀ x∈a.l++b.l++c.l,wt x≤N:=by
     intro x hx
     simp only [List.mem_append] at hx
     rcases hx with (hx | hx) | hx <;> have:=cK hx <;> omega
    exact Ks (fun x _=>An x) (fun x hx y hy z hz=>ihN (small x hx) (small y hy) (small z hz)) h2 h4
theorem gt_trans {a b c:T}:Gt sp a b→Gt sp b c→Gt sp a c:=Ao (wt a + wt b + wt c) (by omega) (by omega) (by omega)
theorem Wg {l m X Y C:List T} (hl:l.Perm (X++C)) (hm:m.Perm (Y++C)) (h0:X≠[]) (h1:∀ y∈Y,∃ x∈X,Gt sp x y):Mu (Gt sp) l m:=by
 have cl:∀ z,l.count z=X.count z + C.count z:=fun z=>by rw [hl.count_eq,List.count_append]
 have cm:∀ z,m.count z=Y.count z + C.count z:=fun z=>by rw [hm.count_eq,List.count_append]
 have up:∀ z∈X++Y,z∈Y→∃ x∈X,Y.count x < X.count x∧Gt sp x z:=by
  refine Kr (G:=Gt sp) (fun x _=>An x) (fun x _ y _ z _=>gt_trans) _ fun z hz ih hy=>?_
  obtain ⟨x1,s5,Iw⟩:=h1 z hy
  by_cases hc:Y.count x1 < X.count x1
  ·exact ⟨x1,s5,hc,Iw⟩
  ·have:0 < X.count x1:=List.count_pos_iff.2 s5
   obtain ⟨x,hx,oP,hg⟩:=ih x1 (by simp [s5]) Iw (List.count_pos_iff.1 (by omega))
   exact ⟨x,hx,oP,gt_trans hg Iw⟩
 have inl:∀ {x},x∈X→x∈l:=fun hx=>hl.mem_iff.2 (by simp [hx])
 constructor
 ·obtain ⟨x,hx⟩:=List.exists_mem_of_ne_nil X h0
  by_cases hc:Y.count x < X.count x
  ·exact ⟨x,inl hx,by rw [cl,cm];omega⟩
  ·have:0 < X.count x:=List.count_pos_iff.2 hx
   obtain ⟨x',wO,GV,_⟩:=up x (by simp [hx]) (List.count_pos_iff.1 (by omega))
   exact ⟨x',inl wO,by rw [cl,cm];omega⟩
 ·intro y hy hc
  rw [cl,cm] at hc
  have hyY:y∈Y:=List.count_pos_iff.1 (by omega)
  obtain ⟨x,hx,GV,hg⟩:=up y (by simp [hyY]) hyY
  exact ⟨x,inl hx,by rw [cl,cm];omega,hg⟩
def SP (X Y:List T):Prop:=∀ z,z∈X→z∉Y
theorem SQ {G:T→T→Prop} {l m X Y C:List T} (hl:l.Perm (X++C)) (hm:m.Perm (Y++C)) (hd:SP X Y):Mu G l m↔X≠[]∧∀ y∈Y,∃ x∈X,G x y:=by
 have cl:∀ z,l.count z=X.count z + C.count z:=fun z=>by rw [hl.count_eq,List.count_append]
 have cm:∀ z,m.count z=Y.count z + C.count z:=fun z=>by rw [hm.count_eq,List.count_append]
 have inl:∀ {x},x∈X→x∈l:=fun hx=>hl.mem_iff.2 (by simp [hx])
 have inm:∀ {x},x∈Y→x∈m:=fun hx=>hm.mem_iff.2 (by simp [hx])
 have cX:∀ {z},m.count z < l.count z↔z∈X:=by
  intro z
  rw [cl,cm]
  constructor
  ·intro h;exact List.count_pos_iff.1 (by omega)
  ·intro h
   have h1:0 < X.count z:=List.count_pos_iff.2 h
   have h2:Y.count z=0:=List.count_eq_zero.2 (hd z h)
   omega
 have cY:∀ {z},l.count z < m.count z↔z∈Y:=by
  intro z
  rw [cl,cm]
  constructor
  ·intro h;exact List.count_pos_iff.1 (by omega)
  ·intro h
   have h1:0 < Y.count z:=List.count_pos_iff.2 h
   have h2:X.count z=0:=List.count_eq_zero.2 (fun hx=>hd z hx h)
   omega
 constructor
 ·rintro ⟨⟨x,_,hx⟩,h2⟩
  refine ⟨fun e=>(by have hm:=cX.1 hx;rw [e] at hm;cases hm),fun y hy=>?_⟩
  obtain ⟨x,_,hx,hg⟩:=h2 y (inm hy) (cY.2 hy)
  exact ⟨x,cX.1 hx,hg⟩
 ·rintro ⟨h1,h2⟩
  refine ⟨?_,fun y _ hy=>?_⟩
  ·obtain ⟨x,hx⟩:=List.exists_mem_of_ne_nil X h1
   exact ⟨x,inl hx,cX.2 hx⟩
  ·obtain ⟨x,hx,hg⟩:=h2 y (cY.1 hy)
   exact ⟨x,inl hx,cX.2 hx,hg⟩
theorem xo {l m X Y C:List T} (hl:l.Perm (X++C)) (hm:m.Perm (Y++C)) (hd:SP X Y):l.Perm m↔X=[]∧Y=[]:=by
 constructor
 ·intro h
  have hc:∀ z,X.count z=Y.count z:=fun z=>by
   have h1:=hl.count_eq z
   have h2:=hm.count_eq z
   have h3:=h.count_eq z
   rw [List.count_append] at h1 h2
   omega
  constructor
  ·cases hX:X with
   | nil=>rfl
   | cons x r=>
     have h1:x∈X:=by rw [hX];simp
     have h2:0 < Y.count x:=by rw [← hc];exact List.count_pos_iff.2 h1
     exact absurd (List.count_pos_iff.1 h2) (hd x h1)
  ·cases hY:Y with
   | nil=>rfl
   | cons x r=>
     have h1:x∈Y:=by rw [hY];simp
     have h2:0 < X.count x:=by rw [hc];exact List.count_pos_iff.2 h1
     exact absurd h1 (hd x (List.count_pos_iff.1 h2))
 ·rintro ⟨rfl,rfl⟩
  exact hl.trans hm.symm
theorem CF (s:Int) (g:T→T) (l:List T):side s (l.map g)=(side s l).map g:=by unfold side;split <;> simp
theorem T.ext {a b:T} (h1:a.k=b.k) (h2:a.n=b.n) (h3:a.l=b.l):a=b:=by
 cases a;cases b;simp only [T.k,T.n,T.l] at h1 h2 h3;rw [h1,h2,h3]
end
end Go.fm
end
section
namespace Go.fm
open Go.aH
def E (O:Od) (a b:T):Prop:=norm O a=norm O b
def R (O:Od) (a b:T):Prop:=Gt O.sp (norm O a) (norm O b)
theorem kmk (k n:Int) (l:List T):(T.mk k n l).k=k:=rfl
section
variable {O:Od}
theorem oF {a:T} (h:a.k=2):(norm O a).k=2∧(norm O a).n=O.pl a.n∧(O.sp (O.pl a.n)=3→(norm O a).l=xn (a.l.map (norm O)))∧(O.sp (O.pl a.n)≠3→(norm O a).l=a.l.map (norm O)):=by
 cases a with
 | mk k n l=>
   simp only [T.k] at h
   subst h
   simp only [norm,if_true,T.k,T.n,T.l,yA,true_and]
   exact ⟨fun h=>by rw [if_pos h],fun h=>by rw [if_neg h]⟩
theorem vY {a:T} (h:a.k≠2):norm O a=.mk 1 a.n []:=by
 cases a with
 | mk k n l=>simp only [kmk] at h;simp only [norm];rw [if_neg h];rfl
theorem sm {a:T}:(norm O a).k=2↔a.k=2:=by
 by_cases h:a.k=2
 ·simp [h,(oF h).1]
 ·rw [vY h,kmk];simp [h]
theorem qL {a x:T} (h:a.k=2):x∈(norm O a).l↔∃ y∈a.l,norm O y=x:=by
 obtain ⟨_,_,h1,h2⟩:=oF (O:=O) h
 by_cases hs:O.sp (O.pl a.n)=3
 ·rw [h1 hs,On,List.mem_map]
 ·rw [h2 hs,List.mem_map]
theorem Ot {G:T→T→Prop} {l m l' m':List T} (h1:l.Perm l') (h2:m.Perm m'):Mu G l m↔Mu G l' m':=by
 unfold Mu
 simp only [h1.count_eq,h2.count_eq,h1.mem_iff,h2.mem_iff]
theorem Wh {a b:T}:E O a b↔(a.k=2∧b.k=2∧O.pl a.n=O.pl b.n∧(if O.sp (O.pl a.n)=3 then (a.l.map (norm O)).Perm (b.l.map (norm O)) else a.l.map (norm O)=b.l.map (norm O)))∨(a.k≠2∧b.k≠2∧a.n=b.n):=by
 by_cases ha:a.k=2
 ·by_cases hb:b.k=2
  ·obtain ⟨ka,na,pa,qa⟩:=oF (O:=O) ha
   obtain ⟨kb,nb,pb,qb⟩:=oF (O:=O) hb
   simp only [ha,hb,true_and,ne_eq,not_true_eq_false,false_and,or_false]
   unfold E
   constructor
   ·intro h
    have hn:O.pl a.n=O.pl b.n:=by rw [← na,← nb,h]
    refine ⟨hn,?_⟩
    have hl:(norm O a).l=(norm O b).l:=by rw [h]
    split
    ·rename_i hs
     rw [pa hs,pb (by rw [← hn];exact hs)] at hl
     exact F5.1 hl
    ·rename_i hs
     rw [qa hs,qb (by rw [← hn];exact hs)] at hl
     exact hl
   ·rintro ⟨hn,hl⟩
    refine T.ext (by rw [ka,kb]) (by rw [na,nb,hn]) ?_
    split at hl
    ·rename_i hs
     rw [pa hs,pb (by rw [← hn];exact hs)]
     exact F5.2 hl
    ·rename_i hs
     rw [qa hs,qb (by rw [← hn];exact hs)]
     exact hl
  ·simp only [ha,hb,ne_eq,not_true_eq_false,false_and,and_false,or_false,iff_false]
   intro h
   have:=sm (O:=O) (a:=a)
   unfold E at h
   rw [h,sm] at this
   exact hb (this.2 ha)
 ·by_cases hb:b.k=2
  ·simp only [ha,hb,ne_eq,not_true_eq_false,false_and,and_false,or_false,iff_false]
   intro h
   have:=sm (O:=O) (a:=b)
   unfold E at h
   rw [← h,sm] at this
   exact ha (this.2 hb)
  ·simp only [ha,hb,ne_eq,not_false_eq_true,false_and,true_and,false_or]
   unfold E
   rw [vY ha,vY hb]
   simp
theorem qM {a b:T}:R O a b↔a.k=2∧((∃ x∈a.l,E O x b∨R O x b)∨b.k=2∧(
 (O.pl b.n < O.pl a.n∧∀ y∈b.l,R O a y)∨
 (O.pl b.n=O.pl a.n∧O.sp (O.pl a.n)≠3∧(∀ y∈b.l,R O a y)∧Lx (Gt O.sp) (side (O.sp (O.pl a.n)) (a.l.map (norm O))) (side (O.sp (O.pl a.n)) (b.l.map (norm O))))∨
 (O.pl b.n=O.pl a.n∧O.sp (O.pl a.n)=3∧Mu (Gt O.sp) (a.l.map (norm O)) (b.l.map (norm O))))):=by
 unfold R
 rw [vX]
 unfold Fm
 rw [sm,sm]
 refine and_congr_right fun ha=>?_
 obtain ⟨ka,na,pa,qa⟩:=oF (O:=O) ha
 refine or_congr ?_ (and_congr_right fun hb=>?_)
 ·constructor
  ·rintro ⟨x,hx,h⟩
   obtain ⟨y,hy,rfl⟩:=(qL ha).1 hx
   exact ⟨y,hy,h⟩
  ·rintro ⟨x,hx,h⟩
   exact ⟨_,(qL ha).2 ⟨x,hx,rfl⟩,h⟩
 ·obtain ⟨kb,nb,pb,qb⟩:=oF (O:=O) hb
  have e:(∀ y∈(norm O b).l,Gt O.sp (norm O a) y)↔∀ y∈b.l,Gt O.sp (norm O a) (norm O y):=by
   constructor
   ·intro h y hy;exact h _ ((qL hb).2 ⟨y,hy,rfl⟩)
   ·intro h y hy;obtain ⟨z,hz,rfl⟩:=(qL hb).1 hy;exact h z hz
  rw [e,na,nb]
  refine or_congr Iff.rfl (or_congr ?_ ?_)
  ·refine and_congr_right fun hn=>and_congr_right fun hs=>?_
   rw [qa hs,qb (by rw [hn];exact hs)]
  ·refine and_congr_right fun hn=>and_congr_right fun hs=>?_
   exact Ot (by rw [pa hs];exact lf _) (by rw [pb (by rw [hn];exact hs)];exact lf _)
theorem Wi {a b:T} (h:E O a b):¬ R O a b:=by unfold R;rw [show norm O a=norm O b from h];exact An _
theorem Ou {a b c:T} (h1:R O a b) (h2:R O b c):R O a c:=gt_trans h1 h2
theorem Wj {a b x:T} (ha:a.k=2) (hx:x∈a.l) (h:E O x b∨R O x b):R O a b:=qM.2 ⟨ha,.inl ⟨x,hx,h⟩⟩
end
inductive um (p:Int→Prop):T→Prop
 | mk (k n:Int) (l:List T) (h1:k=2→p n) (h2:∀ x∈l,um p x):um p (.mk k n l)
theorem um.op {p:Int→Prop} {a:T} (h:um p a) (hk:a.k=2):p a.n:=by cases h with | mk k n l h1 _=>exact h1 hk
theorem um.mem {p:Int→Prop} {a x:T} (h:um p a) (hx:x∈a.l):um p x:=by cases h with | mk k n l _ h2=>exact h2 x hx
end Go.fm
end
section
set_option maxRecDepth 100000
namespace Go.aH
open Go Go.Proofs Go.fm
abbrev Nd:=T×List Int
def bm:List Int→AV
 | []=>.ah
 | v::r=>.ap 0 (ints (v::r))
def EL (p:Nd):AV:=.agg [.int .i64 p.1.k,.int .i64 p.1.n,.ap 0 (bW p.1.l),bm p.2]
def eL (l:List Nd):List AV:=l.map EL
def zN:AV:=.agg [.int .i64 0,.int .i64 0,.ah,.ah]
theorem aC (l:List Int):(bm l).one=true∧(bm l).ab=bm l∧(∀ n,(bm l).aZ n=true)∧(bm l).val=true∧(bm l).cells=[bm l]:=by
 cases l with
 | nil=>exact ⟨rfl,rfl,fun _=>rfl,rfl,rfl⟩
 | cons v r=>exact ⟨rfl,rfl,fun n=>by rw [bm,b8];exact aY n _,rfl,rfl⟩
theorem Ov (p:Nd):iz 4 (EL p):=by
 obtain ⟨t,ks⟩:=p
 cases ks with
 | nil=>exact ⟨rfl,rfl,by simp [EL,bm,AV.cells,dI,bG,cZ,gb,b8,FR],rfl⟩
 | cons v r=>exact ⟨rfl,rfl,by simp [EL,bm,AV.cells,dI,bG,cZ,gb,b8,aY],rfl⟩
theorem Ap:iz 4 (bL zN):=⟨rfl,rfl,rfl,rfl⟩
theorem jU (l:List Nd):∀ x∈eL l,iz 4 x:=by
 intro x hx;obtain ⟨p,_,rfl⟩:=List.mem_map.1 hx;exact Ov p
def aT:List T→Nat→List Int
 | [],_=>[]
 | x::r,n=>(n:Int)::aT r (n + wt x)
mutual
def vZ:T→Nat→List Nd
 | .mk k n l,i=>(.mk k n l,aT l (i + 1))::da l (i + 1)
def da:List T→Nat→List Nd
 | [],_=>[]
 | x::r,i=>vZ x i++da r (i + wt x)
end
mutual
theorem qN:∀ (t:T) (i:Nat),(vZ t i).length=wt t
 | .mk k n l,i=>by rw [vZ,List.length_cons,gQ,wt];omega
theorem gQ:∀ (l:List T) (i:Nat),(da l i).length=gW l
 | [],_=>rfl
 | x::r,i=>by rw [da,List.length_append,qN,gQ,gW]
end
theorem oG (t:T) (i:Nat):vZ t i=(t,aT t.l (i + 1))::da t.l (i + 1):=by cases t;rw [vZ];rfl
theorem CG (t:T):wt t=gW t.l + 1:=by cases t;rw [wt];exact Nat.add_comm _ _
theorem lh:∀ (l:List T) (x:T) (i:Nat),da (l++[x]) i=da l i++vZ x (i + gW l)
 | [],x,i=>by simp [da,gW]
 | y::r,x,i=>by rw [List.cons_append,da,da,lh r x,List.append_assoc,gW];congr 3;omega
theorem iM:∀ (l:List T) (x:T) (i:Nat),aT (l++[x]) i=aT l i++[((i + gW l:Nat):Int)]
 | [],x,i=>by simp [aT,gW]
 | y::r,x,i=>by rw [List.cons_append,aT,aT,iM r x,gW];simp;omega
theorem nU {l:List T} {i:Nat} (h:i < l.length):gW (l.take (i + 1))=gW (l.take i) + wt (l.getD i default):=by
 have e:∀ (a:List T) (x:T),gW (a++[x])=gW a + wt x:=by
  intro a x;induction a with
  | nil=>simp [gW]
  | cons y r ih=>rw [List.cons_append,gW,gW,ih];omega
 rw [List.take_succ_eq_append_getElem h,e]
 simp [h]
theorem dl:∀ (l:List T) (i:Nat),gW (l.take i)≤gW l
 | [],i=>by simp [gW]
 | x::r,0=>by simp [gW]
 | x::r,i + 1=>by rw [List.take_succ_cons,gW,gW];have:=dl r i;omega
theorem cE:∀ (l:List T) (i:Nat),(aT l i).length=l.length
 | [],_=>rfl
 | x::r,i=>by rw [aT,List.length_cons,cE,List.length_cons]
theorem iE:∀ l:List T,l.length≤gW l
 | []=>by simp
 | x::r=>by rw [List.length_cons,gW];have:=iE r;have:=gg x;omega
def mC (t:T):AV:=.agg [.int .i64 t.k,.int .i64 t.n,.ap 0 (bW t.l),.ap 0 []]
theorem qO (t:T):iz 4 (mC t):=⟨rfl,rfl,by simp [mC,AV.cells,dI,bG,gb,b8,aj],rfl⟩
theorem bdN (t:T) (φ:AV→Prop):cu [.int .i64 0,.int .i64 0,.ah,.ah] [(0,3,t.av)] φ=φ (.agg [.int .i64 t.k,.int .i64 t.n,.ap 0 (bW t.l),.ah]):=by
 cases t with
 | mk k n l=>
 simp only [cu,gI,T.av,eq_iff_iff]
 constructor
 ·rintro ⟨_,_,_,h⟩;exact h
 ·exact fun h=>⟨rfl,rfl,by decide,h⟩
theorem Wk (t:T):aM (.agg [.int .i64 t.k,.int .i64 t.n,.ap 0 (bW t.l),.ah])=mC t:=rfl
theorem RO.aL {z:AV} {base:Nat} {v:AV} {xs:List AV} {G:List aa} (h:RO z base v xs G):aL 1 v=True:=by
 rcases h with ⟨_,rfl⟩ | ⟨id,cap,_,rfl,_⟩ <;> simp [Go.aH.aL]
theorem fg (l:List Int):(jS l).one=true∧(jS l).ab=bm l∧(jS l).val=true∧(jS l).cells=[jS l]:=by
 cases l with
 | nil=>exact ⟨rfl,rfl,rfl,rfl⟩
 | cons v r=>exact ⟨rfl,rfl,rfl,rfl⟩
def Wl (base:Nat) (H:List aa) (xs:List AV) (r:AV) (H':List aa):Prop:=RO zN base r xs H'∧H'.take base=H.take base∧H.length≤H'.length
theorem qP (a b:List Nd):eL (a++b)=eL a++eL b:=by simp [eL]
theorem qQ (a:List Nd):(eL a).length=a.length:=by simp [eL]
theorem ZG:∀ (N:Nat) (t:T),wt t≤N→∀ (base:Nat) (v:AV) (xs:List AV) (H:List aa),RO zN base v xs H→(∀ x∈xs,iz 4 x)→base≤H.length→(xs.length + wt t) * 64≤140737488355328→
 aq Tryz.prog 132 [t.av,v] H (Wl base H (xs++eL (vZ t xs.length))):=by
 intro N
 induction N with
 | zero=>intro t ht;have:=gg t;omega
 | succ N ih=>
 intro t ht base v xs H hR ej hbase hb
 have hw:=CG t
 have Yj:=iE t.l
 refine FY.2.calls rfl ?_
 simp only [FY,aJ]
 obtain ⟨o1,o2,o3,o4⟩:=hR.one
 simp +contextual only [o3,hR.len,hR.aL,bdN,Wk,sZ,Nat.reduceEqDiff,Nat.reduceAdd,↓reduceIte,reduceCtorEq]
 refine Kj Ap hR ej 0 [mC t] (by simp) (by simp [qO]) (by simp;omega) hbase fun v1 G1 SR SS hj1 tT=>?_
 obtain ⟨o1',o2',o3',o4'⟩:=SR.one
 simp +contextual only [sZ]
 intro _
 have iV:∀ i,(xs++mC t::eL (da (t.l.take i) (xs.length + 1))).length=xs.length + 1 + gW (t.l.take i):=by intro i;simp [qQ,gQ];omega
 have jr:∀ i,∀ x∈xs++mC t::eL (da (t.l.take i) (xs.length + 1)),iz 4 x:=by
  intro i x hx
  rcases List.mem_append.1 hx with hx | hx
  ·exact ej x hx
  ·rcases List.mem_cons.1 hx with rfl | hx
   ·exact qO t
   ·exact jU _ x hx
 refine aE t.l.length (fun i (p:AV×List aa)=>RO zN base p.1 (xs++mC t::eL (da (t.l.take i) (xs.length + 1))) p.2∧p.2.take base=H.take base∧H.length≤p.2.length)
  (fun i p=>[(1,p.1),(5,.int .i64 xs.length),(6,jS (aT (t.l.take i) (xs.length + 1))),(17,.ap 0 (bW t.l)),(18,.int .i64 t.l.length),(19,.int .i64 i)])
  (fun i p=>p.2) (v1,G1) ⟨⟨SR,SS,tT⟩,aA _ _ _⟩ fun i p hi hI=>?_
 obtain ⟨v,G⟩:=p
 obtain ⟨hR,hG,hl⟩:=hI
 simp only at hR hG hl
 obtain ⟨o1,o2,o3,o4⟩:=hR.one
 have hle:=dl t.l i
 have Bw:=cE (t.l.take i) (xs.length + 1)
 have SU:(t.l.take i).length≤t.l.length:=by simp;omega
 simp +contextual only [o3,hR.len,hR.aL,iV,sj,(fg _).2.1,jt,sZ,Nat.reduceEqDiff,Nat.reduceAdd,↓reduceIte,reduceCtorEq]
 refine ⟨fun aX=>⟨bS aX,by omega,?_⟩,fun jh=>?_⟩
 ·have aX:=bS aX
  have ZH:=nU aX
  have hnext:=dl t.l (i + 1)
  have e2:t.l.take (i + 1)=t.l.take i++[t.l.getD i default]:=by rw [List.take_succ_eq_append_getElem aX];simp [aX]
  refine af (ih (t.l.getD i default) (by have:=cK (gO aX);omega) base v _ G hR (jr i) (by omega) (by rw [iV];omega)) ?_
  rintro r G' ⟨xp,ey,xb⟩
  obtain ⟨o1',o2',o3',o4'⟩:=xp.one
  simp +contextual only [o3',sZ,Nat.reduceEqDiff,↓reduceIte]
  refine ⟨i + 1,(r,G'),⟨aX,?_,ey.trans hG,Nat.le_trans hl xb⟩,by omega,aI ?_ rfl⟩
  ·rw [iV] at xp
   rw [e2,lh,qP,← List.cons_append,← List.append_assoc]
   exact xp
  ·rw [e2,iM,ax i (by omega)]
 ·have mY:i=t.l.length:=by have:=dd jh;omega
  subst mY
  rw [List.take_length] at hR
  have EM:=iV t.l.length
  have EN:=jr t.l.length
  rw [List.take_length] at EM EN
  have gB:(xs++mC t::eL (da t.l (xs.length + 1))).set xs.length (EL (t,aT t.l (xs.length + 1)))=xs++eL (vZ t xs.length):=by
   rw [List.set_append_right _ _ (Nat.le_refl _),Nat.sub_self,List.set_cons_zero,oG];rfl
  have jA:(xs++mC t::eL (da t.l (xs.length + 1))).getD xs.length .any=mC t:=by simp
  generalize xs++mC t::eL (da t.l (xs.length + 1))=ys at hR EM EN gB jA
  rcases hR with ⟨rfl,_⟩ | ⟨id,cap,bk,rfl,hg,b9,_⟩
  ·simp at EM
   omega
  have xT:=(List.getElem?_eq_some_iff.1 hg).1
  obtain ⟨k1,k2,k3,k4,k5⟩:=aC (aT t.l (xs.length + 1))
  simp +contextual only [hg,kO,List.take_length,sZ,Nat.reduceEqDiff,↓reduceIte,reduceCtorEq]
  refine ⟨by omega,?_⟩
  refine Ah EN (by omega) (by decide) (y:=EL (t,aT t.l (xs.length + 1))) k1 k4 (by rw [k2];exact k3 _) (by rw [jA,k2];rfl) ?_
  simp +contextual only [sZ,Nat.reduceEqDiff,↓reduceIte,reduceCtorEq]
  rw [gB]
  refine aO (G.length) (by omega) (by rw [au,if_pos rfl,jP];simpa using xT) ?_
  rw [au,if_pos rfl,List.take_of_length_le (by simp)]
  refine ⟨.inr ⟨id,cap,bk,?_,?_,?_,?_⟩,?_,by simpa using hl⟩
  ·rw [← gB];simp
  ·rw [List.getElem?_set_self xT]
  ·rw [← gB];simpa using b9
  ·rw [oG];simp [eL]
  ·rw [List.take_set_of_le bk];exact hG
end Go.aH
end
