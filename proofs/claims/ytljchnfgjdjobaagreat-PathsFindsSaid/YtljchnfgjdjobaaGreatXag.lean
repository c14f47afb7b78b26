/- Lists that are appended to, as objects: whatever their elements are. -/
import Derived.Test.YtljchnfgjdjobaaGreatXaf
set_option linter.unusedVariables false
set_option linter.unusedSimpArgs false
set_option linter.defProp false
set_option linter.unusedSectionVars false
namespace Go.aI
open Go
structure ko (esz:Nat) (x:AV):Prop where
 len:x.cells.length=esz
 un:x.cells.map AV.ab=x.cells
 bl:aw 0 x.cells=true
 one:x.cells.all AV.one=true
theorem ko.flat {esz:Nat}:∀ {xs:List AV},(∀ x∈xs,ko esz x)→(flat xs).length=xs.length * esz∧(flat xs).map AV.ab=flat xs∧(∀ n,aw n (flat xs)=true)∧(Go.aI.flat xs).all AV.one=true
 | [],_=>⟨by simp [Go.aI.flat],rfl,fun _=>rfl,rfl⟩
 | x::r,h=>by
   obtain ⟨h1,h2,h3,h4⟩:=ko.flat (xs:=r) fun y hy=>h y (aaA _ hy)
   have hx:=h x abD
   have e:Go.aI.flat (x::r)=x.cells++Go.aI.flat r:=rfl
   rw [e]
   refine ⟨by rw [aaj,hx.len,h1,List.length_cons,abO];omega,by rw [ab8,hx.un,h2],fun n=>?_,by rw [List.all_append,hx.one,h4];rfl⟩
   rw [bw];exact ⟨bI (ac6 n) _ hx.bl,h3 n⟩
theorem po (xs ys:List AV):flat (xs++ys)=flat xs++flat ys:=by simp [flat]
theorem kY {esz:Nat} {z:AV} (hz:ko esz (bU z)) (n:Nat):∀ x∈List.replicate n (bU z),ko esz x:=fun x hx=>by rw [abX hx];exact hz
theorem sD {esz:Nat} {z:AV} (hz:ko esz (bU z)) (n:Nat):(cz z n).length=n * esz:=by
 have:=(ko.flat (kY hz n)).1
 rwa [ach] at this
theorem Ac {esz:Nat} {z:AV} (hz:ko esz (bU z)) (n k:Nat) (h:k≤n):(cz z n).drop (k * esz)=cz z (n - k):=by
 have e:cz z n=cz z k++cz z (n - k):=by
  unfold cz
  rw [← po,agc]
  congr 2;omega
 rw [e,adN (by rw [sD hz];omega),aap (by rw [sD hz];omega)]
 rfl
def aX (z:AV) (xs:List AV) (cap:Nat):aa:=.cells (flat xs++cz z (cap - xs.length))
def RO (z:AV) (base:Nat) (v:AV) (xs:List AV) (G:List aa):Prop:=
 (xs=[]∧v=.ag)∨∃ id cap,base≤id∧v=.aZ id 0 xs.length cap∧G[id]?=some (aX z xs cap)∧xs.length≤cap∧xs≠[]
theorem RO.one {z:AV} {base:Nat} {v:AV} {xs:List AV} {G:List aa} (h:RO z base v xs G):v.one=true∧v.val=true∧v.ab=v∧v.cells=[v]:=by
 rcases h with ⟨_,rfl⟩ | ⟨id,cap,_,rfl,_⟩ <;> exact ⟨rfl,rfl,rfl,rfl⟩
theorem RO.bc {z:AV} {base:Nat} {v:AV} {xs:List AV} {G:List aa} (h:RO z base v xs G) {n:Nat} (hn:G.length≤n):v.bc n=true:=by
 rcases h with ⟨_,rfl⟩ | ⟨id,cap,_,rfl,c,_⟩
 ·rfl
 ·have:=(aa2.1 c).1
  rw [eL];simp;omega
theorem RO.set {z:AV} {base:Nat} {v:AV} {xs:List AV} {G:List aa} (h:RO z base v xs G) {j:Nat} (hj:j < base) (o:aa):RO z base v xs (G.set j o):=by
 rcases h with h | ⟨id,cap,a,b,c,d⟩
 ·exact .inl h
 ·exact .inr ⟨id,cap,a,b,by rw [zA (by omega)];exact c,d⟩
theorem RO.len {z:AV} {base:Nat} {v:AV} {xs:List AV} {G:List aa} (h:RO z base v xs G) {H:List aa} (φ:AV→Prop):fR v H φ=φ (.int .i64 xs.length):=by
 rcases h with ⟨rfl,rfl⟩ | ⟨id,cap,_,rfl,_⟩ <;> rfl
theorem Mc {esz bytes:Nat} {z:AV} (hz:ko esz (bU z)) {base:Nat} {v:AV} {xs:List AV} {G:List aa} (h:RO z base v xs G) (fe:∀ x∈xs,ko esz x) (o:Nat) (ys:List AV) (hy:ys≠[]) (tu:∀ x∈ys,ko esz x)
 (hb:(xs.length + ys.length) * bytes≤140737488355328) (hG:base≤G.length) {K:AV→List aa→Prop}
 (hK:∀ v' G',RO z base v' (xs++ys) G'→G'.take base=G.take base→(∀ j,j < base→G'[j]?=G[j]?)→G.length≤G'.length→K v' G'):b9 esz bytes z v (.al o ys) G K:=by
 have kw:qR esz ys:=fun y hy=>⟨(tu y hy).len,(tu y hy).one⟩
 obtain ⟨f1,f2,f3,f4⟩:=ko.flat tu
 obtain ⟨g1,g2,g3,g4⟩:=ko.flat fe
 have vU:=sD hz
 have mg:∀ n m,aw n (cz z m)=true:=fun n m=>(ko.flat (kY hz m)).2.2.1 n
 unfold b9
 simp only [dK]
 refine ⟨kw,?_⟩
 rcases h with ⟨rfl,rfl⟩ | ⟨id,cap,bF,rfl,hg,hle,_⟩
 ·refine ⟨by simpa using hb,fun e=>absurd e hy,fun _ cap hc _=>⟨?_,hK _ _ (.inr ⟨G.length,cap,hG,by simp,?_,by simpa using hc,by simpa using hy⟩) ?_ ?_ (by simp)⟩⟩
  ·rw [f2,bw];exact ⟨f3 _,mg _ _⟩
  ·rw [f2];simp [aX]
  ·rw [abd hG]
  ·intro j hj;rw [zz (by omega)]
 ·have v7:=(aa2.1 hg).1
  simp only [hg,aX,aaj,g1,vU,abK,List.drop_zero]
  refine ⟨hb,hle,by rw [← abO];exact Nat.le_of_eq (by congr 1;omega),fun hroom=>⟨by rw [f2];exact f3 _,?_⟩,fun jZ c8 hc _=>⟨?_,?_⟩⟩
  ·rw [f2]
   refine hK _ _ (.inr ⟨id,cap,bF,by simp,?_,by simpa using hroom,by simp [hy]⟩) ?_ ?_ (by simp)
   ·rw [Sx v7,aX]
    congr 2
    unfold ai
    rw [f1,abd (by rw [g1];exact zy _),aax (by rw [g1];exact zy _),aek,aap (by rw [g1];omega),g1,
     show xs.length * esz + ys.length * esz - xs.length * esz=ys.length * esz by omega,Ac hz _ _ (by omega),po,List.nil_append,aaj]
    rw [show cap - xs.length - ys.length=cap - (xs.length + ys.length) by omega,abe]
   ·rw [abz (by omega)]
   ·intro j hj;rw [zA (by omega)]
  ·rw [abd (by rw [g1];exact zy _),aax (by rw [g1];exact zy _),g2,f2,bw,bw];exact ⟨⟨g3 _,f3 _⟩,mg _ _⟩
  ·rw [abd (by rw [g1];exact zy _),aax (by rw [g1];exact zy _),g2,f2,← po]
   refine hK _ _ (.inr ⟨G.length,c8,hG,by simp,?_,by simpa using hc,by simp [hy]⟩) ?_ ?_ (by simp)
   ·simp [aX]
   ·rw [abd hG]
   ·intro j hj;rw [zz (by omega)]
theorem rc {esz:Nat}:∀ {xs:List AV} (_:∀ x∈xs,ko esz x) (i:Nat),i < xs.length→(flat xs).drop (i * esz)=(xs.getD i .any).cells++flat (xs.drop (i + 1))
 | [],_,i,h=>by simp at h
 | x::r,hx,0,_=>by simp [flat]
 | x::r,hx,i + 1,h=>by
   have hl:=(hx x abD).len
   have e:flat (x::r)=x.cells++flat r:=rfl
   rw [e,show (i + 1) * esz=x.cells.length + i * esz by rw [hl,abO];omega,aek,List.getD_cons_succ,List.drop_succ_cons]
   have:=rc (xs:=r) (fun y hy=>hx y (aaA _ hy)) i (by simpa using h)
   simp [this]
theorem Ad {esz:Nat} {z:AV} {c:Nat} (hc:c < esz) (v:AV):∀ {xs:List AV} (_:∀ x∈xs,ko esz x) (i:Nat) {y:AV} (rest:List AV),i < xs.length→y.cells=(xs.getD i .any).cells.set c v→
 (flat xs++rest).set (i * esz + c) v=flat (xs.set i y)++rest
 | [],_,i,_,_,h,_=>by simp at h
 | x::r,hx,0,y,rest,_,hy=>by
   have hl:=(hx x abD).len
   have e:flat (x::r)=x.cells++flat r:=rfl
   rw [aeJ,e,show flat (y::r)=y.cells++flat r from rfl,hy,afe,abK,abe,aed _ _ (by omega),abe]
   rfl
 | x::r,hx,i + 1,y,rest,h,hy=>by
   have hl:=(hx x abD).len
   have e:flat (x::r)=x.cells++flat r:=rfl
   have ih:=Ad (z:=z) hc v (xs:=r) (fun y hy=>hx y (aaA _ hy)) i rest (y:=y) (by simpa using h) (by simpa using hy)
   rw [af1,e,show flat (x::r.set i y)=x.cells++flat (r.set i y) from rfl,abe,abe,← ih,show (i + 1) * esz + c=x.cells.length + (i * esz + c) by rw [hl,abO];omega]
   rw [acF _ _ (by omega)]
   congr 2;omega
theorem jb (e id N c i:Nat) (k:IntKind) (φ:AV→Prop):aG e (.aZ id 0 N c) (.int k (i:Int)) φ=(i < N∧φ (.ptr id (i * e))):=by
 simp only [aG,zB,abK,eq_iff_iff]
 constructor
 ·rintro ⟨_,h⟩;exact h
 ·exact fun h=>⟨by omega,h⟩
theorem iE {α:Type} (l:List α) (i:Nat) (x:α) (h:i < l.length):ai l i [x]=l.set i x:=by
 unfold ai
 rw [af7,if_pos h]
 rfl
theorem BK {esz cap id:Nat} {z:AV} {ys:List AV} (tu:∀ x∈ys,ko esz x) {i c:Nat} (hi:i < ys.length) (hc:c < esz) {v y:AV} (h1:v.one=true) (h2:v.val=true) (h3:v.ab.bc 0=true) (hy:y.cells=(ys.getD i .any).cells.set c v.ab)
 {H:List aa} {K:List aa→Prop} (hK:K (H.set id (aX z (ys.set i y) cap))):hZ (some (aX z ys cap)) 1 id (i * esz + c) v H K:=by
 obtain ⟨g1,g2,g3,g4⟩:=ko.flat tu
 have hle:i * esz + esz≤ys.length * esz:=by rw [← Nat.succ_mul];exact acu _ hi
 simp only [aX,pn,zR h1,h2,List.length_cons,List.length_nil,List.all_cons,List.all_nil,h1,List.map_cons,List.map_nil]
 refine ⟨trivial,trivial,by rw [aaj,g1];omega,rfl,bI (ac6 _) [v.ab] (by rw [bL,cV,h3];rfl),?_⟩
 rw [iE _ _ _ (by rw [aaj,g1];omega),Ad (z:=z) hc v.ab tu i _ hi hy]
 have e:(ys.set i y).length=ys.length:=by simp
 simp only [aX,e] at hK
 exact hK
theorem HN {esz:Nat} (h0:1 < esz):∀ {xs:List AV} (_:∀ x∈xs,ko esz x) (_:∀ x∈xs,AV.agg x.cells=x) (rest:List AV),chunks esz xs.length (flat xs++rest)=xs
 | [],_,_,_=>rfl
 | x::r,hx,ha,rest=>by
   have hl:=(hx x abD)
   have e:flat (x::r)=x.cells++flat r:=rfl
   rw [List.length_cons,chunks,if_neg (by omega),e,abe,abd (by rw [hl.len];omega),aax (by rw [hl.len];omega),hl.un,ha x abD]
   rw [show List.drop esz (x.cells++(flat r++rest))=flat r++rest by rw [← hl.len,agm],HN h0 (fun y hy=>hx y (aaA _ hy)) (fun y hy=>ha y (aaA _ hy))]
theorem xD {esz id cap:Nat} (h0:1 < esz) {z:AV} (hz:ko esz (bU z)) {xs:List AV} {H:List aa} (hx:∀ x∈xs,ko esz x) (ha:∀ x∈xs,AV.agg x.cells=x) (h:H[id]?=some (aX z xs cap)) (hl:xs.length≤cap) {K:AV→List aa→Prop} (hK:K (.al 0 xs) (H.set id .dead)):eK esz (.aZ id 0 xs.length cap) H K:=by
 obtain ⟨g1,g2,g3,g4⟩:=ko.flat hx
 simp only [eK,h,aX,List.drop_zero,HN h0 hx ha]
 refine ⟨by omega,hl,by simp [g1],?_,hK⟩
 rw [List.all_append,g4,show (cz z (cap - xs.length)).all AV.one=true from (ko.flat (kY hz _)).2.2.2];rfl
end Go.aI
