/- A memory-free reading of the model's values (part 19): operations that are run. -/
import Derived.Test.YtljchnfgjdjobaaGreatVac
set_option linter.unusedVariables false
set_option linter.unusedSimpArgs false
set_option linter.defProp false
set_option linter.unusedSectionVars false
namespace Go.aL
open Go
def aeo:AV→Option Bool | .bool b=>some b | _=>none
def GR (op:BinOp) (x y:AV):Option AV:=
 match x,y with
 | .int k a,.int k' b=>if k=k' then
    match op with
    | .add=>some (.int k (k.wrap (a + b)))
    | .sub=>some (.int k (k.wrap (a - b)))
    | .mul=>some (.int k (k.wrap (a * b)))
    | .quo=>if b≠0 then some (.int k (k.wrap (a.tdiv b))) else none
    | .rem=>if b≠0 then some (.int k (a.tmod b)) else none
    | .and=>some (.int k (k.wrap (BitVec.ofInt k.bits a &&& BitVec.ofInt k.bits b).toNat))
    | .or=>some (.int k (k.wrap (BitVec.ofInt k.bits a ||| BitVec.ofInt k.bits b).toNat))
    | .eql=>some (.bool (decide (a=b)))
    | .neq=>some (.bool (decide (a≠b)))
    | .lss=>some (.bool (decide (a < b)))
    | .leq=>some (.bool (decide (a≤b)))
    | .gtr=>some (.bool (decide (b < a)))
    | .geq=>some (.bool (decide (b≤a)))
    | _=>none
   else none
 | .str a,.str b=>
   match op with
   | .add=>if a.size + b.size < 9223372036854775808 then some (.str (a++b)) else none
   | .eql=>some (.bool (decide (a=b)))
   | .neq=>some (.bool (decide (a≠b)))
   | .lss=>some (.bool (Op.bytesLess a.data.toList b.data.toList))
   | _=>none
 | _,_=>none
def uN (op:BinOp) (x y:AV):Option AV:=
 match x,y with
 | .int k a,.int _ b=>if 0≤b then
    match op with
    | .shl=>some (.int k (k.wrap (a * 2 ^ (min b.toNat k.bits))))
    | .shr=>some (.int k (a.fdiv (2 ^ (min b.toNat k.bits))))
    | _=>none
   else none
 | _,_=>none
def qT (neq:Bool) (x y:AV):Option AV:=
 match x,y with
 | .bool a,.bool b=>some (.bool (if neq then decide (a≠b) else decide (a=b)))
 | _,_=>none
def uO (kd:Nat) (neq:Bool) (x:AV):Option AV:=
 match isNil kd x with
 | some b=>some (.bool (if neq then !b else b))
 | none=>none
def N5 (op:UnOp) (x:AV):Option AV:=
 match op,x with
 | .not,.bool b=>some (.bool (!b))
 | .neg,.int k n=>some (.int k (k.wrap (0 - n)))
 | _,_=>none
def sD (zs:List AV):List (Nat×Nat×AV)→Option (List AV)
 | []=>some zs
 | (off,sz,x)::r=>if x.val=true∧x.cells.length=sz∧off + sz≤zs.length then sD (ag zs off (x.cells.map AV.ab)) r else none
def lF (xs:List AV) (esz:Nat):List (Nat×AV)→Option (List AV)
 | []=>some xs
 | (i,x)::r=>if x.val=true∧x.cells.length=esz∧i < xs.length then lF (xs.set i (aT x)) esz r else none
def pU (sz:Option Nat) (x:AV) (H:List aa):Option AV:=
 match x with
 | .ptr id off=>match H[id]? with
   | some (.cells es)=>match sz with
     | some m=>if off + m≤es.length then some (.agg (((es.drop off).take m).map AV.drop)) else none
     | none=>if off < es.length then some (es.getD off .any).ab else none
   | _=>none
 | .ai y=>match sz with
   | some m=>if y.cells.length=m then some (.agg y.cells) else none
   | none=>if y.one=true then some y.ab else none
 | _=>none
def AM (off:Nat) (sz:Option Nat) (xs:List AV):Option AV:=
 match sz with
 | some m=>if off + m≤xs.length then some (.agg ((xs.drop off).take m)) else none
 | none=>if off < xs.length∧(xs.getD off .any).one=true then some (xs.getD off .any) else none
def kI (off:Nat) (sz:Option Nat) (x:AV):Option AV:=
 match x with
 | .ptr id o=>some (.ptr id (o + off))
 | .ai y=>(AM off sz y.cells).map .ai
 | _=>none
def uP (off:Nat) (sz:Option Nat) (x:AV):Option AV:=
 match x with
 | .agg xs=>(AM off sz xs).map AV.drop
 | _=>none
def v9 (esz:Nat) (x:AV):Bool:=
 match x with
 | .al _ xs=>xs.all fun z=>z.cells.length == esz
 | _=>true
def kJ (esz:Nat) (x i:AV):Option AV:=
 match x,i with
 | .al _ xs,.int _ i=>if 0≤i∧i.toNat < xs.length then some (.ai (xs.getD i.toNat .any)) else none
 | .bc id off len _,.int _ i=>if 0≤i∧i.toNat < len then some (.ptr id (off + i.toNat * esz)) else none
 | _,_=>none
def mA (n:Nat) (x i:AV):Option AV:=
 match x,i with
 | .agg xs,.int _ i=>if xs.length=n∧0≤i∧i.toNat < n then some (xs.getD i.toNat .any).drop else none
 | _,_=>none
def mB (x i:AV):Option AV:=
 match x,i with
 | .str s,.int _ i=>if 0≤i∧i.toNat < s.size then some (.int .u8 (s.data.toList.getD i.toNat 0).toNat) else none
 | _,_=>none
def AN (kd:Nat) (x:AV):Bool:=
 match kd,x with
 | 0,.str _=>true
 | 1,.ah=>true
 | 1,.al _ _=>true
 | 1,.bc _ _ _ _=>true
 | 2,.jd=>true
 | 2,.map _=>true
 | _,_=>false
def GS (x:AV) (H:List aa):Option AV:=
 match x with
 | .str s=>some (.int .i64 s.size)
 | .ah=>some (.int .i64 0)
 | .al _ xs=>some (.int .i64 xs.length)
 | .bc _ _ len _=>some (.int .i64 len)
 | .jd=>some (.int .i64 0)
 | .map id=>match H[id]? with
   | some (.map es)=>some (.int .i64 es.length)
   | _=>none
 | _=>none
def oP (x:AV) (i:Nat):Option AV:=
 match x with
 | .tuple xs=>if i < xs.length then some (xs.getD i .any).ab else none
 | _=>none
def mC (x:AV):Option AV:=
 match x with
 | .ptr .. | .ai _=>some x
 | .fn (.func _) _ _=>some x
 | _=>none
def oQ (k:IntKind) (x:AV):Option AV:=
 match x with
 | .int _ n=>some (.int k (k.wrap n))
 | _=>none
def N6 (big:Bool) (x y:AV):Option AV:=
 match x,y with
 | .int k a,.int _ b=>some (.int k (if big then (if b > a then b else a) else (if b < a then b else a)))
 | _,_=>none
def AO (m:Nat) (p x:AV) (H:List aa):Option (List aa):=
 match p with
 | .ptr id off=>match H[id]? with
   | some (.cells es)=>if x.val=true∧x.cells.length=m∧off + m≤es.length∧x.cells.all AV.one=true∧aj (id + 1) (x.cells.map AV.ab)=true then
      some (H.set id (.cells (ag es off (x.cells.map AV.ab)))) else none
   | _=>none
 | _=>none
def sE (p x:AV) (H:List aa):Option (List aa):=
 match p with
 | .ptr id off=>match H[id]? with
   | some (.cells es)=>if off < es.length∧x.one=true∧x.aV (id + 1)=true then some (H.set id (.cells (es.set off x))) else none
   | _=>none
 | _=>none
def wa (esz bytes:Nat) (s x:AV):Option (List AV):=
 match kC esz s,dl x with
 | some xs,some ys=>if (xs.length + ys.length) * bytes≤140737488355328∧(ys.all fun y=>y.cells.length == esz && y.cells.all AV.one)=true then some (xs++ys) else none
 | _,_=>none
def AP (bytes:Nat) (z n:AV) (H:List aa):Option (AV×List aa):=
 match n with
 | .int .i64 n=>if 0≤n∧n.toNat * bytes≤140737488355328∧aj (H.length + 1) (flat (List.replicate n.toNat (bO z)))=true then
    some (.bc H.length 0 n.toNat n.toNat,H++[.cells (flat (List.replicate n.toNat (bO z)))]) else none
 | _=>none
def uQ (esz bytes:Nat) (n:AV):Option AV:=
 match n with
 | .int .i64 n=>if 0≤n∧n.toNat * bytes≤140737488355328 then some (.al esz []) else none
 | _=>none
def qU (x:Option AV) (d:Nat):Option Nat:=
 match x with
 | none=>some d
 | some (.int _ i)=>if 0≤i then some i.toNat else none
 | _=>none
def AQ (esz:Nat) (x:AV) (lo hi mx:Option AV):Option AV:=
 match dl x with
 | some xs=>match qU hi xs.length,qU lo 0 with
   | some h,some l=>if l≤h∧h≤xs.length then
      match mx with
      | none=>some (.al 0 ((xs.take h).drop l))
      | some m=>match qU (some m) 0 with
        | some m=>if hi.isSome=true∧m=h∧(xs.all fun y=>y.cells.length == esz)=true then some (.al esz ((xs.take h).drop l)) else none
        | none=>none
     else none
   | _,_=>none
 | none=>none
def E9 (esz:Nat) (d s:AV) (H:List aa):Option (AV×List aa):=
 match d,xW esz s H with
 | .bc id off len _,some (n,ys)=>match H[id]? with
   | some (.cells es)=>if (ys.take (min n len * esz)).all AV.one=true∧off + min n len * esz≤es.length∧aj (id + 1) ((ys.take (min n len * esz)).map AV.ab)=true then
      some (.int .i64 (min n len:Nat),H.set id (.cells (ag es off ((ys.take (min n len * esz)).map AV.ab)))) else none
   | _=>none
 | _,_=>none
def pV (esz:Nat) (x:AV) (H:List aa):Option (AV×List aa):=
 match x with
 | .bc id off len cap=>match H[id]? with
   | some (.cells es)=>if 0 < esz∧len≤cap∧off + len * esz≤es.length∧(es.drop off).all AV.one=true then some (.al 0 (chunks esz len (es.drop off)),H.set id .dead) else none
   | _=>none
 | .any=>none
 | .agg _=>none
 | .ptr _ _=>none
 | .pe=>none
 | x=>some (x.ab,H)
def mD (esz:Nat):List AV→List aa→Option (List AV×List aa)
 | [],H=>some ([],H)
 | .agg _::_,_=>none
 | x::r,H=>match pV esz x H with
   | some (y,H')=>match mD esz r H' with
     | some (ys,H'')=>some (y::ys,H'')
     | none=>none
   | none=>none
def AR (esz:Nat) (x:AV) (H:List aa):Option (AV×List aa):=
 match x with
 | .agg xs=>match mD esz xs H with
   | some (ys,H')=>some (.agg ys,H')
   | none=>none
 | x=>pV esz x H
def qV (esz:Nat) (x:AV) (lo hi mx:Option AV):Option AV:=
 match x with
 | .bc id off len cap=>match mx,qU hi len,qU lo 0 with
   | none,some h,some l=>if l≤h∧h≤cap then some (.bc id (if cap=l then off else off + l * esz) (h - l) (cap - l)) else none
   | _,_,_=>none
 | x=>if v9 esz x=true then AQ esz x lo hi mx else none
def mE (x:AV) (lo hi:Option AV):Option AV:=
 match x with
 | .str s=>match qU hi s.size,qU lo 0 with
   | some h,some l=>if l≤h∧h≤s.size then some (.str (s.extract l h)) else none
   | _,_=>none
 | _=>none
def oR (x:AV):Option AV:=match x with | .str s=>some (.str s) | _=>none
def wb:List AV→Option (List UInt8)
 | []=>some []
 | .int .u8 n::r=>match wb r with
   | some l=>if 0≤n∧n < 256 then some (UInt8.ofNat n.toNat::l) else none
   | none=>none
 | _=>none
def uR (x:AV):Option AV:=
 match dl x with
 | some ys=>match wb ys with
   | some l=>some (.str ⟨l.toArray⟩)
   | none=>none
 | none=>none
def oS (own:Nat) (x:AV):Option AV:=
 match x with
 | .str s=>if s.size < 9223372036854775808 then some (.al own (bk s.data.toList)) else none
 | _=>none
def qW (kd:Nat) (zero m k:AV) (ok:Bool) (H:List aa):Option AV:=
 match m with
 | .jd=>if c8 kd k k=some true then some (if ok then .tuple [aT zero,.bool false] else aT zero) else none
 | .map id=>match H[id]? with
   | some (.map es)=>match eh kd k es 0 with
     | some (some (_,v))=>some (if ok then .tuple [v.drop,.bool true] else v.drop)
     | some none=>if c8 kd k k=some true then some (if ok then .tuple [aT zero,.bool false] else aT zero) else none
     | none=>none
   | _=>none
 | _=>none
def wc (kd:Nat) (m k x:AV) (H:List aa):Option (List aa):=
 match m with
 | .map id=>match H[id]? with
   | some (.map es)=>if k.aV (id + 1)=true∧x.aV (id + 1)=true∧x.val=true then match eh kd k es 0 with
      | some (some (i,_))=>some (H.set id (.map (es.set i (k,aT x))))
      | some none=>if c8 kd k k=some true then some (H.set id (.map (es++[(k,aT x)]))) else none
      | none=>none
     else none
   | _=>none
 | _=>none
section
variable {z:AV} {φ:AV→Prop}
theorem GU {op:BinOp} {x y:AV} (h:GR op x y=some z) (hφ:φ z):dg op x y φ:=by
 unfold GR at h
 split at h
 ·split at h <;> try cases h
  rename_i hk
  refine ⟨hk,?_⟩
  split at h <;> first | (cases h;exact hφ) | (split at h <;> cases h;exact ⟨by assumption,hφ⟩) | cases h
 ·split at h <;> first | (cases h;exact hφ) | (split at h <;> cases h;exact ⟨by assumption,hφ⟩) | cases h
 ·cases h
theorem yR {op:BinOp} {x y:AV} (h:uN op x y=some z) (hφ:φ z):dZ op x y φ:=by
 unfold uN at h
 split at h <;> try cases h
 split at h <;> try cases h
 rename_i hb
 refine ⟨hb,?_⟩
 split at h <;> cases h <;> exact hφ
theorem we {neq:Bool} {x y:AV} (h:qT neq x y=some z) (hφ:φ z):cV neq x y φ:=by
 unfold qT at h;unfold cV
 split at h <;> cases h <;> exact hφ
theorem yS {kd:Nat} {neq:Bool} {x:AV} (h:uO kd neq x=some z) (hφ:φ z):cZ kd neq x φ:=by
 unfold uO at h;unfold cZ
 split at h <;> cases h
 rename_i hb;rw [hb];exact hφ
theorem Kp {op:UnOp} {x:AV} (h:N5 op x=some z) (hφ:φ z):Ag op x φ:=by
 unfold N5 at h;unfold Ag
 split at h <;> cases h <;> exact hφ
theorem wg {φ:List AV→Prop} {r:List AV} (hφ:φ r):∀ {ps:List (Nat×Nat×AV)} {zs:List AV},sD zs ps=some r→gO zs ps φ
 | [],zs,h=>by simp only [sD] at h;cases h;exact hφ
 | (off,sz,x)::ps,zs,h=>by
   simp only [sD] at h
   split at h <;> try cases h
   rename_i hc
   exact ⟨hc.1,hc.2.1,hc.2.2,wg hφ h⟩
theorem pW {esz:Nat} {φ:List AV→Prop} {r:List AV} (hφ:φ r):∀ {ps:List (Nat×AV)} {zs:List AV},lF zs esz ps=some r→bj zs esz ps φ
 | [],zs,h=>by simp only [lF] at h;cases h;exact hφ
 | (i,x)::ps,zs,h=>by
   simp only [lF] at h
   split at h <;> try cases h
   rename_i hc
   exact ⟨hc.1,hc.2.1,hc.2.2,pW hφ h⟩
theorem n9 {sz:Option Nat} {x:AV} {H:List aa} (h:pU sz x H=some z) (hφ:φ z):aQ sz x H φ:=by
 unfold pU at h;unfold aQ
 split at h <;> try cases h
 ·split at h <;> try cases h
  rename_i bp
  simp only [bp]
  split at h <;> (split at h <;> cases h) <;> exact ⟨by assumption,hφ⟩
 ·simp only
  split at h <;> (split at h <;> cases h) <;> exact ⟨by assumption,hφ⟩
theorem CP {off:Nat} {sz:Option Nat} {xs:List AV} (h:AM off sz xs=some z) (hφ:φ z):apart off sz xs φ:=by
 unfold AM at h;unfold apart
 split at h <;> split at h <;> cases h
 ·exact ⟨by assumption,hφ⟩
 ·rename_i hc;exact ⟨hc.1,hc.2,hφ⟩
theorem px {off:Nat} {sz:Option Nat} {x:AV} (h:kI off sz x=some z) (hφ:φ z):ak off sz x φ:=by
 unfold kI at h;unfold ak
 split at h <;> try cases h
 ·exact hφ
 ·obtain ⟨u,hu,rfl⟩:=Option.map_eq_some_iff.1 h
  exact CP hu hφ
theorem yT {off:Nat} {sz:Option Nat} {x:AV} (h:uP off sz x=some z) (hφ:φ z):eZ off sz x φ:=by
 unfold uP at h;unfold eZ
 split at h <;> try cases h
 obtain ⟨u,hu,rfl⟩:=Option.map_eq_some_iff.1 h
 exact CP hu hφ
theorem wh {esz:Nat} {x:AV} (h:v9 esz x=true):∀ own xs,x=.al own xs→∀ z∈xs,z.cells.length=esz:=by
 intro own xs e z hz
 subst e
 simp only [v9,List.all_eq_true,beq_iff_eq] at h
 exact h z hz
theorem py {esz:Nat} {x i:AV} (h:kJ esz x i=some z) (hφ:φ z):ax esz x i φ:=by
 unfold kJ at h;unfold ax
 split at h <;> try cases h
 ·split at h <;> cases h
  rename_i hc;exact ⟨hc.1,hc.2,hφ⟩
 ·split at h <;> cases h
  rename_i hc;exact ⟨hc.1,hc.2,hφ⟩
theorem qX {x i:AV} (h:mB x i=some z) (hφ:φ z):bK x i φ:=by
 unfold mB at h;unfold bK
 split at h <;> try cases h
 split at h <;> cases h
 rename_i hc;exact ⟨hc.1,hc.2,hφ⟩
theorem qY {n:Nat} {x i:AV} (h:mA n x i=some z) (hφ:φ z):bT n x i φ:=by
 unfold mA at h;unfold bT
 split at h <;> try cases h
 split at h <;> cases h
 rename_i hc;exact ⟨hc.1,hc.2.1,hc.2.2,hφ⟩
theorem CQ {kd:Nat} {x:AV} (h:AN kd x=true):aN kd x:=by
 unfold AN at h;unfold aN
 split at h <;> first | trivial | cases h
theorem GV {x:AV} {H:List aa} (h:GS x H=some z) (hφ:φ z):fx x H φ:=by
 unfold GS at h;unfold fx
 split at h <;> try cases h
 ·exact hφ
 ·exact hφ
 ·exact fun _=>hφ
 ·exact hφ
 ·exact hφ
 ·split at h <;> cases h
  rename_i bp
  simp only [bp];exact hφ
theorem tV {x:AV} {i:Nat} (h:oP x i=some z) (hφ:φ z):bF x i φ:=by
 unfold oP at h;unfold bF
 split at h <;> try cases h
 split at h <;> cases h
 exact ⟨by assumption,hφ⟩
theorem qZ {x:AV} (h:mC x=some z) (hφ:φ z):bU x φ:=by
 unfold mC at h;unfold bU
 split at h <;> cases h <;> exact hφ
theorem tW {k:IntKind} {x:AV} (h:oQ k x=some z) (hφ:φ z):cF k x φ:=by
 unfold oQ at h;unfold cF
 split at h <;> cases h <;> exact hφ
theorem Kq {big:Bool} {x y:AV} (h:N6 big x y=some z) (hφ:φ z):xN big x y φ:=by
 unfold N6 at h;unfold xN
 split at h <;> cases h <;> exact hφ
theorem Iu {m:Nat} {p x:AV} {H H':List aa} {K:List aa→Prop} (h:AO m p x H=some H') (hK:K H'):iE m p x H K:=by
 unfold AO at h;unfold iE
 split at h <;> try cases h
 split at h <;> try cases h
 rename_i bp
 split at h <;> cases h
 rename_i hc
 simp only [bp]
 exact ⟨hc.1,hc.2.1,hc.2.2.1,hc.2.2.2.1,hc.2.2.2.2,hK⟩
theorem CR {p x:AV} {H H':List aa} {K:List aa→Prop} (h:sE p x H=some H') (hK:K H'):ee p x H K:=by
 unfold sE at h;unfold ee
 split at h <;> try cases h
 split at h <;> try cases h
 rename_i bp
 split at h <;> cases h
 rename_i hc
 simp only [bp]
 exact ⟨hc.1,hc.2.1,hc.2.2,hK⟩
theorem Fa {esz bytes:Nat} {s x:AV} {r:List AV} {φ:List AV→Prop} (h:wa esz bytes s x=some r) (hφ:φ r):bn esz bytes s x φ:=by
 unfold wa at h;unfold bn
 split at h <;> try cases h
 rename_i xs ys h1 h2
 split at h <;> cases h
 rename_i hc
 simp only [h1,h2]
 refine ⟨hc.1,?_,hφ⟩
 intro y hy
 have:=List.all_eq_true.1 hc.2 y hy
 simpa using this
theorem Iv {esz bytes:Nat} {x n:AV} {H H':List aa} {K:AV→List aa→Prop} (h:AP bytes x n H=some (z,H')) (hK:K z H'):gv esz bytes x n H K:=by
 unfold AP at h;unfold gv
 split at h <;> try cases h
 split at h <;> cases h
 rename_i hc
 exact ⟨hc.1,hc.2.1,hc.2.2,hK⟩
theorem yU {esz bytes:Nat} {n:AV} (h:uQ esz bytes n=some z) (hφ:φ z):ji esz bytes n φ:=by
 unfold uQ at h;unfold ji
 split at h <;> try cases h
 split at h <;> cases h
 rename_i hc
 exact ⟨hc.1,hc.2,hφ⟩
theorem mF {x:Option AV} {d k:Nat} {φ:Nat→Prop} (h:qU x d=some k) (hφ:φ k):dQ x d φ:=by
 unfold qU at h;unfold dQ
 split at h
 ·cases h;exact hφ
 ·split at h <;> cases h
  rename_i hc
  exact ⟨hc,hφ⟩
 ·cases h
theorem Iw {esz:Nat} {x:AV} {lo hi mx:Option AV} (h:AQ esz x lo hi mx=some z) (hφ:φ z):eR esz x lo hi mx φ:=by
 unfold AQ at h;unfold eR
 split at h <;> try cases h
 rename_i xs fP
 simp only [fP]
 split at h <;> try cases h
 rename_i hh ll h1 h2
 split at h <;> try cases h
 rename_i hc
 refine mF h1 (mF h2 ⟨hc.1,hc.2,?_⟩)
 split at h
 ·cases h;exact hφ
 ·split at h <;> try cases h
  rename_i m hm
  split at h <;> cases h
  rename_i hc
  refine ⟨hc.1,mF hm ⟨hc.2.1,?_,hφ⟩⟩
  intro y hy
  have:=List.all_eq_true.1 hc.2.2 y hy
  simpa using this
theorem Kr {esz:Nat} {d s:AV} {H H':List aa} {K:AV→List aa→Prop} (h:E9 esz d s H=some (z,H')) (hK:K z H'):jX esz d s H K:=by
 unfold E9 at h;unfold jX
 split at h <;> try cases h
 rename_i hs
 split at h <;> try cases h
 rename_i bp
 split at h <;> cases h
 rename_i hc
 simp only [hs,bp]
 exact ⟨hc.1,hc.2.1,hc.2.2,hK⟩
theorem wi {esz:Nat} {x:AV} {H H':List aa} {K:AV→List aa→Prop} (h:pV esz x H=some (z,H')) (hK:K z H'):fF esz x H K:=by
 unfold pV at h;unfold fF
 split at h
 ·split at h <;> try cases h
  rename_i bp
  split at h <;> cases h
  rename_i hc
  simp only [dn,bp]
  exact ⟨hc.1,hc.2.1,hc.2.2.1,hc.2.2.2,hK⟩
 ·cases h
 ·cases h
 ·cases h
 ·cases h
 ·rename_i h1 h2 h3 h4 h5
  cases h
  cases x <;> first | exact hK | exact absurd rfl h2 | exact absurd rfl h5 | exact absurd rfl (h1 _ _ _ _) | exact absurd rfl (h3 _) | exact absurd rfl (h4 _ _)
theorem Ix {esz:Nat} {x:AV} {H H':List aa} {K:AV→List aa→Prop} (hx:∀ xs,x≠.agg xs) (h:pV esz x H=some (z,H')) (hK:K z H'):dn esz x H K:=by
 have:=wi (K:=K) h hK
 unfold fF at this
 split at this
 ·exact absurd rfl (hx _)
 ·cases h
 ·exact this
theorem yV {esz:Nat}:∀ {xs:List AV} {H H':List aa} {ys:List AV} {K:List AV→List aa→Prop},mD esz xs H=some (ys,H')→K ys H'→jY esz xs H K
 | [],H,H',ys,K,h,hK=>by simp only [mD] at h;cases h;exact hK
 | x::r,H,H',ys,K,h,hK=>by
   have hx:∀ xs,x≠.agg xs:=fun xs e=>by subst e;simp [mD] at h
   have h':(match pV esz x H with
    | some (y,H')=>match mD esz r H' with
      | some (ys,H'')=>some (y::ys,H'')
      | none=>none
    | none=>none)=some (ys,H'):=by
    cases x <;> first | exact absurd rfl (hx _) | (simpa only [mD] using h)
   split at h' <;> try cases h'
   rename_i y H1 h1
   split at h' <;> cases h'
   rename_i ys' h2
   exact Ix (K:=fun y H'=>jY esz r H' fun ys H''=>K (y::ys) H'') hx h1 (yV (K:=fun ys H''=>K (y::ys) H'') h2 hK)
theorem Iy {esz:Nat} {x:AV} {H H':List aa} {K:AV→List aa→Prop} (h:AR esz x H=some (z,H')) (hK:K z H'):fF esz x H K:=by
 unfold AR at h
 split at h
 ·split at h <;> cases h
  rename_i ys hs
  exact yV (K:=fun ys H'=>K (.agg ys) H') hs hK
 ·exact wi h hK
theorem wj {esz:Nat} {x:AV} {lo hi mx:Option AV} (h:qV esz x lo hi mx=some z) (hφ:φ z):bm esz x lo hi mx φ:=by
 unfold qV at h;unfold bm
 split at h
 ·split at h <;> try cases h
  rename_i h1 h2
  split at h <;> cases h
  rename_i hc
  simp only
  unfold gQ
  exact mF h1 (mF h2 ⟨hc.1,hc.2,hφ⟩)
 ·rename_i dW
  split at h <;> try cases h
  rename_i hl
  split
  ·exact absurd rfl (dW _ _ _ _)
  ·exact ⟨wh hl,Iw h hφ⟩
theorem ra {x:AV} {lo hi:Option AV} (h:mE x lo hi=some z) (hφ:φ z):cn x lo hi φ:=by
 unfold mE at h;unfold cn
 split at h <;> try cases h
 split at h <;> try cases h
 rename_i hh ll h1 h2
 split at h <;> cases h
 rename_i hc
 exact mF h1 (mF h2 ⟨hc.1,hc.2,hφ⟩)
theorem tX {x:AV} (h:oR x=some z) (hφ:φ z):fS x φ:=by
 unfold oR at h;unfold fS
 split at h <;> cases h <;> exact hφ
theorem CU:∀ {ys:List AV} {l:List UInt8},wb ys=some l→ys=bk l
 | [],l,h=>by simp only [wb] at h;cases h;rfl
 | y::ys,l,h=>by
   unfold wb at h
   split at h
   ·rename_i e;cases e
   ·rename_i n r e
    cases e
    split at h <;> try cases h
    rename_i l' hl
    split at h <;> cases h
    rename_i hn
    have:=CU hl
    subst this
    simp only [bk,List.map_cons]
    congr 1
    have:(UInt8.ofNat n.toNat).toNat=n.toNat:=by
     rw [UInt8.toNat_ofNat']
     exact Nat.mod_eq_of_lt (by have:(2:Nat)^8=256:=rfl
                                omega)
    rw [this]
    congr 1
    omega
   ·cases h
theorem yW {x:AV} (h:uR x=some z) (hφ:φ z):jV x φ:=by
 unfold uR at h;unfold jV
 split at h <;> try cases h
 rename_i ys qt
 split at h <;> cases h
 rename_i l hl
 simp only [qt]
 exact ⟨l,CU hl,hφ⟩
theorem tY {own:Nat} {x:AV} (h:oS own x=some z) (hφ:φ z):fe own x φ:=by
 unfold oS at h;unfold fe
 split at h <;> try cases h
 split at h <;> cases h
 exact ⟨by assumption,hφ⟩
theorem wm {kd:Nat} {zero m k:AV} {ok:Bool} {H:List aa} (h:qW kd zero m k ok H=some z) (hφ:φ z):cv kd zero m k ok H φ:=by
 unfold qW at h;unfold cv
 split at h <;> try cases h
 ·split at h <;> cases h
  exact ⟨by assumption,hφ⟩
 ·split at h <;> try cases h
  rename_i bp
  simp only [bp]
  split at h
  ·rename_i hf;cases h;simp only [hf];exact hφ
  ·rename_i hf
   split at h <;> cases h
   simp only [hf]
   exact ⟨by assumption,hφ⟩
  ·cases h
theorem Fb {kd:Nat} {m k x:AV} {H H':List aa} {K:List aa→Prop} (h:wc kd m k x H=some H') (hK:K H'):fC kd m k x H K:=by
 unfold wc at h;unfold fC
 split at h <;> try cases h
 split at h <;> try cases h
 rename_i bp
 simp only [bp]
 split at h <;> try cases h
 rename_i hc
 refine ⟨hc.1,hc.2.1,hc.2.2,?_⟩
 split at h
 ·rename_i hf;cases h;simp only [hf];exact hK
 ·rename_i hf
  split at h <;> cases h
  simp only [hf]
  exact ⟨by assumption,hK⟩
 ·cases h
end
end Go.aL
