/- A memory-free reading of the model's values (part 19): operations that are run. -/
import Derived.Test.YtljchnfgjdjobaaGreatXac
set_option linter.unusedVariables false
set_option linter.unusedSimpArgs false
set_option linter.defProp false
set_option linter.unusedSectionVars false
namespace Go.aK
open Go
def agF:AV→Option Bool | .bool b=>some b | _=>none
def Ij (op:BinOp) (x y:AV):Option AV:=
 match x,y with
 | .int k a,.int k' b=>if k=k' then
    match op with
    | .add=>some (.int k (k.wrap (a + b)))
    | .sub=>some (.int k (k.wrap (a - b)))
    | .mul=>some (.int k (k.wrap (a * b)))
    | .quo=>if b≠0 then some (.int k (k.wrap (a.tdiv b))) else none
    | .rem=>if b≠0 then some (.int k (a.tmod b)) else none
    | .and=>some (.int k (k.wrap (BitVec.ofInt k.bits a &&& BitVec.ofInt k.bits b).toNat))
    | .or=>some (.int k (k.wrap (BitVec.ofInt k.bits a ||| BitVec.ofInt k.bits b).toNat))
    | .eql=>some (.bool (decide (a=b)))
    | .neq=>some (.bool (decide (a≠b)))
    | .lss=>some (.bool (decide (a < b)))
    | .leq=>some (.bool (decide (a≤b)))
    | .gtr=>some (.bool (decide (b < a)))
    | .geq=>some (.bool (decide (b≤a)))
    | _=>none
   else none
 | .str a,.str b=>
   match op with
   | .add=>if a.size + b.size < 9223372036854775808 then some (.str (a++b)) else none
   | .eql=>some (.bool (decide (a=b)))
   | .neq=>some (.bool (decide (a≠b)))
   | .lss=>some (.bool (Op.bytesLess a.data.toList b.data.toList))
   | _=>none
 | _,_=>none
def vU (op:BinOp) (x y:AV):Option AV:=
 match x,y with
 | .int k a,.int _ b=>if 0≤b then
    match op with
    | .shl=>some (.int k (k.wrap (a * 2 ^ (min b.toNat k.bits))))
    | .shr=>some (.int k (a.fdiv (2 ^ (min b.toNat k.bits))))
    | _=>none
   else none
 | _,_=>none
def rR (neq:Bool) (x y:AV):Option AV:=
 match x,y with
 | .bool a,.bool b=>some (.bool (if neq then decide (a≠b) else decide (a=b)))
 | _,_=>none
def vV (kd:Nat) (neq:Bool) (x:AV):Option AV:=
 match isNil kd x with
 | some b=>some (.bool (if neq then !b else b))
 | none=>none
def PO (op:UnOp) (x:AV):Option AV:=
 match op,x with
 | .not,.bool b=>some (.bool (!b))
 | .neg,.int k n=>some (.int k (k.wrap (0 - n)))
 | _,_=>none
def tD (zs:List AV):List (Nat×Nat×AV)→Option (List AV)
 | []=>some zs
 | (off,sz,x)::r=>if x.val=true∧x.cells.length=sz∧off + sz≤zs.length then tD (ai zs off (x.cells.map AV.ab)) r else none
def mn (xs:List AV) (esz:Nat):List (Nat×AV)→Option (List AV)
 | []=>some xs
 | (i,x)::r=>if x.val=true∧x.cells.length=esz∧i < xs.length then mn (xs.set i (aR x)) esz r else none
def qL (sz:Option Nat) (x:AV) (H:List aa):Option AV:=
 match x with
 | .ptr id off=>match H[id]? with
   | some (.cells es)=>match sz with
     | some m=>if off + m≤es.length then some (.agg (((es.drop off).take m).map AV.drop)) else none
     | none=>if off < es.length then some (es.getD off .any).ab else none
   | _=>none
 | .ah y=>match sz with
   | some m=>if y.cells.length=m then some (.agg y.cells) else none
   | none=>if y.one=true then some y.ab else none
 | _=>none
def BL (off:Nat) (sz:Option Nat) (xs:List AV):Option AV:=
 match sz with
 | some m=>if off + m≤xs.length then some (.agg ((xs.drop off).take m)) else none
 | none=>if off < xs.length∧(xs.getD off .any).one=true then some (xs.getD off .any) else none
def lj (off:Nat) (sz:Option Nat) (x:AV):Option AV:=
 match x with
 | .ptr id o=>some (.ptr id (o + off))
 | .ah y=>(BL off sz y.cells).map .ah
 | _=>none
def vW (off:Nat) (sz:Option Nat) (x:AV):Option AV:=
 match x with
 | .agg xs=>(BL off sz xs).map AV.drop
 | _=>none
def xj (esz:Nat) (x:AV):Bool:=
 match x with
 | .ak _ xs=>xs.all fun z=>z.cells.length == esz
 | _=>true
def lm (esz:Nat) (x i:AV):Option AV:=
 match x,i with
 | .ak _ xs,.int _ i=>if 0≤i∧i.toNat < xs.length then some (.ah (xs.getD i.toNat .any)) else none
 | .ba id off len _,.int _ i=>if 0≤i∧i.toNat < len then some (.ptr id (off + i.toNat * esz)) else none
 | _,_=>none
def nk (n:Nat) (x i:AV):Option AV:=
 match x,i with
 | .agg xs,.int _ i=>if xs.length=n∧0≤i∧i.toNat < n then some (xs.getD i.toNat .any).drop else none
 | _,_=>none
def nl (x i:AV):Option AV:=
 match x,i with
 | .str s,.int _ i=>if 0≤i∧i.toNat < s.size then some (.int .u8 (s.data.toList.getD i.toNat 0).toNat) else none
 | _,_=>none
def BM (kd:Nat) (x:AV):Bool:=
 match kd,x with
 | 0,.str _=>true
 | 1,.ag=>true
 | 1,.ak _ _=>true
 | 1,.ba _ _ _ _=>true
 | 2,.jE=>true
 | 2,.map _=>true
 | _,_=>false
def Ik (x:AV) (H:List aa):Option AV:=
 match x with
 | .str s=>some (.int .i64 s.size)
 | .ag=>some (.int .i64 0)
 | .ak _ xs=>some (.int .i64 xs.length)
 | .ba _ _ len _=>some (.int .i64 len)
 | .jE=>some (.int .i64 0)
 | .map id=>match H[id]? with
   | some (.map es)=>some (.int .i64 es.length)
   | _=>none
 | _=>none
def pF (x:AV) (i:Nat):Option AV:=
 match x with
 | .tuple xs=>if i < xs.length then some (xs.getD i .any).ab else none
 | _=>none
def nr (x:AV):Option AV:=
 match x with
 | .ptr .. | .ah _=>some x
 | .fn (.func _) _ _=>some x
 | _=>none
def pG (k:IntKind) (x:AV):Option AV:=
 match x with
 | .int _ n=>some (.int k (k.wrap n))
 | _=>none
def PR (big:Bool) (x y:AV):Option AV:=
 match x,y with
 | .int k a,.int _ b=>some (.int k (if big then (if b > a then b else a) else (if b < a then b else a)))
 | _,_=>none
def BN (m:Nat) (p x:AV) (H:List aa):Option (List aa):=
 match p with
 | .ptr id off=>match H[id]? with
   | some (.cells es)=>if x.val=true∧x.cells.length=m∧off + m≤es.length∧x.cells.all AV.one=true∧aj (id + 1) (x.cells.map AV.ab)=true then
      some (H.set id (.cells (ai es off (x.cells.map AV.ab)))) else none
   | _=>none
 | _=>none
def tE (p x:AV) (H:List aa):Option (List aa):=
 match p with
 | .ptr id off=>match H[id]? with
   | some (.cells es)=>if off < es.length∧x.one=true∧x.aW (id + 1)=true then some (H.set id (.cells (es.set off x))) else none
   | _=>none
 | _=>none
def xk (esz bytes:Nat) (s x:AV):Option (List AV):=
 match nZ esz s,dG x with
 | some xs,some ys=>if (xs.length + ys.length) * bytes≤140737488355328∧(ys.all fun y=>y.cells.length == esz && y.cells.all AV.one)=true then some (xs++ys) else none
 | _,_=>none
def BO (bytes:Nat) (z n:AV) (H:List aa):Option (AV×List aa):=
 match n with
 | .int .i64 n=>if 0≤n∧n.toNat * bytes≤140737488355328∧aj (H.length + 1) (flat (List.replicate n.toNat (bV z)))=true then
    some (.ba H.length 0 n.toNat n.toNat,H++[.cells (flat (List.replicate n.toNat (bV z)))]) else none
 | _=>none
def vX (esz bytes:Nat) (n:AV):Option AV:=
 match n with
 | .int .i64 n=>if 0≤n∧n.toNat * bytes≤140737488355328 then some (.ak esz []) else none
 | _=>none
def rS (x:Option AV) (d:Nat):Option Nat:=
 match x with
 | none=>some d
 | some (.int _ i)=>if 0≤i then some i.toNat else none
 | _=>none
def BP (esz:Nat) (x:AV) (lo hi mx:Option AV):Option AV:=
 match dG x with
 | some xs=>match rS hi xs.length,rS lo 0 with
   | some h,some l=>if l≤h∧h≤xs.length then
      match mx with
      | none=>some (.ak 0 ((xs.take h).drop l))
      | some m=>match rS (some m) 0 with
        | some m=>if hi.isSome=true∧m=h∧(xs.all fun y=>y.cells.length == esz)=true then some (.ak esz ((xs.take h).drop l)) else none
        | none=>none
     else none
   | _,_=>none
 | none=>none
def Gz (esz:Nat) (d s:AV) (H:List aa):Option (AV×List aa):=
 match d,yV esz s H with
 | .ba id off len _,some (n,ys)=>match H[id]? with
   | some (.cells es)=>if (ys.take (min n len * esz)).all AV.one=true∧off + min n len * esz≤es.length∧aj (id + 1) ((ys.take (min n len * esz)).map AV.ab)=true then
      some (.int .i64 (min n len:Nat),H.set id (.cells (ai es off ((ys.take (min n len * esz)).map AV.ab)))) else none
   | _=>none
 | _,_=>none
def qM (esz:Nat) (x:AV) (H:List aa):Option (AV×List aa):=
 match x with
 | .ba id off len cap=>match H[id]? with
   | some (.cells es)=>if 0 < esz∧len≤cap∧off + len * esz≤es.length∧(es.drop off).all AV.one=true then some (.ak 0 (chunks esz len (es.drop off)),H.set id .dead) else none
   | _=>none
 | .any=>none
 | .agg _=>none
 | .ptr _ _=>none
 | .pW=>none
 | x=>some (x.ab,H)
def ns (esz:Nat):List AV→List aa→Option (List AV×List aa)
 | [],H=>some ([],H)
 | .agg _::_,_=>none
 | x::r,H=>match qM esz x H with
   | some (y,H')=>match ns esz r H' with
     | some (ys,H'')=>some (y::ys,H'')
     | none=>none
   | none=>none
def BQ (esz:Nat) (x:AV) (H:List aa):Option (AV×List aa):=
 match x with
 | .agg xs=>match ns esz xs H with
   | some (ys,H')=>some (.agg ys,H')
   | none=>none
 | x=>qM esz x H
def rT (esz:Nat) (x:AV) (lo hi mx:Option AV):Option AV:=
 match x with
 | .ba id off len cap=>match mx,rS hi len,rS lo 0 with
   | none,some h,some l=>if l≤h∧h≤cap then some (.ba id (if cap=l then off else off + l * esz) (h - l) (cap - l)) else none
   | _,_,_=>none
 | x=>if xj esz x=true then BP esz x lo hi mx else none
def nt (x:AV) (lo hi:Option AV):Option AV:=
 match x with
 | .str s=>match rS hi s.size,rS lo 0 with
   | some h,some l=>if l≤h∧h≤s.size then some (.str (s.extract l h)) else none
   | _,_=>none
 | _=>none
def pH (x:AV):Option AV:=match x with | .str s=>some (.str s) | _=>none
def xl:List AV→Option (List UInt8)
 | []=>some []
 | .int .u8 n::r=>match xl r with
   | some l=>if 0≤n∧n < 256 then some (UInt8.ofNat n.toNat::l) else none
   | none=>none
 | _=>none
def vY (x:AV):Option AV:=
 match dG x with
 | some ys=>match xl ys with
   | some l=>some (.str ⟨l.toArray⟩)
   | none=>none
 | none=>none
def pI (own:Nat) (x:AV):Option AV:=
 match x with
 | .str s=>if s.size < 9223372036854775808 then some (.ak own (bn s.data.toList)) else none
 | _=>none
def rU (kd:Nat) (zero m k:AV) (ok:Bool) (H:List aa):Option AV:=
 match m with
 | .jE=>if cL kd k k=some true then some (if ok then .tuple [aR zero,.bool false] else aR zero) else none
 | .map id=>match H[id]? with
   | some (.map es)=>match dt kd k es 0 with
     | some (some (_,v))=>some (if ok then .tuple [v.drop,.bool true] else v.drop)
     | some none=>if cL kd k k=some true then some (if ok then .tuple [aR zero,.bool false] else aR zero) else none
     | none=>none
   | _=>none
 | _=>none
def xm (kd:Nat) (m k x:AV) (H:List aa):Option (List aa):=
 match m with
 | .map id=>match H[id]? with
   | some (.map es)=>if k.aW (id + 1)=true∧x.aW (id + 1)=true∧x.val=true then match dt kd k es 0 with
      | some (some (i,_))=>some (H.set id (.map (es.set i (k,aR x))))
      | some none=>if cL kd k k=some true then some (H.set id (.map (es++[(k,aR x)]))) else none
      | none=>none
     else none
   | _=>none
 | _=>none
section
variable {z:AV} {φ:AV→Prop}
theorem Il {op:BinOp} {x y:AV} (h:Ij op x y=some z) (hφ:φ z):dk op x y φ:=by
 unfold Ij at h
 split at h
 ·split at h <;> try cases h
  rename_i hk
  refine ⟨hk,?_⟩
  split at h <;> first | (cases h;exact hφ) | (split at h <;> cases h;exact ⟨by assumption,hφ⟩) | cases h
 ·split at h <;> first | (cases h;exact hφ) | (split at h <;> cases h;exact ⟨by assumption,hφ⟩) | cases h
 ·cases h
theorem z4 {op:BinOp} {x y:AV} (h:vU op x y=some z) (hφ:φ z):ey op x y φ:=by
 unfold vU at h
 split at h <;> try cases h
 split at h <;> try cases h
 rename_i hb
 refine ⟨hb,?_⟩
 split at h <;> cases h <;> exact hφ
theorem xn {neq:Bool} {x y:AV} (h:rR neq x y=some z) (hφ:φ z):dd neq x y φ:=by
 unfold rR at h;unfold dd
 split at h <;> cases h <;> exact hφ
theorem z5 {kd:Nat} {neq:Bool} {x:AV} (h:vV kd neq x=some z) (hφ:φ z):dw kd neq x φ:=by
 unfold vV at h;unfold dw
 split at h <;> cases h
 rename_i hb;rw [hb];exact hφ
theorem LR {op:UnOp} {x:AV} (h:PO op x=some z) (hφ:φ z):Bh op x φ:=by
 unfold PO at h;unfold Bh
 split at h <;> cases h <;> exact hφ
theorem xo {φ:List AV→Prop} {r:List AV} (hφ:φ r):∀ {ps:List (Nat×Nat×AV)} {zs:List AV},tD zs ps=some r→iu zs ps φ
 | [],zs,h=>by simp only [tD] at h;cases h;exact hφ
 | (off,sz,x)::ps,zs,h=>by
   simp only [tD] at h
   split at h <;> try cases h
   rename_i hc
   exact ⟨hc.1,hc.2.1,hc.2.2,xo hφ h⟩
theorem qN {esz:Nat} {φ:List AV→Prop} {r:List AV} (hφ:φ r):∀ {ps:List (Nat×AV)} {zs:List AV},mn zs esz ps=some r→bm zs esz ps φ
 | [],zs,h=>by simp only [mn] at h;cases h;exact hφ
 | (i,x)::ps,zs,h=>by
   simp only [mn] at h
   split at h <;> try cases h
   rename_i hc
   exact ⟨hc.1,hc.2.1,hc.2.2,qN hφ h⟩
theorem oZ {sz:Option Nat} {x:AV} {H:List aa} (h:qL sz x H=some z) (hφ:φ z):aU sz x H φ:=by
 unfold qL at h;unfold aU
 split at h <;> try cases h
 ·split at h <;> try cases h
  rename_i bu
  simp only [bu]
  split at h <;> (split at h <;> cases h) <;> exact ⟨by assumption,hφ⟩
 ·simp only
  split at h <;> (split at h <;> cases h) <;> exact ⟨by assumption,hφ⟩
theorem DP {off:Nat} {sz:Option Nat} {xs:List AV} (h:BL off sz xs=some z) (hφ:φ z):apart off sz xs φ:=by
 unfold BL at h;unfold apart
 split at h <;> split at h <;> cases h
 ·exact ⟨by assumption,hφ⟩
 ·rename_i hc;exact ⟨hc.1,hc.2,hφ⟩
theorem qk {off:Nat} {sz:Option Nat} {x:AV} (h:lj off sz x=some z) (hφ:φ z):al off sz x φ:=by
 unfold lj at h;unfold al
 split at h <;> try cases h
 ·exact hφ
 ·obtain ⟨u,hu,rfl⟩:=zF.1 h
  exact DP hu hφ
theorem z6 {off:Nat} {sz:Option Nat} {x:AV} (h:vW off sz x=some z) (hφ:φ z):fD off sz x φ:=by
 unfold vW at h;unfold fD
 split at h <;> try cases h
 obtain ⟨u,hu,rfl⟩:=zF.1 h
 exact DP hu hφ
theorem xp {esz:Nat} {x:AV} (h:xj esz x=true):∀ own xs,x=.ak own xs→∀ z∈xs,z.cells.length=esz:=by
 intro own xs e z hz
 subst e
 simp only [xj,abo,beq_iff_eq] at h
 exact h z hz
theorem qm {esz:Nat} {x i:AV} (h:lm esz x i=some z) (hφ:φ z):aA esz x i φ:=by
 unfold lm at h;unfold aA
 split at h <;> try cases h
 ·split at h <;> cases h
  rename_i hc;exact ⟨hc.1,hc.2,hφ⟩
 ·split at h <;> cases h
  rename_i hc;exact ⟨hc.1,hc.2,hφ⟩
theorem rV {x i:AV} (h:nl x i=some z) (hφ:φ z):bO x i φ:=by
 unfold nl at h;unfold bO
 split at h <;> try cases h
 split at h <;> cases h
 rename_i hc;exact ⟨hc.1,hc.2,hφ⟩
theorem rW {n:Nat} {x i:AV} (h:nk n x i=some z) (hφ:φ z):b8 n x i φ:=by
 unfold nk at h;unfold b8
 split at h <;> try cases h
 split at h <;> cases h
 rename_i hc;exact ⟨hc.1,hc.2.1,hc.2.2,hφ⟩
theorem DQ {kd:Nat} {x:AV} (h:BM kd x=true):aN kd x:=by
 unfold BM at h;unfold aN
 split at h <;> first | trivial | cases h
theorem Im {x:AV} {H:List aa} (h:Ik x H=some z) (hφ:φ z):fT x H φ:=by
 unfold Ik at h;unfold fT
 split at h <;> try cases h
 ·exact hφ
 ·exact hφ
 ·exact fun _=>hφ
 ·exact hφ
 ·exact hφ
 ·split at h <;> cases h
  rename_i bu
  simp only [bu];exact hφ
theorem uT {x:AV} {i:Nat} (h:pF x i=some z) (hφ:φ z):bH x i φ:=by
 unfold pF at h;unfold bH
 split at h <;> try cases h
 split at h <;> cases h
 exact ⟨by assumption,hφ⟩
theorem rX {x:AV} (h:nr x=some z) (hφ:φ z):b9 x φ:=by
 unfold nr at h;unfold b9
 split at h <;> cases h <;> exact hφ
theorem uU {k:IntKind} {x:AV} (h:pG k x=some z) (hφ:φ z):cJ k x φ:=by
 unfold pG at h;unfold cJ
 split at h <;> cases h <;> exact hφ
theorem LS {big:Bool} {x y:AV} (h:PR big x y=some z) (hφ:φ z):yM big x y φ:=by
 unfold PR at h;unfold yM
 split at h <;> cases h <;> exact hφ
theorem JM {m:Nat} {p x:AV} {H H':List aa} {K:List aa→Prop} (h:BN m p x H=some H') (hK:K H'):iZ m p x H K:=by
 unfold BN at h;unfold iZ
 split at h <;> try cases h
 split at h <;> try cases h
 rename_i bu
 split at h <;> cases h
 rename_i hc
 simp only [bu]
 exact ⟨hc.1,hc.2.1,hc.2.2.1,hc.2.2.2.1,hc.2.2.2.2,hK⟩
theorem DR {p x:AV} {H H':List aa} {K:List aa→Prop} (h:tE p x H=some H') (hK:K H'):eB p x H K:=by
 unfold tE at h;unfold eB
 split at h <;> try cases h
 split at h <;> try cases h
 rename_i bu
 split at h <;> cases h
 rename_i hc
 simp only [bu]
 exact ⟨hc.1,hc.2.1,hc.2.2,hK⟩
theorem GA {esz bytes:Nat} {s x:AV} {r:List AV} {φ:List AV→Prop} (h:xk esz bytes s x=some r) (hφ:φ r):bp esz bytes s x φ:=by
 unfold xk at h;unfold bp
 split at h <;> try cases h
 rename_i xs ys h1 h2
 split at h <;> cases h
 rename_i hc
 simp only [h1,h2]
 refine ⟨hc.1,?_,hφ⟩
 intro y hy
 have:=abo.1 hc.2 y hy
 simpa using this
theorem JN {esz bytes:Nat} {x n:AV} {H H':List aa} {K:AV→List aa→Prop} (h:BO bytes x n H=some (z,H')) (hK:K z H'):fG esz bytes x n H K:=by
 unfold BO at h;unfold fG
 split at h <;> try cases h
 split at h <;> cases h
 rename_i hc
 exact ⟨hc.1,hc.2.1,hc.2.2,hK⟩
theorem z7 {esz bytes:Nat} {n:AV} (h:vX esz bytes n=some z) (hφ:φ z):jJ esz bytes n φ:=by
 unfold vX at h;unfold jJ
 split at h <;> try cases h
 split at h <;> cases h
 rename_i hc
 exact ⟨hc.1,hc.2,hφ⟩
theorem nu {x:Option AV} {d k:Nat} {φ:Nat→Prop} (h:rS x d=some k) (hφ:φ k):dV x d φ:=by
 unfold rS at h;unfold dV
 split at h
 ·cases h;exact hφ
 ·split at h <;> cases h
  rename_i hc
  exact ⟨hc,hφ⟩
 ·cases h
theorem JO {esz:Nat} {x:AV} {lo hi mx:Option AV} (h:BP esz x lo hi mx=some z) (hφ:φ z):ff esz x lo hi mx φ:=by
 unfold BP at h;unfold ff
 split at h <;> try cases h
 rename_i xs eK
 simp only [eK]
 split at h <;> try cases h
 rename_i hh ll h1 h2
 split at h <;> try cases h
 rename_i hc
 refine nu h1 (nu h2 ⟨hc.1,hc.2,?_⟩)
 split at h
 ·cases h;exact hφ
 ·split at h <;> try cases h
  rename_i m hm
  split at h <;> cases h
  rename_i hc
  refine ⟨hc.1,nu hm ⟨hc.2.1,?_,hφ⟩⟩
  intro y hy
  have:=abo.1 hc.2.2 y hy
  simpa using this
theorem LU {esz:Nat} {d s:AV} {H H':List aa} {K:AV→List aa→Prop} (h:Gz esz d s H=some (z,H')) (hK:K z H'):kC esz d s H K:=by
 unfold Gz at h;unfold kC
 split at h <;> try cases h
 rename_i hs
 split at h <;> try cases h
 rename_i bu
 split at h <;> cases h
 rename_i hc
 simp only [hs,bu]
 exact ⟨hc.1,hc.2.1,hc.2.2,hK⟩
theorem xq {esz:Nat} {x:AV} {H H':List aa} {K:AV→List aa→Prop} (h:qM esz x H=some (z,H')) (hK:K z H'):ft esz x H K:=by
 unfold qM at h;unfold ft
 split at h
 ·split at h <;> try cases h
  rename_i bu
  split at h <;> cases h
  rename_i hc
  simp only [dx,bu]
  exact ⟨hc.1,hc.2.1,hc.2.2.1,hc.2.2.2,hK⟩
 ·cases h
 ·cases h
 ·cases h
 ·cases h
 ·rename_i h1 h2 h3 h4 h5
  cases h
  cases x <;> first | exact hK | exact absurd rfl h2 | exact absurd rfl h5 | exact absurd rfl (h1 _ _ _ _) | exact absurd rfl (h3 _) | exact absurd rfl (h4 _ _)
theorem JP {esz:Nat} {x:AV} {H H':List aa} {K:AV→List aa→Prop} (hx:∀ xs,x≠.agg xs) (h:qM esz x H=some (z,H')) (hK:K z H'):dx esz x H K:=by
 have:=xq (K:=K) h hK
 unfold ft at this
 split at this
 ·exact absurd rfl (hx _)
 ·cases h
 ·exact this
theorem z8 {esz:Nat}:∀ {xs:List AV} {H H':List aa} {ys:List AV} {K:List AV→List aa→Prop},ns esz xs H=some (ys,H')→K ys H'→kD esz xs H K
 | [],H,H',ys,K,h,hK=>by simp only [ns] at h;cases h;exact hK
 | x::r,H,H',ys,K,h,hK=>by
   have hx:∀ xs,x≠.agg xs:=fun xs e=>by subst e;simp [ns] at h
   have h':(match qM esz x H with
    | some (y,H')=>match ns esz r H' with
      | some (ys,H'')=>some (y::ys,H'')
      | none=>none
    | none=>none)=some (ys,H'):=by
    cases x <;> first | exact absurd rfl (hx _) | (simpa only [ns] using h)
   split at h' <;> try cases h'
   rename_i y H1 h1
   split at h' <;> cases h'
   rename_i ys' h2
   exact JP (K:=fun y H'=>kD esz r H' fun ys H''=>K (y::ys) H'') hx h1 (z8 (K:=fun ys H''=>K (y::ys) H'') h2 hK)
theorem JQ {esz:Nat} {x:AV} {H H':List aa} {K:AV→List aa→Prop} (h:BQ esz x H=some (z,H')) (hK:K z H'):ft esz x H K:=by
 unfold BQ at h
 split at h
 ·split at h <;> cases h
  rename_i ys hs
  exact z8 (K:=fun ys H'=>K (.agg ys) H') hs hK
 ·exact xq h hK
theorem xr {esz:Nat} {x:AV} {lo hi mx:Option AV} (h:rT esz x lo hi mx=some z) (hφ:φ z):bo esz x lo hi mx φ:=by
 unfold rT at h;unfold bo
 split at h
 ·split at h <;> try cases h
  rename_i h1 h2
  split at h <;> cases h
  rename_i hc
  simp only
  unfold iw
  exact nu h1 (nu h2 ⟨hc.1,hc.2,hφ⟩)
 ·rename_i eS
  split at h <;> try cases h
  rename_i hl
  split
  ·exact absurd rfl (eS _ _ _ _)
  ·exact ⟨xp hl,JO h hφ⟩
theorem rY {x:AV} {lo hi:Option AV} (h:nt x lo hi=some z) (hφ:φ z):cu x lo hi φ:=by
 unfold nt at h;unfold cu
 split at h <;> try cases h
 split at h <;> try cases h
 rename_i hh ll h1 h2
 split at h <;> cases h
 rename_i hc
 exact nu h1 (nu h2 ⟨hc.1,hc.2,hφ⟩)
theorem uV {x:AV} (h:pH x=some z) (hφ:φ z):gv x φ:=by
 unfold pH at h;unfold gv
 split at h <;> cases h <;> exact hφ
theorem DS:∀ {ys:List AV} {l:List UInt8},xl ys=some l→ys=bn l
 | [],l,h=>by simp only [xl] at h;cases h;rfl
 | y::ys,l,h=>by
   unfold xl at h
   split at h
   ·rename_i e;cases e
   ·rename_i n r e
    cases e
    split at h <;> try cases h
    rename_i l' hl
    split at h <;> cases h
    rename_i hn
    have:=DS hl
    subst this
    simp only [bn,List.map_cons]
    congr 1
    have:(UInt8.ofNat n.toNat).toNat=n.toNat:=by
     rw [UInt8.toNat_ofNat']
     exact Nat.mod_eq_of_lt (by have:(2:Nat)^8=256:=rfl
                                omega)
    rw [this]
    congr 1
    omega
   ·cases h
theorem z9 {x:AV} (h:vY x=some z) (hφ:φ z):kA x φ:=by
 unfold vY at h;unfold kA
 split at h <;> try cases h
 rename_i ys ru
 split at h <;> cases h
 rename_i l hl
 simp only [ru]
 exact ⟨l,DS hl,hφ⟩
theorem uW {own:Nat} {x:AV} (h:pI own x=some z) (hφ:φ z):fH own x φ:=by
 unfold pI at h;unfold fH
 split at h <;> try cases h
 split at h <;> cases h
 exact ⟨by assumption,hφ⟩
theorem xt {kd:Nat} {zero m k:AV} {ok:Bool} {H:List aa} (h:rU kd zero m k ok H=some z) (hφ:φ z):cB kd zero m k ok H φ:=by
 unfold rU at h;unfold cB
 split at h <;> try cases h
 ·split at h <;> cases h
  exact ⟨by assumption,hφ⟩
 ·split at h <;> try cases h
  rename_i bu
  simp only [bu]
  split at h
  ·rename_i hf;cases h;simp only [hf];exact hφ
  ·rename_i hf
   split at h <;> cases h
   simp only [hf]
   exact ⟨by assumption,hφ⟩
  ·cases h
theorem GB {kd:Nat} {m k x:AV} {H H':List aa} {K:List aa→Prop} (h:xm kd m k x H=some H') (hK:K H'):fW kd m k x H K:=by
 unfold xm at h;unfold fW
 split at h <;> try cases h
 split at h <;> try cases h
 rename_i bu
 simp only [bu]
 split at h <;> try cases h
 rename_i hc
 refine ⟨hc.1,hc.2.1,hc.2.2,?_⟩
 split at h
 ·rename_i hf;cases h;simp only [hf];exact hK
 ·rename_i hf
  split at h <;> cases h
  simp only [hf]
  exact ⟨by assumption,hK⟩
 ·cases h
end
end Go.aK
