/- A memory-free reading of the model's values (part 19): operations that are run. -/
import Derived.Test.YtljchnfgjdjobaaGreatVac
set_option linter.unusedVariables false
set_option linter.unusedSimpArgs false
set_option linter.defProp false
set_option linter.unusedSectionVars false
namespace Go.aK
open Go
def af1:AV→Option Bool | .bool b=>some b | _=>none
def Ie (op:BinOp) (x y:AV):Option AV:=
 match x,y with
 | .int k a,.int k' b=>if k=k' then
    match op with
    | .add=>some (.int k (k.wrap (a + b)))
    | .sub=>some (.int k (k.wrap (a - b)))
    | .mul=>some (.int k (k.wrap (a * b)))
    | .quo=>if b≠0 then some (.int k (k.wrap (a.tdiv b))) else none
    | .rem=>if b≠0 then some (.int k (a.tmod b)) else none
    | .and=>some (.int k (k.wrap (BitVec.ofInt k.bits a &&& BitVec.ofInt k.bits b).toNat))
    | .or=>some (.int k (k.wrap (BitVec.ofInt k.bits a ||| BitVec.ofInt k.bits b).toNat))
    | .eql=>some (.bool (decide (a=b)))
    | .neq=>some (.bool (decide (a≠b)))
    | .lss=>some (.bool (decide (a < b)))
    | .leq=>some (.bool (decide (a≤b)))
    | .gtr=>some (.bool (decide (b < a)))
    | .geq=>some (.bool (decide (b≤a)))
    | _=>none
   else none
 | .str a,.str b=>
   match op with
   | .add=>if a.size + b.size < 9223372036854775808 then some (.str (a++b)) else none
   | .eql=>some (.bool (decide (a=b)))
   | .neq=>some (.bool (decide (a≠b)))
   | .lss=>some (.bool (Op.bytesLess a.data.toList b.data.toList))
   | _=>none
 | _,_=>none
def wi (op:BinOp) (x y:AV):Option AV:=
 match x,y with
 | .int k a,.int _ b=>if 0≤b then
    match op with
    | .shl=>some (.int k (k.wrap (a * 2 ^ (min b.toNat k.bits))))
    | .shr=>some (.int k (a.fdiv (2 ^ (min b.toNat k.bits))))
    | _=>none
   else none
 | _,_=>none
def sj (neq:Bool) (x y:AV):Option AV:=
 match x,y with
 | .bool a,.bool b=>some (.bool (if neq then decide (a≠b) else decide (a=b)))
 | _,_=>none
def wj (kd:Nat) (neq:Bool) (x:AV):Option AV:=
 match isNil kd x with
 | some b=>some (.bool (if neq then !b else b))
 | none=>none
def Pf (op:UnOp) (x:AV):Option AV:=
 match op,x with
 | .not,.bool b=>some (.bool (!b))
 | .neg,.int k n=>some (.int k (k.wrap (0 - n)))
 | _,_=>none
def tL (zs:List AV):List (Nat×Nat×AV)→Option (List AV)
 | []=>some zs
 | (off,sz,x)::r=>if x.val=true∧x.cells.length=sz∧off + sz≤zs.length then tL (ah zs off (x.cells.map AV.ab)) r else none
def ms (xs:List AV) (esz:Nat):List (Nat×AV)→Option (List AV)
 | []=>some xs
 | (i,x)::r=>if x.val=true∧x.cells.length=esz∧i < xs.length then ms (xs.set i (a7 x)) esz r else none
def qR (sz:Option Nat) (x:AV) (H:List aa):Option AV:=
 match x with
 | .ptr id off=>match H[id]? with
   | some (.cells es)=>match sz with
     | some m=>if off + m≤es.length then some (.agg (((es.drop off).take m).map AV.drop)) else none
     | none=>if off < es.length then some (es.getD off .any).ab else none
   | _=>none
 | .ai y=>match sz with
   | some m=>if y.cells.length=m then some (.agg y.cells) else none
   | none=>if y.one=true then some y.ab else none
 | _=>none
def BQ (off:Nat) (sz:Option Nat) (xs:List AV):Option AV:=
 match sz with
 | some m=>if off + m≤xs.length then some (.agg ((xs.drop off).take m)) else none
 | none=>if off < xs.length∧(xs.getD off .any).one=true then some (xs.getD off .any) else none
def lA (off:Nat) (sz:Option Nat) (x:AV):Option AV:=
 match x with
 | .ptr id o=>some (.ptr id (o + off))
 | .ai y=>(BQ off sz y.cells).map .ai
 | _=>none
def wm (off:Nat) (sz:Option Nat) (x:AV):Option AV:=
 match x with
 | .agg xs=>(BQ off sz xs).map AV.drop
 | _=>none
def xp (esz:Nat) (x:AV):Bool:=
 match x with
 | .al _ xs=>xs.all fun z=>z.cells.length == esz
 | _=>true
def lB (esz:Nat) (x i:AV):Option AV:=
 match x,i with
 | .al _ xs,.int _ i=>if 0≤i∧i.toNat < xs.length then some (.ai (xs.getD i.toNat .any)) else none
 | .aZ id off len _,.int _ i=>if 0≤i∧i.toNat < len then some (.ptr id (off + i.toNat * esz)) else none
 | _,_=>none
def nr (n:Nat) (x i:AV):Option AV:=
 match x,i with
 | .agg xs,.int _ i=>if xs.length=n∧0≤i∧i.toNat < n then some (xs.getD i.toNat .any).drop else none
 | _,_=>none
def ns (x i:AV):Option AV:=
 match x,i with
 | .str s,.int _ i=>if 0≤i∧i.toNat < s.size then some (.int .u8 (s.data.toList.getD i.toNat 0).toNat) else none
 | _,_=>none
def BR (kd:Nat) (x:AV):Bool:=
 match kd,x with
 | 0,.str _=>true
 | 1,.ag=>true
 | 1,.al _ _=>true
 | 1,.aZ _ _ _ _=>true
 | 2,.jN=>true
 | 2,.map _=>true
 | _,_=>false
def Ig (x:AV) (H:List aa):Option AV:=
 match x with
 | .str s=>some (.int .i64 s.size)
 | .ag=>some (.int .i64 0)
 | .al _ xs=>some (.int .i64 xs.length)
 | .aZ _ _ len _=>some (.int .i64 len)
 | .jN=>some (.int .i64 0)
 | .map id=>match H[id]? with
   | some (.map es)=>some (.int .i64 es.length)
   | _=>none
 | _=>none
def pD (x:AV) (i:Nat):Option AV:=
 match x with
 | .tuple xs=>if i < xs.length then some (xs.getD i .any).ab else none
 | _=>none
def nu (x:AV):Option AV:=
 match x with
 | .ptr .. | .ai _=>some x
 | .fn (.func _) _ _=>some x
 | _=>none
def pE (k:IntKind) (x:AV):Option AV:=
 match x with
 | .int _ n=>some (.int k (k.wrap n))
 | _=>none
def Pg (big:Bool) (x y:AV):Option AV:=
 match x,y with
 | .int k a,.int _ b=>some (.int k (if big then (if b > a then b else a) else (if b < a then b else a)))
 | _,_=>none
def BS (m:Nat) (p x:AV) (H:List aa):Option (List aa):=
 match p with
 | .ptr id off=>match H[id]? with
   | some (.cells es)=>if x.val=true∧x.cells.length=m∧off + m≤es.length∧x.cells.all AV.one=true∧aj (id + 1) (x.cells.map AV.ab)=true then
      some (H.set id (.cells (ah es off (x.cells.map AV.ab)))) else none
   | _=>none
 | _=>none
def tM (p x:AV) (H:List aa):Option (List aa):=
 match p with
 | .ptr id off=>match H[id]? with
   | some (.cells es)=>if off < es.length∧x.one=true∧x.bc (id + 1)=true then some (H.set id (.cells (es.set off x))) else none
   | _=>none
 | _=>none
def xq (esz bytes:Nat) (s x:AV):Option (List AV):=
 match nS esz s,dB x with
 | some xs,some ys=>if (xs.length + ys.length) * bytes≤140737488355328∧(ys.all fun y=>y.cells.length == esz && y.cells.all AV.one)=true then some (xs++ys) else none
 | _,_=>none
def BT (bytes:Nat) (z n:AV) (H:List aa):Option (AV×List aa):=
 match n with
 | .int .i64 n=>if 0≤n∧n.toNat * bytes≤140737488355328∧aj (H.length + 1) (flat (List.replicate n.toNat (bS z)))=true then
    some (.aZ H.length 0 n.toNat n.toNat,H++[.cells (flat (List.replicate n.toNat (bS z)))]) else none
 | _=>none
def wo (esz bytes:Nat) (n:AV):Option AV:=
 match n with
 | .int .i64 n=>if 0≤n∧n.toNat * bytes≤140737488355328 then some (.al esz []) else none
 | _=>none
def sk (x:Option AV) (d:Nat):Option Nat:=
 match x with
 | none=>some d
 | some (.int _ i)=>if 0≤i then some i.toNat else none
 | _=>none
def BU (esz:Nat) (x:AV) (lo hi mx:Option AV):Option AV:=
 match dB x with
 | some xs=>match sk hi xs.length,sk lo 0 with
   | some h,some l=>if l≤h∧h≤xs.length then
      match mx with
      | none=>some (.al 0 ((xs.take h).drop l))
      | some m=>match sk (some m) 0 with
        | some m=>if hi.isSome=true∧m=h∧(xs.all fun y=>y.cells.length == esz)=true then some (.al esz ((xs.take h).drop l)) else none
        | none=>none
     else none
   | _,_=>none
 | none=>none
def Gk (esz:Nat) (d s:AV) (H:List aa):Option (AV×List aa):=
 match d,wX esz s H with
 | .aZ id off len _,some (n,ys)=>match H[id]? with
   | some (.cells es)=>if (ys.take (min n len * esz)).all AV.one=true∧off + min n len * esz≤es.length∧aj (id + 1) ((ys.take (min n len * esz)).map AV.ab)=true then
      some (.int .i64 (min n len:Nat),H.set id (.cells (ah es off ((ys.take (min n len * esz)).map AV.ab)))) else none
   | _=>none
 | _,_=>none
def qS (esz:Nat) (x:AV) (H:List aa):Option (AV×List aa):=
 match x with
 | .aZ id off len cap=>match H[id]? with
   | some (.cells es)=>if 0 < esz∧len≤cap∧off + len * esz≤es.length∧(es.drop off).all AV.one=true then some (.al 0 (chunks esz len (es.drop off)),H.set id .dead) else none
   | _=>none
 | .any=>none
 | .agg _=>none
 | .ptr _ _=>none
 | .om=>none
 | x=>some (x.ab,H)
def nv (esz:Nat):List AV→List aa→Option (List AV×List aa)
 | [],H=>some ([],H)
 | .agg _::_,_=>none
 | x::r,H=>match qS esz x H with
   | some (y,H')=>match nv esz r H' with
     | some (ys,H'')=>some (y::ys,H'')
     | none=>none
   | none=>none
def BV (esz:Nat) (x:AV) (H:List aa):Option (AV×List aa):=
 match x with
 | .agg xs=>match nv esz xs H with
   | some (ys,H')=>some (.agg ys,H')
   | none=>none
 | x=>qS esz x H
def sl (esz:Nat) (x:AV) (lo hi mx:Option AV):Option AV:=
 match x with
 | .aZ id off len cap=>match mx,sk hi len,sk lo 0 with
   | none,some h,some l=>if l≤h∧h≤cap then some (.aZ id (if cap=l then off else off + l * esz) (h - l) (cap - l)) else none
   | _,_,_=>none
 | x=>if xp esz x=true then BU esz x lo hi mx else none
def nw (x:AV) (lo hi:Option AV):Option AV:=
 match x with
 | .str s=>match sk hi s.size,sk lo 0 with
   | some h,some l=>if l≤h∧h≤s.size then some (.str (s.extract l h)) else none
   | _,_=>none
 | _=>none
def pF (x:AV):Option AV:=match x with | .str s=>some (.str s) | _=>none
def xr:List AV→Option (List UInt8)
 | []=>some []
 | .int .u8 n::r=>match xr r with
   | some l=>if 0≤n∧n < 256 then some (UInt8.ofNat n.toNat::l) else none
   | none=>none
 | _=>none
def wu (x:AV):Option AV:=
 match dB x with
 | some ys=>match xr ys with
   | some l=>some (.str ⟨l.toArray⟩)
   | none=>none
 | none=>none
def pG (own:Nat) (x:AV):Option AV:=
 match x with
 | .str s=>if s.size < 9223372036854775808 then some (.al own (bp s.data.toList)) else none
 | _=>none
def sm (kd:Nat) (zero m k:AV) (ok:Bool) (H:List aa):Option AV:=
 match m with
 | .jN=>if dk kd k k=some true then some (if ok then .tuple [a7 zero,.bool false] else a7 zero) else none
 | .map id=>match H[id]? with
   | some (.map es)=>match eG kd k es 0 with
     | some (some (_,v))=>some (if ok then .tuple [v.drop,.bool true] else v.drop)
     | some none=>if dk kd k k=some true then some (if ok then .tuple [a7 zero,.bool false] else a7 zero) else none
     | none=>none
   | _=>none
 | _=>none
def xt (kd:Nat) (m k x:AV) (H:List aa):Option (List aa):=
 match m with
 | .map id=>match H[id]? with
   | some (.map es)=>if k.bc (id + 1)=true∧x.bc (id + 1)=true∧x.val=true then match eG kd k es 0 with
      | some (some (i,_))=>some (H.set id (.map (es.set i (k,a7 x))))
      | some none=>if dk kd k k=some true then some (H.set id (.map (es++[(k,a7 x)]))) else none
      | none=>none
     else none
   | _=>none
 | _=>none
section
variable {z:AV} {φ:AV→Prop}
theorem Ih {op:BinOp} {x y:AV} (h:Ie op x y=some z) (hφ:φ z):dt op x y φ:=by
 unfold Ie at h
 split at h
 ·split at h <;> try cases h
  rename_i hk
  refine ⟨hk,?_⟩
  split at h <;> first | (cases h;exact hφ) | (split at h <;> cases h;exact ⟨by assumption,hφ⟩) | cases h
 ·split at h <;> first | (cases h;exact hφ) | (split at h <;> cases h;exact ⟨by assumption,hφ⟩) | cases h
 ·cases h
theorem Ac {op:BinOp} {x y:AV} (h:wi op x y=some z) (hφ:φ z):eE op x y φ:=by
 unfold wi at h
 split at h <;> try cases h
 split at h <;> try cases h
 rename_i hb
 refine ⟨hb,?_⟩
 split at h <;> cases h <;> exact hφ
theorem xu {neq:Bool} {x y:AV} (h:sj neq x y=some z) (hφ:φ z):dg neq x y φ:=by
 unfold sj at h;unfold dg
 split at h <;> cases h <;> exact hφ
theorem Ad {kd:Nat} {neq:Bool} {x:AV} (h:wj kd neq x=some z) (hφ:φ z):dz kd neq x φ:=by
 unfold wj at h;unfold dz
 split at h <;> cases h
 rename_i hb;rw [hb];exact hφ
theorem LA {op:UnOp} {x:AV} (h:Pf op x=some z) (hφ:φ z):Bl op x φ:=by
 unfold Pf at h;unfold Bl
 split at h <;> cases h <;> exact hφ
theorem xv {φ:List AV→Prop} {r:List AV} (hφ:φ r):∀ {ps:List (Nat×Nat×AV)} {zs:List AV},tL zs ps=some r→iB zs ps φ
 | [],zs,h=>by simp only [tL] at h;cases h;exact hφ
 | (off,sz,x)::ps,zs,h=>by
   simp only [tL] at h
   split at h <;> try cases h
   rename_i hc
   exact ⟨hc.1,hc.2.1,hc.2.2,xv hφ h⟩
theorem qT {esz:Nat} {φ:List AV→Prop} {r:List AV} (hφ:φ r):∀ {ps:List (Nat×AV)} {zs:List AV},ms zs esz ps=some r→bw zs esz ps φ
 | [],zs,h=>by simp only [ms] at h;cases h;exact hφ
 | (i,x)::ps,zs,h=>by
   simp only [ms] at h
   split at h <;> try cases h
   rename_i hc
   exact ⟨hc.1,hc.2.1,hc.2.2,qT hφ h⟩
theorem oV {sz:Option Nat} {x:AV} {H:List aa} (h:qR sz x H=some z) (hφ:φ z):aV sz x H φ:=by
 unfold qR at h;unfold aV
 split at h <;> try cases h
 ·split at h <;> try cases h
  rename_i bn
  simp only [bn]
  split at h <;> (split at h <;> cases h) <;> exact ⟨by assumption,hφ⟩
 ·simp only
  split at h <;> (split at h <;> cases h) <;> exact ⟨by assumption,hφ⟩
theorem DN {off:Nat} {sz:Option Nat} {xs:List AV} (h:BQ off sz xs=some z) (hφ:φ z):apart off sz xs φ:=by
 unfold BQ at h;unfold apart
 split at h <;> split at h <;> cases h
 ·exact ⟨by assumption,hφ⟩
 ·rename_i hc;exact ⟨hc.1,hc.2,hφ⟩
theorem qw {off:Nat} {sz:Option Nat} {x:AV} (h:lA off sz x=some z) (hφ:φ z):ap off sz x φ:=by
 unfold lA at h;unfold ap
 split at h <;> try cases h
 ·exact hφ
 ·obtain ⟨u,hu,rfl⟩:=yR.1 h
  exact DN hu hφ
theorem Ae {off:Nat} {sz:Option Nat} {x:AV} (h:wm off sz x=some z) (hφ:φ z):fz off sz x φ:=by
 unfold wm at h;unfold fz
 split at h <;> try cases h
 obtain ⟨u,hu,rfl⟩:=yR.1 h
 exact DN hu hφ
theorem xw {esz:Nat} {x:AV} (h:xp esz x=true):∀ own xs,x=.al own xs→∀ z∈xs,z.cells.length=esz:=by
 intro own xs e z hz
 subst e
 simp only [xp,abF,beq_iff_eq] at h
 exact h z hz
theorem qx {esz:Nat} {x i:AV} (h:lB esz x i=some z) (hφ:φ z):aC esz x i φ:=by
 unfold lB at h;unfold aC
 split at h <;> try cases h
 ·split at h <;> cases h
  rename_i hc;exact ⟨hc.1,hc.2,hφ⟩
 ·split at h <;> cases h
  rename_i hc;exact ⟨hc.1,hc.2,hφ⟩
theorem sn {x i:AV} (h:ns x i=some z) (hφ:φ z):bQ x i φ:=by
 unfold ns at h;unfold bQ
 split at h <;> try cases h
 split at h <;> cases h
 rename_i hc;exact ⟨hc.1,hc.2,hφ⟩
theorem so {n:Nat} {x i:AV} (h:nr n x i=some z) (hφ:φ z):ch n x i φ:=by
 unfold nr at h;unfold ch
 split at h <;> try cases h
 split at h <;> cases h
 rename_i hc;exact ⟨hc.1,hc.2.1,hc.2.2,hφ⟩
theorem DO {kd:Nat} {x:AV} (h:BR kd x=true):aO kd x:=by
 unfold BR at h;unfold aO
 split at h <;> first | trivial | cases h
theorem Ii {x:AV} {H:List aa} (h:Ig x H=some z) (hφ:φ z):fg x H φ:=by
 unfold Ig at h;unfold fg
 split at h <;> try cases h
 ·exact hφ
 ·exact hφ
 ·exact fun _=>hφ
 ·exact hφ
 ·exact hφ
 ·split at h <;> cases h
  rename_i bn
  simp only [bn];exact hφ
theorem vi {x:AV} {i:Nat} (h:pD x i=some z) (hφ:φ z):bM x i φ:=by
 unfold pD at h;unfold bM
 split at h <;> try cases h
 split at h <;> cases h
 exact ⟨by assumption,hφ⟩
theorem sq {x:AV} (h:nu x=some z) (hφ:φ z):cj x φ:=by
 unfold nu at h;unfold cj
 split at h <;> cases h <;> exact hφ
theorem vj {k:IntKind} {x:AV} (h:pE k x=some z) (hφ:φ z):cN k x φ:=by
 unfold pE at h;unfold cN
 split at h <;> cases h <;> exact hφ
theorem LB {big:Bool} {x y:AV} (h:Pg big x y=some z) (hφ:φ z):yZ big x y φ:=by
 unfold Pg at h;unfold yZ
 split at h <;> cases h <;> exact hφ
theorem JJ {m:Nat} {p x:AV} {H H':List aa} {K:List aa→Prop} (h:BS m p x H=some H') (hK:K H'):jf m p x H K:=by
 unfold BS at h;unfold jf
 split at h <;> try cases h
 split at h <;> try cases h
 rename_i bn
 split at h <;> cases h
 rename_i hc
 simp only [bn]
 exact ⟨hc.1,hc.2.1,hc.2.2.1,hc.2.2.2.1,hc.2.2.2.2,hK⟩
theorem DP {p x:AV} {H H':List aa} {K:List aa→Prop} (h:tM p x H=some H') (hK:K H'):eF p x H K:=by
 unfold tM at h;unfold eF
 split at h <;> try cases h
 split at h <;> try cases h
 rename_i bn
 split at h <;> cases h
 rename_i hc
 simp only [bn]
 exact ⟨hc.1,hc.2.1,hc.2.2,hK⟩
theorem Gl {esz bytes:Nat} {s x:AV} {r:List AV} {φ:List AV→Prop} (h:xq esz bytes s x=some r) (hφ:φ r):bF esz bytes s x φ:=by
 unfold xq at h;unfold bF
 split at h <;> try cases h
 rename_i xs ys h1 h2
 split at h <;> cases h
 rename_i hc
 simp only [h1,h2]
 refine ⟨hc.1,?_,hφ⟩
 intro y hy
 have:=abF.1 hc.2 y hy
 simpa using this
theorem JK {esz bytes:Nat} {x n:AV} {H H':List aa} {K:AV→List aa→Prop} (h:BT bytes x n H=some (z,H')) (hK:K z H'):fC esz bytes x n H K:=by
 unfold BT at h;unfold fC
 split at h <;> try cases h
 split at h <;> cases h
 rename_i hc
 exact ⟨hc.1,hc.2.1,hc.2.2,hK⟩
theorem Af {esz bytes:Nat} {n:AV} (h:wo esz bytes n=some z) (hφ:φ z):jQ esz bytes n φ:=by
 unfold wo at h;unfold jQ
 split at h <;> try cases h
 split at h <;> cases h
 rename_i hc
 exact ⟨hc.1,hc.2,hφ⟩
theorem nz {x:Option AV} {d k:Nat} {φ:Nat→Prop} (h:sk x d=some k) (hφ:φ k):eo x d φ:=by
 unfold sk at h;unfold eo
 split at h
 ·cases h;exact hφ
 ·split at h <;> cases h
  rename_i hc
  exact ⟨hc,hφ⟩
 ·cases h
theorem JL {esz:Nat} {x:AV} {lo hi mx:Option AV} (h:BU esz x lo hi mx=some z) (hφ:φ z):fD esz x lo hi mx φ:=by
 unfold BU at h;unfold fD
 split at h <;> try cases h
 rename_i xs fx
 simp only [fx]
 split at h <;> try cases h
 rename_i hh ll h1 h2
 split at h <;> try cases h
 rename_i hc
 refine nz h1 (nz h2 ⟨hc.1,hc.2,?_⟩)
 split at h
 ·cases h;exact hφ
 ·split at h <;> try cases h
  rename_i m hm
  split at h <;> cases h
  rename_i hc
  refine ⟨hc.1,nz hm ⟨hc.2.1,?_,hφ⟩⟩
  intro y hy
  have:=abF.1 hc.2.2 y hy
  simpa using this
theorem LC {esz:Nat} {d s:AV} {H H':List aa} {K:AV→List aa→Prop} (h:Gk esz d s H=some (z,H')) (hK:K z H'):kF esz d s H K:=by
 unfold Gk at h;unfold kF
 split at h <;> try cases h
 rename_i hs
 split at h <;> try cases h
 rename_i bn
 split at h <;> cases h
 rename_i hc
 simp only [hs,bn]
 exact ⟨hc.1,hc.2.1,hc.2.2,hK⟩
theorem xx {esz:Nat} {x:AV} {H H':List aa} {K:AV→List aa→Prop} (h:qS esz x H=some (z,H')) (hK:K z H'):fY esz x H K:=by
 unfold qS at h;unfold fY
 split at h
 ·split at h <;> try cases h
  rename_i bn
  split at h <;> cases h
  rename_i hc
  simp only [dZ,bn]
  exact ⟨hc.1,hc.2.1,hc.2.2.1,hc.2.2.2,hK⟩
 ·cases h
 ·cases h
 ·cases h
 ·cases h
 ·rename_i h1 h2 h3 h4 h5
  cases h
  cases x <;> first | exact hK | exact absurd rfl h2 | exact absurd rfl h5 | exact absurd rfl (h1 _ _ _ _) | exact absurd rfl (h3 _) | exact absurd rfl (h4 _ _)
theorem JM {esz:Nat} {x:AV} {H H':List aa} {K:AV→List aa→Prop} (hx:∀ xs,x≠.agg xs) (h:qS esz x H=some (z,H')) (hK:K z H'):dZ esz x H K:=by
 have:=xx (K:=K) h hK
 unfold fY at this
 split at this
 ·exact absurd rfl (hx _)
 ·cases h
 ·exact this
theorem Ag {esz:Nat}:∀ {xs:List AV} {H H':List aa} {ys:List AV} {K:List AV→List aa→Prop},nv esz xs H=some (ys,H')→K ys H'→kH esz xs H K
 | [],H,H',ys,K,h,hK=>by simp only [nv] at h;cases h;exact hK
 | x::r,H,H',ys,K,h,hK=>by
   have hx:∀ xs,x≠.agg xs:=fun xs e=>by subst e;simp [nv] at h
   have h':(match qS esz x H with
    | some (y,H')=>match nv esz r H' with
      | some (ys,H'')=>some (y::ys,H'')
      | none=>none
    | none=>none)=some (ys,H'):=by
    cases x <;> first | exact absurd rfl (hx _) | (simpa only [nv] using h)
   split at h' <;> try cases h'
   rename_i y H1 h1
   split at h' <;> cases h'
   rename_i ys' h2
   exact JM (K:=fun y H'=>kH esz r H' fun ys H''=>K (y::ys) H'') hx h1 (Ag (K:=fun ys H''=>K (y::ys) H'') h2 hK)
theorem JN {esz:Nat} {x:AV} {H H':List aa} {K:AV→List aa→Prop} (h:BV esz x H=some (z,H')) (hK:K z H'):fY esz x H K:=by
 unfold BV at h
 split at h
 ·split at h <;> cases h
  rename_i ys hs
  exact Ag (K:=fun ys H'=>K (.agg ys) H') hs hK
 ·exact xx h hK
theorem xy {esz:Nat} {x:AV} {lo hi mx:Option AV} (h:sl esz x lo hi mx=some z) (hφ:φ z):bA esz x lo hi mx φ:=by
 unfold sl at h;unfold bA
 split at h
 ·split at h <;> try cases h
  rename_i h1 h2
  split at h <;> cases h
  rename_i hc
  simp only
  unfold iE
  exact nz h1 (nz h2 ⟨hc.1,hc.2,hφ⟩)
 ·rename_i dJ
  split at h <;> try cases h
  rename_i hl
  split
  ·exact absurd rfl (dJ _ _ _ _)
  ·exact ⟨xw hl,JL h hφ⟩
theorem sr {x:AV} {lo hi:Option AV} (h:nw x lo hi=some z) (hφ:φ z):cA x lo hi φ:=by
 unfold nw at h;unfold cA
 split at h <;> try cases h
 split at h <;> try cases h
 rename_i hh ll h1 h2
 split at h <;> cases h
 rename_i hc
 exact nz h1 (nz h2 ⟨hc.1,hc.2,hφ⟩)
theorem vk {x:AV} (h:pF x=some z) (hφ:φ z):gv x φ:=by
 unfold pF at h;unfold gv
 split at h <;> cases h <;> exact hφ
theorem DQ:∀ {ys:List AV} {l:List UInt8},xr ys=some l→ys=bp l
 | [],l,h=>by simp only [xr] at h;cases h;rfl
 | y::ys,l,h=>by
   unfold xr at h
   split at h
   ·rename_i e;cases e
   ·rename_i n r e
    cases e
    split at h <;> try cases h
    rename_i l' hl
    split at h <;> cases h
    rename_i hn
    have:=DQ hl
    subst this
    simp only [bp,List.map_cons]
    congr 1
    have:(UInt8.ofNat n.toNat).toNat=n.toNat:=by
     rw [UInt8.toNat_ofNat']
     exact Nat.mod_eq_of_lt (by have:(2:Nat)^8=256:=rfl
                                omega)
    rw [this]
    congr 1
    omega
   ·cases h
theorem Ah {x:AV} (h:wu x=some z) (hφ:φ z):kD x φ:=by
 unfold wu at h;unfold kD
 split at h <;> try cases h
 rename_i ys rG
 split at h <;> cases h
 rename_i l hl
 simp only [rG]
 exact ⟨l,DQ hl,hφ⟩
theorem vn {own:Nat} {x:AV} (h:pG own x=some z) (hφ:φ z):fF own x φ:=by
 unfold pG at h;unfold fF
 split at h <;> try cases h
 split at h <;> cases h
 exact ⟨by assumption,hφ⟩
theorem xz {kd:Nat} {zero m k:AV} {ok:Bool} {H:List aa} (h:sm kd zero m k ok H=some z) (hφ:φ z):cF kd zero m k ok H φ:=by
 unfold sm at h;unfold cF
 split at h <;> try cases h
 ·split at h <;> cases h
  exact ⟨by assumption,hφ⟩
 ·split at h <;> try cases h
  rename_i bn
  simp only [bn]
  split at h
  ·rename_i hf;cases h;simp only [hf];exact hφ
  ·rename_i hf
   split at h <;> cases h
   simp only [hf]
   exact ⟨by assumption,hφ⟩
  ·cases h
theorem Gm {kd:Nat} {m k x:AV} {H H':List aa} {K:List aa→Prop} (h:xt kd m k x H=some H') (hK:K H'):fU kd m k x H K:=by
 unfold xt at h;unfold fU
 split at h <;> try cases h
 split at h <;> try cases h
 rename_i bn
 simp only [bn]
 split at h <;> try cases h
 rename_i hc
 refine ⟨hc.1,hc.2.1,hc.2.2,?_⟩
 split at h
 ·rename_i hf;cases h;simp only [hf];exact hK
 ·rename_i hf
  split at h <;> cases h
  simp only [hf]
  exact ⟨by assumption,hK⟩
 ·cases h
end
end Go.aK
