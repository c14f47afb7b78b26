/- A memory-free reading of the model's values (part 19): operations that are run. -/
import Derived.Test.YtljchnfgjdjobaaGreatWac
set_option linter.unusedVariables false
set_option linter.unusedSimpArgs false
set_option linter.defProp false
set_option linter.unusedSectionVars false
namespace Go.aI
open Go
def agE:AV→Option Bool | .bool b=>some b | _=>none
def Im (op:BinOp) (x y:AV):Option AV:=
 match x,y with
 | .int k a,.int k' b=>if k=k' then
    match op with
    | .add=>some (.int k (k.wrap (a + b)))
    | .sub=>some (.int k (k.wrap (a - b)))
    | .mul=>some (.int k (k.wrap (a * b)))
    | .quo=>if b≠0 then some (.int k (k.wrap (a.tdiv b))) else none
    | .rem=>if b≠0 then some (.int k (a.tmod b)) else none
    | .and=>some (.int k (k.wrap (BitVec.ofInt k.bits a &&& BitVec.ofInt k.bits b).toNat))
    | .or=>some (.int k (k.wrap (BitVec.ofInt k.bits a ||| BitVec.ofInt k.bits b).toNat))
    | .eql=>some (.bool (decide (a=b)))
    | .neq=>some (.bool (decide (a≠b)))
    | .lss=>some (.bool (decide (a < b)))
    | .leq=>some (.bool (decide (a≤b)))
    | .gtr=>some (.bool (decide (b < a)))
    | .geq=>some (.bool (decide (b≤a)))
    | _=>none
   else none
 | .str a,.str b=>
   match op with
   | .add=>if a.size + b.size < 9223372036854775808 then some (.str (a++b)) else none
   | .eql=>some (.bool (decide (a=b)))
   | .neq=>some (.bool (decide (a≠b)))
   | .lss=>some (.bool (Op.bytesLess a.data.toList b.data.toList))
   | _=>none
 | _,_=>none
def wx (op:BinOp) (x y:AV):Option AV:=
 match x,y with
 | .int k a,.int _ b=>if 0≤b then
    match op with
    | .shl=>some (.int k (k.wrap (a * 2 ^ (min b.toNat k.bits))))
    | .shr=>some (.int k (a.fdiv (2 ^ (min b.toNat k.bits))))
    | _=>none
   else none
 | _,_=>none
def sn (neq:Bool) (x y:AV):Option AV:=
 match x,y with
 | .bool a,.bool b=>some (.bool (if neq then decide (a≠b) else decide (a=b)))
 | _,_=>none
def wy (kd:Nat) (neq:Bool) (x:AV):Option AV:=
 match isNil kd x with
 | some b=>some (.bool (if neq then !b else b))
 | none=>none
def PG (op:UnOp) (x:AV):Option AV:=
 match op,x with
 | .not,.bool b=>some (.bool (!b))
 | .neg,.int k n=>some (.int k (k.wrap (0 - n)))
 | _,_=>none
def tU (zs:List AV):List (Nat×Nat×AV)→Option (List AV)
 | []=>some zs
 | (off,sz,x)::r=>if x.val=true∧x.cells.length=sz∧off + sz≤zs.length then tU (ah zs off (x.cells.map AV.ab)) r else none
def mB (xs:List AV) (esz:Nat):List (Nat×AV)→Option (List AV)
 | []=>some xs
 | (i,x)::r=>if x.val=true∧x.cells.length=esz∧i < xs.length then mB (xs.set i (aU x)) esz r else none
def qZ (sz:Option Nat) (x:AV) (H:List aa):Option AV:=
 match x with
 | .ptr id off=>match H[id]? with
   | some (.cells es)=>match sz with
     | some m=>if off + m≤es.length then some (.agg (((es.drop off).take m).map AV.drop)) else none
     | none=>if off < es.length then some (es.getD off .any).ab else none
   | _=>none
 | .ai y=>match sz with
   | some m=>if y.cells.length=m then some (.agg y.cells) else none
   | none=>if y.one=true then some y.ab else none
 | _=>none
def BQ (off:Nat) (sz:Option Nat) (xs:List AV):Option AV:=
 match sz with
 | some m=>if off + m≤xs.length then some (.agg ((xs.drop off).take m)) else none
 | none=>if off < xs.length∧(xs.getD off .any).one=true then some (xs.getD off .any) else none
def lC (off:Nat) (sz:Option Nat) (x:AV):Option AV:=
 match x with
 | .ptr id o=>some (.ptr id (o + off))
 | .ai y=>(BQ off sz y.cells).map .ai
 | _=>none
def wz (off:Nat) (sz:Option Nat) (x:AV):Option AV:=
 match x with
 | .agg xs=>(BQ off sz xs).map AV.drop
 | _=>none
def xw (esz:Nat) (x:AV):Bool:=
 match x with
 | .aj _ xs=>xs.all fun z=>z.cells.length == esz
 | _=>true
def lD (esz:Nat) (x i:AV):Option AV:=
 match x,i with
 | .aj _ xs,.int _ i=>if 0≤i∧i.toNat < xs.length then some (.ai (xs.getD i.toNat .any)) else none
 | .a7 id off len _,.int _ i=>if 0≤i∧i.toNat < len then some (.ptr id (off + i.toNat * esz)) else none
 | _,_=>none
def nC (n:Nat) (x i:AV):Option AV:=
 match x,i with
 | .agg xs,.int _ i=>if xs.length=n∧0≤i∧i.toNat < n then some (xs.getD i.toNat .any).drop else none
 | _,_=>none
def nD (x i:AV):Option AV:=
 match x,i with
 | .str s,.int _ i=>if 0≤i∧i.toNat < s.size then some (.int .u8 (s.data.toList.getD i.toNat 0).toNat) else none
 | _,_=>none
def BR (kd:Nat) (x:AV):Bool:=
 match kd,x with
 | 0,.str _=>true
 | 1,.ag=>true
 | 1,.aj _ _=>true
 | 1,.a7 _ _ _ _=>true
 | 2,.jR=>true
 | 2,.map _=>true
 | _,_=>false
def Io (x:AV) (H:List aa):Option AV:=
 match x with
 | .str s=>some (.int .i64 s.size)
 | .ag=>some (.int .i64 0)
 | .aj _ xs=>some (.int .i64 xs.length)
 | .a7 _ _ len _=>some (.int .i64 len)
 | .jR=>some (.int .i64 0)
 | .map id=>match H[id]? with
   | some (.map es)=>some (.int .i64 es.length)
   | _=>none
 | _=>none
def pO (x:AV) (i:Nat):Option AV:=
 match x with
 | .tuple xs=>if i < xs.length then some (xs.getD i .any).ab else none
 | _=>none
def nE (x:AV):Option AV:=
 match x with
 | .ptr .. | .ai _=>some x
 | .fn (.func _) _ _=>some x
 | _=>none
def pP (k:IntKind) (x:AV):Option AV:=
 match x with
 | .int _ n=>some (.int k (k.wrap n))
 | _=>none
def PH (big:Bool) (x y:AV):Option AV:=
 match x,y with
 | .int k a,.int _ b=>some (.int k (if big then (if b > a then b else a) else (if b < a then b else a)))
 | _,_=>none
def BS (m:Nat) (p x:AV) (H:List aa):Option (List aa):=
 match p with
 | .ptr id off=>match H[id]? with
   | some (.cells es)=>if x.val=true∧x.cells.length=m∧off + m≤es.length∧x.cells.all AV.one=true∧al (id + 1) (x.cells.map AV.ab)=true then
      some (H.set id (.cells (ah es off (x.cells.map AV.ab)))) else none
   | _=>none
 | _=>none
def tV (p x:AV) (H:List aa):Option (List aa):=
 match p with
 | .ptr id off=>match H[id]? with
   | some (.cells es)=>if off < es.length∧x.one=true∧x.bb (id + 1)=true then some (H.set id (.cells (es.set off x))) else none
   | _=>none
 | _=>none
def xx (esz bytes:Nat) (s x:AV):Option (List AV):=
 match oa esz s,dA x with
 | some xs,some ys=>if (xs.length + ys.length) * bytes≤140737488355328∧(ys.all fun y=>y.cells.length == esz && y.cells.all AV.one)=true then some (xs++ys) else none
 | _,_=>none
def BT (bytes:Nat) (z n:AV) (H:List aa):Option (AV×List aa):=
 match n with
 | .int .i64 n=>if 0≤n∧n.toNat * bytes≤140737488355328∧al (H.length + 1) (flat (List.replicate n.toNat (bR z)))=true then
    some (.a7 H.length 0 n.toNat n.toNat,H++[.cells (flat (List.replicate n.toNat (bR z)))]) else none
 | _=>none
def wA (esz bytes:Nat) (n:AV):Option AV:=
 match n with
 | .int .i64 n=>if 0≤n∧n.toNat * bytes≤140737488355328 then some (.aj esz []) else none
 | _=>none
def sq (x:Option AV) (d:Nat):Option Nat:=
 match x with
 | none=>some d
 | some (.int _ i)=>if 0≤i then some i.toNat else none
 | _=>none
def BU (esz:Nat) (x:AV) (lo hi mx:Option AV):Option AV:=
 match dA x with
 | some xs=>match sq hi xs.length,sq lo 0 with
   | some h,some l=>if l≤h∧h≤xs.length then
      match mx with
      | none=>some (.aj 0 ((xs.take h).drop l))
      | some m=>match sq (some m) 0 with
        | some m=>if hi.isSome=true∧m=h∧(xs.all fun y=>y.cells.length == esz)=true then some (.aj esz ((xs.take h).drop l)) else none
        | none=>none
     else none
   | _,_=>none
 | none=>none
def GA (esz:Nat) (d s:AV) (H:List aa):Option (AV×List aa):=
 match d,w8 esz s H with
 | .a7 id off len _,some (n,ys)=>match H[id]? with
   | some (.cells es)=>if (ys.take (min n len * esz)).all AV.one=true∧off + min n len * esz≤es.length∧al (id + 1) ((ys.take (min n len * esz)).map AV.ab)=true then
      some (.int .i64 (min n len:Nat),H.set id (.cells (ah es off ((ys.take (min n len * esz)).map AV.ab)))) else none
   | _=>none
 | _,_=>none
def ra (esz:Nat) (x:AV) (H:List aa):Option (AV×List aa):=
 match x with
 | .a7 id off len cap=>match H[id]? with
   | some (.cells es)=>if 0 < esz∧len≤cap∧off + len * esz≤es.length∧(es.drop off).all AV.one=true then some (.aj 0 (chunks esz len (es.drop off)),H.set id .dead) else none
   | _=>none
 | .any=>none
 | .agg _=>none
 | .ptr _ _=>none
 | .oI=>none
 | x=>some (x.ab,H)
def nF (esz:Nat):List AV→List aa→Option (List AV×List aa)
 | [],H=>some ([],H)
 | .agg _::_,_=>none
 | x::r,H=>match ra esz x H with
   | some (y,H')=>match nF esz r H' with
     | some (ys,H'')=>some (y::ys,H'')
     | none=>none
   | none=>none
def BV (esz:Nat) (x:AV) (H:List aa):Option (AV×List aa):=
 match x with
 | .agg xs=>match nF esz xs H with
   | some (ys,H')=>some (.agg ys,H')
   | none=>none
 | x=>ra esz x H
def sr (esz:Nat) (x:AV) (lo hi mx:Option AV):Option AV:=
 match x with
 | .a7 id off len cap=>match mx,sq hi len,sq lo 0 with
   | none,some h,some l=>if l≤h∧h≤cap then some (.a7 id (if cap=l then off else off + l * esz) (h - l) (cap - l)) else none
   | _,_,_=>none
 | x=>if xw esz x=true then BU esz x lo hi mx else none
def nG (x:AV) (lo hi:Option AV):Option AV:=
 match x with
 | .str s=>match sq hi s.size,sq lo 0 with
   | some h,some l=>if l≤h∧h≤s.size then some (.str (s.extract l h)) else none
   | _,_=>none
 | _=>none
def pQ (x:AV):Option AV:=match x with | .str s=>some (.str s) | _=>none
def xy:List AV→Option (List UInt8)
 | []=>some []
 | .int .u8 n::r=>match xy r with
   | some l=>if 0≤n∧n < 256 then some (UInt8.ofNat n.toNat::l) else none
   | none=>none
 | _=>none
def wB (x:AV):Option AV:=
 match dA x with
 | some ys=>match xy ys with
   | some l=>some (.str ⟨l.toArray⟩)
   | none=>none
 | none=>none
def pR (own:Nat) (x:AV):Option AV:=
 match x with
 | .str s=>if s.size < 9223372036854775808 then some (.aj own (bp s.data.toList)) else none
 | _=>none
def sv (kd:Nat) (zero m k:AV) (ok:Bool) (H:List aa):Option AV:=
 match m with
 | .jR=>if cK kd k k=some true then some (if ok then .tuple [aU zero,.bool false] else aU zero) else none
 | .map id=>match H[id]? with
   | some (.map es)=>match dn kd k es 0 with
     | some (some (_,v))=>some (if ok then .tuple [v.drop,.bool true] else v.drop)
     | some none=>if cK kd k k=some true then some (if ok then .tuple [aU zero,.bool false] else aU zero) else none
     | none=>none
   | _=>none
 | _=>none
def xz (kd:Nat) (m k x:AV) (H:List aa):Option (List aa):=
 match m with
 | .map id=>match H[id]? with
   | some (.map es)=>if k.bb (id + 1)=true∧x.bb (id + 1)=true∧x.val=true then match dn kd k es 0 with
      | some (some (i,_))=>some (H.set id (.map (es.set i (k,aU x))))
      | some none=>if cK kd k k=some true then some (H.set id (.map (es++[(k,aU x)]))) else none
      | none=>none
     else none
   | _=>none
 | _=>none
section
variable {z:AV} {φ:AV→Prop}
theorem Ip {op:BinOp} {x y:AV} (h:Im op x y=some z) (hφ:φ z):dl op x y φ:=by
 unfold Im at h
 split at h
 ·split at h <;> try cases h
  rename_i hk
  refine ⟨hk,?_⟩
  split at h <;> first | (cases h;exact hφ) | (split at h <;> cases h;exact ⟨by assumption,hφ⟩) | cases h
 ·split at h <;> first | (cases h;exact hφ) | (split at h <;> cases h;exact ⟨by assumption,hφ⟩) | cases h
 ·cases h
theorem Af {op:BinOp} {x y:AV} (h:wx op x y=some z) (hφ:φ z):eE op x y φ:=by
 unfold wx at h
 split at h <;> try cases h
 split at h <;> try cases h
 rename_i hb
 refine ⟨hb,?_⟩
 split at h <;> cases h <;> exact hφ
theorem xA {neq:Bool} {x y:AV} (h:sn neq x y=some z) (hφ:φ z):dc neq x y φ:=by
 unfold sn at h;unfold dc
 split at h <;> cases h <;> exact hφ
theorem Ag {kd:Nat} {neq:Bool} {x:AV} (h:wy kd neq x=some z) (hφ:φ z):dx kd neq x φ:=by
 unfold wy at h;unfold dx
 split at h <;> cases h
 rename_i hb;rw [hb];exact hφ
theorem LS {op:UnOp} {x:AV} (h:PG op x=some z) (hφ:φ z):Bk op x φ:=by
 unfold PG at h;unfold Bk
 split at h <;> cases h <;> exact hφ
theorem xB {φ:List AV→Prop} {r:List AV} (hφ:φ r):∀ {ps:List (Nat×Nat×AV)} {zs:List AV},tU zs ps=some r→iJ zs ps φ
 | [],zs,h=>by simp only [tU] at h;cases h;exact hφ
 | (off,sz,x)::ps,zs,h=>by
   simp only [tU] at h
   split at h <;> try cases h
   rename_i hc
   exact ⟨hc.1,hc.2.1,hc.2.2,xB hφ h⟩
theorem rb {esz:Nat} {φ:List AV→Prop} {r:List AV} (hφ:φ r):∀ {ps:List (Nat×AV)} {zs:List AV},mB zs esz ps=some r→bm zs esz ps φ
 | [],zs,h=>by simp only [mB] at h;cases h;exact hφ
 | (i,x)::ps,zs,h=>by
   simp only [mB] at h
   split at h <;> try cases h
   rename_i hc
   exact ⟨hc.1,hc.2.1,hc.2.2,rb hφ h⟩
theorem pf {sz:Option Nat} {x:AV} {H:List aa} (h:qZ sz x H=some z) (hφ:φ z):aY sz x H φ:=by
 unfold qZ at h;unfold aY
 split at h <;> try cases h
 ·split at h <;> try cases h
  rename_i bn
  simp only [bn]
  split at h <;> (split at h <;> cases h) <;> exact ⟨by assumption,hφ⟩
 ·simp only
  split at h <;> (split at h <;> cases h) <;> exact ⟨by assumption,hφ⟩
theorem DW {off:Nat} {sz:Option Nat} {xs:List AV} (h:BQ off sz xs=some z) (hφ:φ z):apart off sz xs φ:=by
 unfold BQ at h;unfold apart
 split at h <;> split at h <;> cases h
 ·exact ⟨by assumption,hφ⟩
 ·rename_i hc;exact ⟨hc.1,hc.2,hφ⟩
theorem qF {off:Nat} {sz:Option Nat} {x:AV} (h:lC off sz x=some z) (hφ:φ z):ap off sz x φ:=by
 unfold lC at h;unfold ap
 split at h <;> try cases h
 ·exact hφ
 ·obtain ⟨u,hu,rfl⟩:=zW.1 h
  exact DW hu hφ
theorem Ah {off:Nat} {sz:Option Nat} {x:AV} (h:wz off sz x=some z) (hφ:φ z):fB off sz x φ:=by
 unfold wz at h;unfold fB
 split at h <;> try cases h
 obtain ⟨u,hu,rfl⟩:=zW.1 h
 exact DW hu hφ
theorem xC {esz:Nat} {x:AV} (h:xw esz x=true):∀ own xs,x=.aj own xs→∀ z∈xs,z.cells.length=esz:=by
 intro own xs e z hz
 subst e
 simp only [xw,aaO,beq_iff_eq] at h
 exact h z hz
theorem qG {esz:Nat} {x i:AV} (h:lD esz x i=some z) (hφ:φ z):aE esz x i φ:=by
 unfold lD at h;unfold aE
 split at h <;> try cases h
 ·split at h <;> cases h
  rename_i hc;exact ⟨hc.1,hc.2,hφ⟩
 ·split at h <;> cases h
  rename_i hc;exact ⟨hc.1,hc.2,hφ⟩
theorem sw {x i:AV} (h:nD x i=some z) (hφ:φ z):bO x i φ:=by
 unfold nD at h;unfold bO
 split at h <;> try cases h
 split at h <;> cases h
 rename_i hc;exact ⟨hc.1,hc.2,hφ⟩
theorem sx {n:Nat} {x i:AV} (h:nC n x i=some z) (hφ:φ z):b8 n x i φ:=by
 unfold nC at h;unfold b8
 split at h <;> try cases h
 split at h <;> cases h
 rename_i hc;exact ⟨hc.1,hc.2.1,hc.2.2,hφ⟩
theorem DX {kd:Nat} {x:AV} (h:BR kd x=true):aO kd x:=by
 unfold BR at h;unfold aO
 split at h <;> first | trivial | cases h
theorem Iq {x:AV} {H:List aa} (h:Io x H=some z) (hφ:φ z):fj x H φ:=by
 unfold Io at h;unfold fj
 split at h <;> try cases h
 ·exact hφ
 ·exact hφ
 ·exact fun _=>hφ
 ·exact hφ
 ·exact hφ
 ·split at h <;> cases h
  rename_i bn
  simp only [bn];exact hφ
theorem vv {x:AV} {i:Nat} (h:pO x i=some z) (hφ:φ z):bK x i φ:=by
 unfold pO at h;unfold bK
 split at h <;> try cases h
 split at h <;> cases h
 exact ⟨by assumption,hφ⟩
theorem sy {x:AV} (h:nE x=some z) (hφ:φ z):b9 x φ:=by
 unfold nE at h;unfold b9
 split at h <;> cases h <;> exact hφ
theorem vw {k:IntKind} {x:AV} (h:pP k x=some z) (hφ:φ z):cI k x φ:=by
 unfold pP at h;unfold cI
 split at h <;> cases h <;> exact hφ
theorem LU {big:Bool} {x y:AV} (h:PH big x y=some z) (hφ:φ z):yY big x y φ:=by
 unfold PH at h;unfold yY
 split at h <;> cases h <;> exact hφ
theorem JU {m:Nat} {p x:AV} {H H':List aa} {K:List aa→Prop} (h:BS m p x H=some H') (hK:K H'):jn m p x H K:=by
 unfold BS at h;unfold jn
 split at h <;> try cases h
 split at h <;> try cases h
 rename_i bn
 split at h <;> cases h
 rename_i hc
 simp only [bn]
 exact ⟨hc.1,hc.2.1,hc.2.2.1,hc.2.2.2.1,hc.2.2.2.2,hK⟩
theorem DY {p x:AV} {H H':List aa} {K:List aa→Prop} (h:tV p x H=some H') (hK:K H'):eF p x H K:=by
 unfold tV at h;unfold eF
 split at h <;> try cases h
 split at h <;> try cases h
 rename_i bn
 split at h <;> cases h
 rename_i hc
 simp only [bn]
 exact ⟨hc.1,hc.2.1,hc.2.2,hK⟩
theorem GB {esz bytes:Nat} {s x:AV} {r:List AV} {φ:List AV→Prop} (h:xx esz bytes s x=some r) (hφ:φ r):bw esz bytes s x φ:=by
 unfold xx at h;unfold bw
 split at h <;> try cases h
 rename_i xs ys h1 h2
 split at h <;> cases h
 rename_i hc
 simp only [h1,h2]
 refine ⟨hc.1,?_,hφ⟩
 intro y hy
 have:=aaO.1 hc.2 y hy
 simpa using this
theorem JV {esz bytes:Nat} {x n:AV} {H H':List aa} {K:AV→List aa→Prop} (h:BT bytes x n H=some (z,H')) (hK:K z H'):fF esz bytes x n H K:=by
 unfold BT at h;unfold fF
 split at h <;> try cases h
 split at h <;> cases h
 rename_i hc
 exact ⟨hc.1,hc.2.1,hc.2.2,hK⟩
theorem Ai {esz bytes:Nat} {n:AV} (h:wA esz bytes n=some z) (hφ:φ z):jU esz bytes n φ:=by
 unfold wA at h;unfold jU
 split at h <;> try cases h
 split at h <;> cases h
 rename_i hc
 exact ⟨hc.1,hc.2,hφ⟩
theorem nH {x:Option AV} {d k:Nat} {φ:Nat→Prop} (h:sq x d=some k) (hφ:φ k):ep x d φ:=by
 unfold sq at h;unfold ep
 split at h
 ·cases h;exact hφ
 ·split at h <;> cases h
  rename_i hc
  exact ⟨hc,hφ⟩
 ·cases h
theorem JW {esz:Nat} {x:AV} {lo hi mx:Option AV} (h:BU esz x lo hi mx=some z) (hφ:φ z):fH esz x lo hi mx φ:=by
 unfold BU at h;unfold fH
 split at h <;> try cases h
 rename_i xs eR
 simp only [eR]
 split at h <;> try cases h
 rename_i hh ll h1 h2
 split at h <;> try cases h
 rename_i hc
 refine nH h1 (nH h2 ⟨hc.1,hc.2,?_⟩)
 split at h
 ·cases h;exact hφ
 ·split at h <;> try cases h
  rename_i m hm
  split at h <;> cases h
  rename_i hc
  refine ⟨hc.1,nH hm ⟨hc.2.1,?_,hφ⟩⟩
  intro y hy
  have:=aaO.1 hc.2.2 y hy
  simpa using this
theorem LV {esz:Nat} {d s:AV} {H H':List aa} {K:AV→List aa→Prop} (h:GA esz d s H=some (z,H')) (hK:K z H'):kN esz d s H K:=by
 unfold GA at h;unfold kN
 split at h <;> try cases h
 rename_i hs
 split at h <;> try cases h
 rename_i bn
 split at h <;> cases h
 rename_i hc
 simp only [hs,bn]
 exact ⟨hc.1,hc.2.1,hc.2.2,hK⟩
theorem xD {esz:Nat} {x:AV} {H H':List aa} {K:AV→List aa→Prop} (h:ra esz x H=some (z,H')) (hK:K z H'):gf esz x H K:=by
 unfold ra at h;unfold gf
 split at h
 ·split at h <;> try cases h
  rename_i bn
  split at h <;> cases h
  rename_i hc
  simp only [ee,bn]
  exact ⟨hc.1,hc.2.1,hc.2.2.1,hc.2.2.2,hK⟩
 ·cases h
 ·cases h
 ·cases h
 ·cases h
 ·rename_i h1 h2 h3 h4 h5
  cases h
  cases x <;> first | exact hK | exact absurd rfl h2 | exact absurd rfl h5 | exact absurd rfl (h1 _ _ _ _) | exact absurd rfl (h3 _) | exact absurd rfl (h4 _ _)
theorem JX {esz:Nat} {x:AV} {H H':List aa} {K:AV→List aa→Prop} (hx:∀ xs,x≠.agg xs) (h:ra esz x H=some (z,H')) (hK:K z H'):ee esz x H K:=by
 have:=xD (K:=K) h hK
 unfold gf at this
 split at this
 ·exact absurd rfl (hx _)
 ·cases h
 ·exact this
theorem Aj {esz:Nat}:∀ {xs:List AV} {H H':List aa} {ys:List AV} {K:List AV→List aa→Prop},nF esz xs H=some (ys,H')→K ys H'→kO esz xs H K
 | [],H,H',ys,K,h,hK=>by simp only [nF] at h;cases h;exact hK
 | x::r,H,H',ys,K,h,hK=>by
   have hx:∀ xs,x≠.agg xs:=fun xs e=>by subst e;simp [nF] at h
   have h':(match ra esz x H with
    | some (y,H')=>match nF esz r H' with
      | some (ys,H'')=>some (y::ys,H'')
      | none=>none
    | none=>none)=some (ys,H'):=by
    cases x <;> first | exact absurd rfl (hx _) | (simpa only [nF] using h)
   split at h' <;> try cases h'
   rename_i y H1 h1
   split at h' <;> cases h'
   rename_i ys' h2
   exact JX (K:=fun y H'=>kO esz r H' fun ys H''=>K (y::ys) H'') hx h1 (Aj (K:=fun ys H''=>K (y::ys) H'') h2 hK)
theorem JY {esz:Nat} {x:AV} {H H':List aa} {K:AV→List aa→Prop} (h:BV esz x H=some (z,H')) (hK:K z H'):gf esz x H K:=by
 unfold BV at h
 split at h
 ·split at h <;> cases h
  rename_i ys hs
  exact Aj (K:=fun ys H'=>K (.agg ys) H') hs hK
 ·exact xD h hK
theorem xE {esz:Nat} {x:AV} {lo hi mx:Option AV} (h:sr esz x lo hi mx=some z) (hφ:φ z):bC esz x lo hi mx φ:=by
 unfold sr at h;unfold bC
 split at h
 ·split at h <;> try cases h
  rename_i h1 h2
  split at h <;> cases h
  rename_i hc
  simp only
  unfold iM
  exact nH h1 (nH h2 ⟨hc.1,hc.2,hφ⟩)
 ·rename_i dP
  split at h <;> try cases h
  rename_i hl
  split
  ·exact absurd rfl (dP _ _ _ _)
  ·exact ⟨xC hl,JW h hφ⟩
theorem sA {x:AV} {lo hi:Option AV} (h:nG x lo hi=some z) (hφ:φ z):cv x lo hi φ:=by
 unfold nG at h;unfold cv
 split at h <;> try cases h
 split at h <;> try cases h
 rename_i hh ll h1 h2
 split at h <;> cases h
 rename_i hc
 exact nH h1 (nH h2 ⟨hc.1,hc.2,hφ⟩)
theorem vx {x:AV} (h:pQ x=some z) (hφ:φ z):gA x φ:=by
 unfold pQ at h;unfold gA
 split at h <;> cases h <;> exact hφ
theorem DZ:∀ {ys:List AV} {l:List UInt8},xy ys=some l→ys=bp l
 | [],l,h=>by simp only [xy] at h;cases h;rfl
 | y::ys,l,h=>by
   unfold xy at h
   split at h
   ·rename_i e;cases e
   ·rename_i n r e
    cases e
    split at h <;> try cases h
    rename_i l' hl
    split at h <;> cases h
    rename_i hn
    have:=DZ hl
    subst this
    simp only [bp,List.map_cons]
    congr 1
    have:(UInt8.ofNat n.toNat).toNat=n.toNat:=by
     rw [UInt8.toNat_ofNat']
     exact Nat.mod_eq_of_lt (by have:(2:Nat)^8=256:=rfl
                                omega)
    rw [this]
    congr 1
    omega
   ·cases h
theorem Ak {x:AV} (h:wB x=some z) (hφ:φ z):kM x φ:=by
 unfold wB at h;unfold kM
 split at h <;> try cases h
 rename_i ys rO
 split at h <;> cases h
 rename_i l hl
 simp only [rO]
 exact ⟨l,DZ hl,hφ⟩
theorem vz {own:Nat} {x:AV} (h:pR own x=some z) (hφ:φ z):fI own x φ:=by
 unfold pR at h;unfold fI
 split at h <;> try cases h
 split at h <;> cases h
 exact ⟨by assumption,hφ⟩
theorem xF {kd:Nat} {zero m k:AV} {ok:Bool} {H:List aa} (h:sv kd zero m k ok H=some z) (hφ:φ z):cB kd zero m k ok H φ:=by
 unfold sv at h;unfold cB
 split at h <;> try cases h
 ·split at h <;> cases h
  exact ⟨by assumption,hφ⟩
 ·split at h <;> try cases h
  rename_i bn
  simp only [bn]
  split at h
  ·rename_i hf;cases h;simp only [hf];exact hφ
  ·rename_i hf
   split at h <;> cases h
   simp only [hf]
   exact ⟨by assumption,hφ⟩
  ·cases h
theorem GC {kd:Nat} {m k x:AV} {H H':List aa} {K:List aa→Prop} (h:xz kd m k x H=some H') (hK:K H'):fV kd m k x H K:=by
 unfold xz at h;unfold fV
 split at h <;> try cases h
 split at h <;> try cases h
 rename_i bn
 simp only [bn]
 split at h <;> try cases h
 rename_i hc
 refine ⟨hc.1,hc.2.1,hc.2.2,?_⟩
 split at h
 ·rename_i hf;cases h;simp only [hf];exact hK
 ·rename_i hf
  split at h <;> cases h
  simp only [hf]
  exact ⟨by assumption,hK⟩
 ·cases h
end
end Go.aI
