/- A memory-free reading of the model's values (part 19): operations that are run. -/
import Derived.Test.YtljchnfgjdjobaaGreatUac
set_option linter.unusedVariables false
set_option linter.unusedSimpArgs false
set_option linter.defProp false
set_option linter.unusedSectionVars false
namespace Go.aI
open Go
def aeC:AV→Option Bool | .bool b=>some b | _=>none
def He (op:BinOp) (x y:AV):Option AV:=
 match x,y with
 | .int k a,.int k' b=>if k=k' then
    match op with
    | .add=>some (.int k (k.wrap (a + b)))
    | .sub=>some (.int k (k.wrap (a - b)))
    | .mul=>some (.int k (k.wrap (a * b)))
    | .quo=>if b≠0 then some (.int k (k.wrap (a.tdiv b))) else none
    | .rem=>if b≠0 then some (.int k (a.tmod b)) else none
    | .and=>some (.int k (k.wrap (BitVec.ofInt k.bits a &&& BitVec.ofInt k.bits b).toNat))
    | .or=>some (.int k (k.wrap (BitVec.ofInt k.bits a ||| BitVec.ofInt k.bits b).toNat))
    | .eql=>some (.bool (decide (a=b)))
    | .neq=>some (.bool (decide (a≠b)))
    | .lss=>some (.bool (decide (a < b)))
    | .leq=>some (.bool (decide (a≤b)))
    | .gtr=>some (.bool (decide (b < a)))
    | .geq=>some (.bool (decide (b≤a)))
    | _=>none
   else none
 | .str a,.str b=>
   match op with
   | .add=>if a.size + b.size < 9223372036854775808 then some (.str (a++b)) else none
   | .eql=>some (.bool (decide (a=b)))
   | .neq=>some (.bool (decide (a≠b)))
   | .lss=>some (.bool (Op.bytesLess a.data.toList b.data.toList))
   | _=>none
 | _,_=>none
def vu (op:BinOp) (x y:AV):Option AV:=
 match x,y with
 | .int k a,.int _ b=>if 0≤b then
    match op with
    | .shl=>some (.int k (k.wrap (a * 2 ^ (min b.toNat k.bits))))
    | .shr=>some (.int k (a.fdiv (2 ^ (min b.toNat k.bits))))
    | _=>none
   else none
 | _,_=>none
def rA (neq:Bool) (x y:AV):Option AV:=
 match x,y with
 | .bool a,.bool b=>some (.bool (if neq then decide (a≠b) else decide (a=b)))
 | _,_=>none
def vv (kd:Nat) (neq:Bool) (x:AV):Option AV:=
 match isNil kd x with
 | some b=>some (.bool (if neq then !b else b))
 | none=>none
def Of (op:UnOp) (x:AV):Option AV:=
 match op,x with
 | .not,.bool b=>some (.bool (!b))
 | .neg,.int k n=>some (.int k (k.wrap (0 - n)))
 | _,_=>none
def sO (zs:List AV):List (Nat×Nat×AV)→Option (List AV)
 | []=>some zs
 | (off,sz,x)::r=>if x.val=true∧x.cells.length=sz∧off + sz≤zs.length then sO (ah zs off (x.cells.map AV.ab)) r else none
def lS (xs:List AV) (esz:Nat):List (Nat×AV)→Option (List AV)
 | []=>some xs
 | (i,x)::r=>if x.val=true∧x.cells.length=esz∧i < xs.length then lS (xs.set i (aV x)) esz r else none
def qj (sz:Option Nat) (x:AV) (H:List aa):Option AV:=
 match x with
 | .ptr id off=>match H[id]? with
   | some (.cells es)=>match sz with
     | some m=>if off + m≤es.length then some (.agg (((es.drop off).take m).map AV.drop)) else none
     | none=>if off < es.length then some (es.getD off .any).ab else none
   | _=>none
 | .ai y=>match sz with
   | some m=>if y.cells.length=m then some (.agg y.cells) else none
   | none=>if y.one=true then some y.ab else none
 | _=>none
def AZ (off:Nat) (sz:Option Nat) (xs:List AV):Option AV:=
 match sz with
 | some m=>if off + m≤xs.length then some (.agg ((xs.drop off).take m)) else none
 | none=>if off < xs.length∧(xs.getD off .any).one=true then some (xs.getD off .any) else none
def kR (off:Nat) (sz:Option Nat) (x:AV):Option AV:=
 match x with
 | .ptr id o=>some (.ptr id (o + off))
 | .ai y=>(AZ off sz y.cells).map .ai
 | _=>none
def vw (off:Nat) (sz:Option Nat) (x:AV):Option AV:=
 match x with
 | .agg xs=>(AZ off sz xs).map AV.drop
 | _=>none
def wI (esz:Nat) (x:AV):Bool:=
 match x with
 | .ap _ xs=>xs.all fun z=>z.cells.length == esz
 | _=>true
def kS (esz:Nat) (x i:AV):Option AV:=
 match x,i with
 | .ap _ xs,.int _ i=>if 0≤i∧i.toNat < xs.length then some (.ai (xs.getD i.toNat .any)) else none
 | .aW id off len _,.int _ i=>if 0≤i∧i.toNat < len then some (.ptr id (off + i.toNat * esz)) else none
 | _,_=>none
def mM (n:Nat) (x i:AV):Option AV:=
 match x,i with
 | .agg xs,.int _ i=>if xs.length=n∧0≤i∧i.toNat < n then some (xs.getD i.toNat .any).drop else none
 | _,_=>none
def mN (x i:AV):Option AV:=
 match x,i with
 | .str s,.int _ i=>if 0≤i∧i.toNat < s.size then some (.int .u8 (s.data.toList.getD i.toNat 0).toNat) else none
 | _,_=>none
def A0 (kd:Nat) (x:AV):Bool:=
 match kd,x with
 | 0,.str _=>true
 | 1,.ag=>true
 | 1,.ap _ _=>true
 | 1,.aW _ _ _ _=>true
 | 2,.ju=>true
 | 2,.map _=>true
 | _,_=>false
def Hf (x:AV) (H:List aa):Option AV:=
 match x with
 | .str s=>some (.int .i64 s.size)
 | .ag=>some (.int .i64 0)
 | .ap _ xs=>some (.int .i64 xs.length)
 | .aW _ _ len _=>some (.int .i64 len)
 | .ju=>some (.int .i64 0)
 | .map id=>match H[id]? with
   | some (.map es)=>some (.int .i64 es.length)
   | _=>none
 | _=>none
def o7 (x:AV) (i:Nat):Option AV:=
 match x with
 | .tuple xs=>if i < xs.length then some (xs.getD i .any).ab else none
 | _=>none
def mO (x:AV):Option AV:=
 match x with
 | .ptr .. | .ai _=>some x
 | .fn (.func _) _ _=>some x
 | _=>none
def o8 (k:IntKind) (x:AV):Option AV:=
 match x with
 | .int _ n=>some (.int k (k.wrap n))
 | _=>none
def Og (big:Bool) (x y:AV):Option AV:=
 match x,y with
 | .int k a,.int _ b=>some (.int k (if big then (if b > a then b else a) else (if b < a then b else a)))
 | _,_=>none
def A4 (m:Nat) (p x:AV) (H:List aa):Option (List aa):=
 match p with
 | .ptr id off=>match H[id]? with
   | some (.cells es)=>if x.val=true∧x.cells.length=m∧off + m≤es.length∧x.cells.all AV.one=true∧aj (id + 1) (x.cells.map AV.ab)=true then
      some (H.set id (.cells (ah es off (x.cells.map AV.ab)))) else none
   | _=>none
 | _=>none
def sP (p x:AV) (H:List aa):Option (List aa):=
 match p with
 | .ptr id off=>match H[id]? with
   | some (.cells es)=>if off < es.length∧x.one=true∧x.a9 (id + 1)=true then some (H.set id (.cells (es.set off x))) else none
   | _=>none
 | _=>none
def wJ (esz bytes:Nat) (s x:AV):Option (List AV):=
 match ns esz s,dn x with
 | some xs,some ys=>if (xs.length + ys.length) * bytes≤140737488355328∧(ys.all fun y=>y.cells.length == esz && y.cells.all AV.one)=true then some (xs++ys) else none
 | _,_=>none
def A5 (bytes:Nat) (z n:AV) (H:List aa):Option (AV×List aa):=
 match n with
 | .int .i64 n=>if 0≤n∧n.toNat * bytes≤140737488355328∧aj (H.length + 1) (flat (List.replicate n.toNat (bP z)))=true then
    some (.aW H.length 0 n.toNat n.toNat,H++[.cells (flat (List.replicate n.toNat (bP z)))]) else none
 | _=>none
def vx (esz bytes:Nat) (n:AV):Option AV:=
 match n with
 | .int .i64 n=>if 0≤n∧n.toNat * bytes≤140737488355328 then some (.ap esz []) else none
 | _=>none
def rB (x:Option AV) (d:Nat):Option Nat:=
 match x with
 | none=>some d
 | some (.int _ i)=>if 0≤i then some i.toNat else none
 | _=>none
def A6 (esz:Nat) (x:AV) (lo hi mx:Option AV):Option AV:=
 match dn x with
 | some xs=>match rB hi xs.length,rB lo 0 with
   | some h,some l=>if l≤h∧h≤xs.length then
      match mx with
      | none=>some (.ap 0 ((xs.take h).drop l))
      | some m=>match rB (some m) 0 with
        | some m=>if hi.isSome=true∧m=h∧(xs.all fun y=>y.cells.length == esz)=true then some (.ap esz ((xs.take h).drop l)) else none
        | none=>none
     else none
   | _,_=>none
 | none=>none
def Fp (esz:Nat) (d s:AV) (H:List aa):Option (AV×List aa):=
 match d,v9 esz s H with
 | .aW id off len _,some (n,ys)=>match H[id]? with
   | some (.cells es)=>if (ys.take (min n len * esz)).all AV.one=true∧off + min n len * esz≤es.length∧aj (id + 1) ((ys.take (min n len * esz)).map AV.ab)=true then
      some (.int .i64 (min n len:Nat),H.set id (.cells (ah es off ((ys.take (min n len * esz)).map AV.ab)))) else none
   | _=>none
 | _,_=>none
def qk (esz:Nat) (x:AV) (H:List aa):Option (AV×List aa):=
 match x with
 | .aW id off len cap=>match H[id]? with
   | some (.cells es)=>if 0 < esz∧len≤cap∧off + len * esz≤es.length∧(es.drop off).all AV.one=true then some (.ap 0 (chunks esz len (es.drop off)),H.set id .dead) else none
   | _=>none
 | .any=>none
 | .agg _=>none
 | .ptr _ _=>none
 | .nL=>none
 | x=>some (x.ab,H)
def mP (esz:Nat):List AV→List aa→Option (List AV×List aa)
 | [],H=>some ([],H)
 | .agg _::_,_=>none
 | x::r,H=>match qk esz x H with
   | some (y,H')=>match mP esz r H' with
     | some (ys,H'')=>some (y::ys,H'')
     | none=>none
   | none=>none
def A7 (esz:Nat) (x:AV) (H:List aa):Option (AV×List aa):=
 match x with
 | .agg xs=>match mP esz xs H with
   | some (ys,H')=>some (.agg ys,H')
   | none=>none
 | x=>qk esz x H
def rC (esz:Nat) (x:AV) (lo hi mx:Option AV):Option AV:=
 match x with
 | .aW id off len cap=>match mx,rB hi len,rB lo 0 with
   | none,some h,some l=>if l≤h∧h≤cap then some (.aW id (if cap=l then off else off + l * esz) (h - l) (cap - l)) else none
   | _,_,_=>none
 | x=>if wI esz x=true then A6 esz x lo hi mx else none
def mQ (x:AV) (lo hi:Option AV):Option AV:=
 match x with
 | .str s=>match rB hi s.size,rB lo 0 with
   | some h,some l=>if l≤h∧h≤s.size then some (.str (s.extract l h)) else none
   | _,_=>none
 | _=>none
def o9 (x:AV):Option AV:=match x with | .str s=>some (.str s) | _=>none
def wK:List AV→Option (List UInt8)
 | []=>some []
 | .int .u8 n::r=>match wK r with
   | some l=>if 0≤n∧n < 256 then some (UInt8.ofNat n.toNat::l) else none
   | none=>none
 | _=>none
def vz (x:AV):Option AV:=
 match dn x with
 | some ys=>match wK ys with
   | some l=>some (.str ⟨l.toArray⟩)
   | none=>none
 | none=>none
def pc (own:Nat) (x:AV):Option AV:=
 match x with
 | .str s=>if s.size < 9223372036854775808 then some (.ap own (bn s.data.toList)) else none
 | _=>none
def rD (kd:Nat) (zero m k:AV) (ok:Bool) (H:List aa):Option AV:=
 match m with
 | .ju=>if dd kd k k=some true then some (if ok then .tuple [aV zero,.bool false] else aV zero) else none
 | .map id=>match H[id]? with
   | some (.map es)=>match dZ kd k es 0 with
     | some (some (_,v))=>some (if ok then .tuple [v.drop,.bool true] else v.drop)
     | some none=>if dd kd k k=some true then some (if ok then .tuple [aV zero,.bool false] else aV zero) else none
     | none=>none
   | _=>none
 | _=>none
def wL (kd:Nat) (m k x:AV) (H:List aa):Option (List aa):=
 match m with
 | .map id=>match H[id]? with
   | some (.map es)=>if k.a9 (id + 1)=true∧x.a9 (id + 1)=true∧x.val=true then match dZ kd k es 0 with
      | some (some (i,_))=>some (H.set id (.map (es.set i (k,aV x))))
      | some none=>if dd kd k k=some true then some (H.set id (.map (es++[(k,aV x)]))) else none
      | none=>none
     else none
   | _=>none
 | _=>none
section
variable {z:AV} {φ:AV→Prop}
theorem Hg {op:BinOp} {x y:AV} (h:He op x y=some z) (hφ:φ z):dh op x y φ:=by
 unfold He at h
 split at h
 ·split at h <;> try cases h
  rename_i hk
  refine ⟨hk,?_⟩
  split at h <;> first | (cases h;exact hφ) | (split at h <;> cases h;exact ⟨by assumption,hφ⟩) | cases h
 ·split at h <;> first | (cases h;exact hφ) | (split at h <;> cases h;exact ⟨by assumption,hφ⟩) | cases h
 ·cases h
theorem zd {op:BinOp} {x y:AV} (h:vu op x y=some z) (hφ:φ z):dX op x y φ:=by
 unfold vu at h
 split at h <;> try cases h
 split at h <;> try cases h
 rename_i hb
 refine ⟨hb,?_⟩
 split at h <;> cases h <;> exact hφ
theorem wM {neq:Bool} {x y:AV} (h:rA neq x y=some z) (hφ:φ z):c9 neq x y φ:=by
 unfold rA at h;unfold c9
 split at h <;> cases h <;> exact hφ
theorem ze {kd:Nat} {neq:Bool} {x:AV} (h:vv kd neq x=some z) (hφ:φ z):dk kd neq x φ:=by
 unfold vv at h;unfold dk
 split at h <;> cases h
 rename_i hb;rw [hb];exact hφ
theorem KB {op:UnOp} {x:AV} (h:Of op x=some z) (hφ:φ z):As op x φ:=by
 unfold Of at h;unfold As
 split at h <;> cases h <;> exact hφ
theorem wN {φ:List AV→Prop} {r:List AV} (hφ:φ r):∀ {ps:List (Nat×Nat×AV)} {zs:List AV},sO zs ps=some r→gZ zs ps φ
 | [],zs,h=>by simp only [sO] at h;cases h;exact hφ
 | (off,sz,x)::ps,zs,h=>by
   simp only [sO] at h
   split at h <;> try cases h
   rename_i hc
   exact ⟨hc.1,hc.2.1,hc.2.2,wN hφ h⟩
theorem qm {esz:Nat} {φ:List AV→Prop} {r:List AV} (hφ:φ r):∀ {ps:List (Nat×AV)} {zs:List AV},lS zs esz ps=some r→bu zs esz ps φ
 | [],zs,h=>by simp only [lS] at h;cases h;exact hφ
 | (i,x)::ps,zs,h=>by
   simp only [lS] at h
   split at h <;> try cases h
   rename_i hc
   exact ⟨hc.1,hc.2.1,hc.2.2,qm hφ h⟩
theorem ou {sz:Option Nat} {x:AV} {H:List aa} (h:qj sz x H=some z) (hφ:φ z):aU sz x H φ:=by
 unfold qj at h;unfold aU
 split at h <;> try cases h
 ·split at h <;> try cases h
  rename_i bm
  simp only [bm]
  split at h <;> (split at h <;> cases h) <;> exact ⟨by assumption,hφ⟩
 ·simp only
  split at h <;> (split at h <;> cases h) <;> exact ⟨by assumption,hφ⟩
theorem CZ {off:Nat} {sz:Option Nat} {xs:List AV} (h:AZ off sz xs=some z) (hφ:φ z):apart off sz xs φ:=by
 unfold AZ at h;unfold apart
 split at h <;> split at h <;> cases h
 ·exact ⟨by assumption,hφ⟩
 ·rename_i hc;exact ⟨hc.1,hc.2,hφ⟩
theorem pO {off:Nat} {sz:Option Nat} {x:AV} (h:kR off sz x=some z) (hφ:φ z):al off sz x φ:=by
 unfold kR at h;unfold al
 split at h <;> try cases h
 ·exact hφ
 ·obtain ⟨u,hu,rfl⟩:=tM.1 h
  exact CZ hu hφ
theorem zg {off:Nat} {sz:Option Nat} {x:AV} (h:vw off sz x=some z) (hφ:φ z):ff off sz x φ:=by
 unfold vw at h;unfold ff
 split at h <;> try cases h
 obtain ⟨u,hu,rfl⟩:=tM.1 h
 exact CZ hu hφ
theorem wO {esz:Nat} {x:AV} (h:wI esz x=true):∀ own xs,x=.ap own xs→∀ z∈xs,z.cells.length=esz:=by
 intro own xs e z hz
 subst e
 simp only [wI,aaJ,beq_iff_eq] at h
 exact h z hz
theorem pP {esz:Nat} {x i:AV} (h:kS esz x i=some z) (hφ:φ z):ax esz x i φ:=by
 unfold kS at h;unfold ax
 split at h <;> try cases h
 ·split at h <;> cases h
  rename_i hc;exact ⟨hc.1,hc.2,hφ⟩
 ·split at h <;> cases h
  rename_i hc;exact ⟨hc.1,hc.2,hφ⟩
theorem rE {x i:AV} (h:mN x i=some z) (hφ:φ z):bN x i φ:=by
 unfold mN at h;unfold bN
 split at h <;> try cases h
 split at h <;> cases h
 rename_i hc;exact ⟨hc.1,hc.2,hφ⟩
theorem rF {n:Nat} {x i:AV} (h:mM n x i=some z) (hφ:φ z):bY n x i φ:=by
 unfold mM at h;unfold bY
 split at h <;> try cases h
 split at h <;> cases h
 rename_i hc;exact ⟨hc.1,hc.2.1,hc.2.2,hφ⟩
theorem C0 {kd:Nat} {x:AV} (h:A0 kd x=true):aL kd x:=by
 unfold A0 at h;unfold aL
 split at h <;> first | trivial | cases h
theorem Hh {x:AV} {H:List aa} (h:Hf x H=some z) (hφ:φ z):eU x H φ:=by
 unfold Hf at h;unfold eU
 split at h <;> try cases h
 ·exact hφ
 ·exact hφ
 ·exact fun _=>hφ
 ·exact hφ
 ·exact hφ
 ·split at h <;> cases h
  rename_i bm
  simp only [bm];exact hφ
theorem uo {x:AV} {i:Nat} (h:o7 x i=some z) (hφ:φ z):bK x i φ:=by
 unfold o7 at h;unfold bK
 split at h <;> try cases h
 split at h <;> cases h
 exact ⟨by assumption,hφ⟩
theorem rG {x:AV} (h:mO x=some z) (hφ:φ z):bZ x φ:=by
 unfold mO at h;unfold bZ
 split at h <;> cases h <;> exact hφ
theorem uq {k:IntKind} {x:AV} (h:o8 k x=some z) (hφ:φ z):cD k x φ:=by
 unfold o8 at h;unfold cD
 split at h <;> cases h <;> exact hφ
theorem KC {big:Bool} {x y:AV} (h:Og big x y=some z) (hφ:φ z):ya big x y φ:=by
 unfold Og at h;unfold ya
 split at h <;> cases h <;> exact hφ
theorem IN {m:Nat} {p x:AV} {H H':List aa} {K:List aa→Prop} (h:A4 m p x H=some H') (hK:K H'):iT m p x H K:=by
 unfold A4 at h;unfold iT
 split at h <;> try cases h
 split at h <;> try cases h
 rename_i bm
 split at h <;> cases h
 rename_i hc
 simp only [bm]
 exact ⟨hc.1,hc.2.1,hc.2.2.1,hc.2.2.2.1,hc.2.2.2.2,hK⟩
theorem C1 {p x:AV} {H H':List aa} {K:List aa→Prop} (h:sP p x H=some H') (hK:K H'):dY p x H K:=by
 unfold sP at h;unfold dY
 split at h <;> try cases h
 split at h <;> try cases h
 rename_i bm
 split at h <;> cases h
 rename_i hc
 simp only [bm]
 exact ⟨hc.1,hc.2.1,hc.2.2,hK⟩
theorem Fq {esz bytes:Nat} {s x:AV} {r:List AV} {φ:List AV→Prop} (h:wJ esz bytes s x=some r) (hφ:φ r):bE esz bytes s x φ:=by
 unfold wJ at h;unfold bE
 split at h <;> try cases h
 rename_i xs ys h1 h2
 split at h <;> cases h
 rename_i hc
 simp only [h1,h2]
 refine ⟨hc.1,?_,hφ⟩
 intro y hy
 have:=aaJ.1 hc.2 y hy
 simpa using this
theorem IP {esz bytes:Nat} {x n:AV} {H H':List aa} {K:AV→List aa→Prop} (h:A5 bytes x n H=some (z,H')) (hK:K z H'):fj esz bytes x n H K:=by
 unfold A5 at h;unfold fj
 split at h <;> try cases h
 split at h <;> cases h
 rename_i hc
 exact ⟨hc.1,hc.2.1,hc.2.2,hK⟩
theorem zh {esz bytes:Nat} {n:AV} (h:vx esz bytes n=some z) (hφ:φ z):jy esz bytes n φ:=by
 unfold vx at h;unfold jy
 split at h <;> try cases h
 split at h <;> cases h
 rename_i hc
 exact ⟨hc.1,hc.2,hφ⟩
theorem mR {x:Option AV} {d k:Nat} {φ:Nat→Prop} (h:rB x d=some k) (hφ:φ k):dR x d φ:=by
 unfold rB at h;unfold dR
 split at h
 ·cases h;exact hφ
 ·split at h <;> cases h
  rename_i hc
  exact ⟨hc,hφ⟩
 ·cases h
theorem IQ {esz:Nat} {x:AV} {lo hi mx:Option AV} (h:A6 esz x lo hi mx=some z) (hφ:φ z):fm esz x lo hi mx φ:=by
 unfold A6 at h;unfold fm
 split at h <;> try cases h
 rename_i xs fS
 simp only [fS]
 split at h <;> try cases h
 rename_i hh ll h1 h2
 split at h <;> try cases h
 rename_i hc
 refine mR h1 (mR h2 ⟨hc.1,hc.2,?_⟩)
 split at h
 ·cases h;exact hφ
 ·split at h <;> try cases h
  rename_i m hm
  split at h <;> cases h
  rename_i hc
  refine ⟨hc.1,mR hm ⟨hc.2.1,?_,hφ⟩⟩
  intro y hy
  have:=aaJ.1 hc.2.2 y hy
  simpa using this
theorem KD {esz:Nat} {d s:AV} {H H':List aa} {K:AV→List aa→Prop} (h:Fp esz d s H=some (z,H')) (hK:K z H'):kj esz d s H K:=by
 unfold Fp at h;unfold kj
 split at h <;> try cases h
 rename_i hs
 split at h <;> try cases h
 rename_i bm
 split at h <;> cases h
 rename_i hc
 simp only [hs,bm]
 exact ⟨hc.1,hc.2.1,hc.2.2,hK⟩
theorem wP {esz:Nat} {x:AV} {H H':List aa} {K:AV→List aa→Prop} (h:qk esz x H=some (z,H')) (hK:K z H'):fL esz x H K:=by
 unfold qk at h;unfold fL
 split at h
 ·split at h <;> try cases h
  rename_i bm
  split at h <;> cases h
  rename_i hc
  simp only [dN,bm]
  exact ⟨hc.1,hc.2.1,hc.2.2.1,hc.2.2.2,hK⟩
 ·cases h
 ·cases h
 ·cases h
 ·cases h
 ·rename_i h1 h2 h3 h4 h5
  cases h
  cases x <;> first | exact hK | exact absurd rfl h2 | exact absurd rfl h5 | exact absurd rfl (h1 _ _ _ _) | exact absurd rfl (h3 _) | exact absurd rfl (h4 _ _)
theorem IS {esz:Nat} {x:AV} {H H':List aa} {K:AV→List aa→Prop} (hx:∀ xs,x≠.agg xs) (h:qk esz x H=some (z,H')) (hK:K z H'):dN esz x H K:=by
 have:=wP (K:=K) h hK
 unfold fL at this
 split at this
 ·exact absurd rfl (hx _)
 ·cases h
 ·exact this
theorem zi {esz:Nat}:∀ {xs:List AV} {H H':List aa} {ys:List AV} {K:List AV→List aa→Prop},mP esz xs H=some (ys,H')→K ys H'→km esz xs H K
 | [],H,H',ys,K,h,hK=>by simp only [mP] at h;cases h;exact hK
 | x::r,H,H',ys,K,h,hK=>by
   have hx:∀ xs,x≠.agg xs:=fun xs e=>by subst e;simp [mP] at h
   have h':(match qk esz x H with
    | some (y,H')=>match mP esz r H' with
      | some (ys,H'')=>some (y::ys,H'')
      | none=>none
    | none=>none)=some (ys,H'):=by
    cases x <;> first | exact absurd rfl (hx _) | (simpa only [mP] using h)
   split at h' <;> try cases h'
   rename_i y H1 h1
   split at h' <;> cases h'
   rename_i ys' h2
   exact IS (K:=fun y H'=>km esz r H' fun ys H''=>K (y::ys) H'') hx h1 (zi (K:=fun ys H''=>K (y::ys) H'') h2 hK)
theorem IT {esz:Nat} {x:AV} {H H':List aa} {K:AV→List aa→Prop} (h:A7 esz x H=some (z,H')) (hK:K z H'):fL esz x H K:=by
 unfold A7 at h
 split at h
 ·split at h <;> cases h
  rename_i ys hs
  exact zi (K:=fun ys H'=>K (.agg ys) H') hs hK
 ·exact wP h hK
theorem wQ {esz:Nat} {x:AV} {lo hi mx:Option AV} (h:rC esz x lo hi mx=some z) (hφ:φ z):bA esz x lo hi mx φ:=by
 unfold rC at h;unfold bA
 split at h
 ·split at h <;> try cases h
  rename_i h1 h2
  split at h <;> cases h
  rename_i hc
  simp only
  unfold ic
  exact mR h1 (mR h2 ⟨hc.1,hc.2,hφ⟩)
 ·rename_i dG
  split at h <;> try cases h
  rename_i hl
  split
  ·exact absurd rfl (dG _ _ _ _)
  ·exact ⟨wO hl,IQ h hφ⟩
theorem rH {x:AV} {lo hi:Option AV} (h:mQ x lo hi=some z) (hφ:φ z):cn x lo hi φ:=by
 unfold mQ at h;unfold cn
 split at h <;> try cases h
 split at h <;> try cases h
 rename_i hh ll h1 h2
 split at h <;> cases h
 rename_i hc
 exact mR h1 (mR h2 ⟨hc.1,hc.2,hφ⟩)
theorem ur {x:AV} (h:o9 x=some z) (hφ:φ z):fU x φ:=by
 unfold o9 at h;unfold fU
 split at h <;> cases h <;> exact hφ
theorem C2:∀ {ys:List AV} {l:List UInt8},wK ys=some l→ys=bn l
 | [],l,h=>by simp only [wK] at h;cases h;rfl
 | y::ys,l,h=>by
   unfold wK at h
   split at h
   ·rename_i e;cases e
   ·rename_i n r e
    cases e
    split at h <;> try cases h
    rename_i l' hl
    split at h <;> cases h
    rename_i hn
    have:=C2 hl
    subst this
    simp only [bn,List.map_cons]
    congr 1
    have:(UInt8.ofNat n.toNat).toNat=n.toNat:=by
     rw [UInt8.toNat_ofNat']
     exact Nat.mod_eq_of_lt (by have:(2:Nat)^8=256:=rfl
                                omega)
    rw [this]
    congr 1
    omega
   ·cases h
theorem zj {x:AV} (h:vz x=some z) (hφ:φ z):kh x φ:=by
 unfold vz at h;unfold kh
 split at h <;> try cases h
 rename_i ys qR
 split at h <;> cases h
 rename_i l hl
 simp only [qR]
 exact ⟨l,C2 hl,hφ⟩
theorem uv {own:Nat} {x:AV} (h:pc own x=some z) (hφ:φ z):fo own x φ:=by
 unfold pc at h;unfold fo
 split at h <;> try cases h
 split at h <;> cases h
 exact ⟨by assumption,hφ⟩
theorem wR {kd:Nat} {zero m k:AV} {ok:Bool} {H:List aa} (h:rD kd zero m k ok H=some z) (hφ:φ z):cu kd zero m k ok H φ:=by
 unfold rD at h;unfold cu
 split at h <;> try cases h
 ·split at h <;> cases h
  exact ⟨by assumption,hφ⟩
 ·split at h <;> try cases h
  rename_i bm
  simp only [bm]
  split at h
  ·rename_i hf;cases h;simp only [hf];exact hφ
  ·rename_i hf
   split at h <;> cases h
   simp only [hf]
   exact ⟨by assumption,hφ⟩
  ·cases h
theorem Ft {kd:Nat} {m k x:AV} {H H':List aa} {K:List aa→Prop} (h:wL kd m k x H=some H') (hK:K H'):fD kd m k x H K:=by
 unfold wL at h;unfold fD
 split at h <;> try cases h
 split at h <;> try cases h
 rename_i bm
 simp only [bm]
 split at h <;> try cases h
 rename_i hc
 refine ⟨hc.1,hc.2.1,hc.2.2,?_⟩
 split at h
 ·rename_i hf;cases h;simp only [hf];exact hK
 ·rename_i hf
  split at h <;> cases h
  simp only [hf]
  exact ⟨by assumption,hK⟩
 ·cases h
end
end Go.aI
