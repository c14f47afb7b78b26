/- A memory-free reading of the model's values (part 19): operations that are run. -/
import Derived.Test.YtljchnfgjdjobaaGreatYac
set_option linter.unusedVariables false
set_option linter.unusedSimpArgs false
set_option linter.defProp false
set_option linter.unusedSectionVars false
namespace Go.aJ
open Go
def ac9:AV→Option Bool | .bool b=>some b | _=>none
def GD (op:BinOp) (x y:AV):Option AV:=
 match x,y with
 | .int k a,.int k' b=>if k=k' then
    match op with
    | .add=>some (.int k (k.wrap (a + b)))
    | .sub=>some (.int k (k.wrap (a - b)))
    | .mul=>some (.int k (k.wrap (a * b)))
    | .quo=>if b≠0 then some (.int k (k.wrap (a.tdiv b))) else none
    | .rem=>if b≠0 then some (.int k (a.tmod b)) else none
    | .and=>some (.int k (k.wrap (BitVec.ofInt k.bits a &&& BitVec.ofInt k.bits b).toNat))
    | .or=>some (.int k (k.wrap (BitVec.ofInt k.bits a ||| BitVec.ofInt k.bits b).toNat))
    | .eql=>some (.bool (decide (a=b)))
    | .neq=>some (.bool (decide (a≠b)))
    | .lss=>some (.bool (decide (a < b)))
    | .leq=>some (.bool (decide (a≤b)))
    | .gtr=>some (.bool (decide (b < a)))
    | .geq=>some (.bool (decide (b≤a)))
    | _=>none
   else none
 | .str a,.str b=>
   match op with
   | .add=>if a.size + b.size < 9223372036854775808 then some (.str (a++b)) else none
   | .eql=>some (.bool (decide (a=b)))
   | .neq=>some (.bool (decide (a≠b)))
   | .lss=>some (.bool (Op.bytesLess a.data.toList b.data.toList))
   | _=>none
 | _,_=>none
def uT (op:BinOp) (x y:AV):Option AV:=
 match x,y with
 | .int k a,.int _ b=>if 0≤b then
    match op with
    | .shl=>some (.int k (k.wrap (a * 2 ^ (min b.toNat k.bits))))
    | .shr=>some (.int k (a.fdiv (2 ^ (min b.toNat k.bits))))
    | _=>none
   else none
 | _,_=>none
def qR (neq:Bool) (x y:AV):Option AV:=
 match x,y with
 | .bool a,.bool b=>some (.bool (if neq then decide (a≠b) else decide (a=b)))
 | _,_=>none
def uU (kd:Nat) (neq:Bool) (x:AV):Option AV:=
 match isNil kd x with
 | some b=>some (.bool (if neq then !b else b))
 | none=>none
def Ny (op:UnOp) (x:AV):Option AV:=
 match op,x with
 | .not,.bool b=>some (.bool (!b))
 | .neg,.int k n=>some (.int k (k.wrap (0 - n)))
 | _,_=>none
def sG (zs:List AV):List (Nat×Nat×AV)→Option (List AV)
 | []=>some zs
 | (off,sz,x)::r=>if x.val=true∧x.cells.length=sz∧off + sz≤zs.length then sG (ai zs off (x.cells.map AV.ae)) r else none
def lE (xs:List AV) (esz:Nat):List (Nat×AV)→Option (List AV)
 | []=>some xs
 | (i,x)::r=>if x.val=true∧x.cells.length=esz∧i < xs.length then lE (xs.set i (aP x)) esz r else none
def pU (sz:Option Nat) (x:AV) (H:List aa):Option AV:=
 match x with
 | .ptr id off=>match H[id]? with
   | some (.cells es)=>match sz with
     | some m=>if off + m≤es.length then some (.agg (((es.drop off).take m).map AV.drop)) else none
     | none=>if off < es.length then some (es.getD off .any).ae else none
   | _=>none
 | .aj y=>match sz with
   | some m=>if y.cells.length=m then some (.agg y.cells) else none
   | none=>if y.one=true then some y.ae else none
 | _=>none
def Ax (off:Nat) (sz:Option Nat) (xs:List AV):Option AV:=
 match sz with
 | some m=>if off + m≤xs.length then some (.agg ((xs.drop off).take m)) else none
 | none=>if off < xs.length∧(xs.getD off .any).one=true then some (xs.getD off .any) else none
def kz (off:Nat) (sz:Option Nat) (x:AV):Option AV:=
 match x with
 | .ptr id o=>some (.ptr id (o + off))
 | .aj y=>(Ax off sz y.cells).map .aj
 | _=>none
def uV (off:Nat) (sz:Option Nat) (x:AV):Option AV:=
 match x with
 | .agg xs=>(Ax off sz xs).map AV.drop
 | _=>none
def wm (esz:Nat) (x:AV):Bool:=
 match x with
 | .al _ xs=>xs.all fun z=>z.cells.length == esz
 | _=>true
def kA (esz:Nat) (x i:AV):Option AV:=
 match x,i with
 | .al _ xs,.int _ i=>if 0≤i∧i.toNat < xs.length then some (.aj (xs.getD i.toNat .any)) else none
 | .aU id off len _,.int _ i=>if 0≤i∧i.toNat < len then some (.ptr id (off + i.toNat * esz)) else none
 | _,_=>none
def mr (n:Nat) (x i:AV):Option AV:=
 match x,i with
 | .agg xs,.int _ i=>if xs.length=n∧0≤i∧i.toNat < n then some (xs.getD i.toNat .any).drop else none
 | _,_=>none
def ms (x i:AV):Option AV:=
 match x,i with
 | .str s,.int _ i=>if 0≤i∧i.toNat < s.size then some (.int .u8 (s.data.toList.getD i.toNat 0).toNat) else none
 | _,_=>none
def Ay (kd:Nat) (x:AV):Bool:=
 match kd,x with
 | 0,.str _=>true
 | 1,.ah=>true
 | 1,.al _ _=>true
 | 1,.aU _ _ _ _=>true
 | 2,.jf=>true
 | 2,.map _=>true
 | _,_=>false
def GF (x:AV) (H:List aa):Option AV:=
 match x with
 | .str s=>some (.int .i64 s.size)
 | .ah=>some (.int .i64 0)
 | .al _ xs=>some (.int .i64 xs.length)
 | .aU _ _ len _=>some (.int .i64 len)
 | .jf=>some (.int .i64 0)
 | .map id=>match H[id]? with
   | some (.map es)=>some (.int .i64 es.length)
   | _=>none
 | _=>none
def oO (x:AV) (i:Nat):Option AV:=
 match x with
 | .tuple xs=>if i < xs.length then some (xs.getD i .any).ae else none
 | _=>none
def mv (x:AV):Option AV:=
 match x with
 | .ptr .. | .aj _=>some x
 | .fn (.func _) _ _=>some x
 | _=>none
def oP (k:IntKind) (x:AV):Option AV:=
 match x with
 | .int _ n=>some (.int k (k.wrap n))
 | _=>none
def Nz (big:Bool) (x y:AV):Option AV:=
 match x,y with
 | .int k a,.int _ b=>some (.int k (if big then (if b > a then b else a) else (if b < a then b else a)))
 | _,_=>none
def Az (m:Nat) (p x:AV) (H:List aa):Option (List aa):=
 match p with
 | .ptr id off=>match H[id]? with
   | some (.cells es)=>if x.val=true∧x.cells.length=m∧off + m≤es.length∧x.cells.all AV.one=true∧ak (id + 1) (x.cells.map AV.ae)=true then
      some (H.set id (.cells (ai es off (x.cells.map AV.ae)))) else none
   | _=>none
 | _=>none
def sH (p x:AV) (H:List aa):Option (List aa):=
 match p with
 | .ptr id off=>match H[id]? with
   | some (.cells es)=>if off < es.length∧x.one=true∧x.a8 (id + 1)=true then some (H.set id (.cells (es.set off x))) else none
   | _=>none
 | _=>none
def wo (esz bytes:Nat) (s x:AV):Option (List AV):=
 match m8 esz s,dB x with
 | some xs,some ys=>if (xs.length + ys.length) * bytes≤140737488355328∧(ys.all fun y=>y.cells.length == esz && y.cells.all AV.one)=true then some (xs++ys) else none
 | _,_=>none
def AA (bytes:Nat) (z n:AV) (H:List aa):Option (AV×List aa):=
 match n with
 | .int .i64 n=>if 0≤n∧n.toNat * bytes≤140737488355328∧ak (H.length + 1) (flat (List.replicate n.toNat (bQ z)))=true then
    some (.aU H.length 0 n.toNat n.toNat,H++[.cells (flat (List.replicate n.toNat (bQ z)))]) else none
 | _=>none
def uW (esz bytes:Nat) (n:AV):Option AV:=
 match n with
 | .int .i64 n=>if 0≤n∧n.toNat * bytes≤140737488355328 then some (.al esz []) else none
 | _=>none
def qS (x:Option AV) (d:Nat):Option Nat:=
 match x with
 | none=>some d
 | some (.int _ i)=>if 0≤i then some i.toNat else none
 | _=>none
def AB (esz:Nat) (x:AV) (lo hi mx:Option AV):Option AV:=
 match dB x with
 | some xs=>match qS hi xs.length,qS lo 0 with
   | some h,some l=>if l≤h∧h≤xs.length then
      match mx with
      | none=>some (.al 0 ((xs.take h).drop l))
      | some m=>match qS (some m) 0 with
        | some m=>if hi.isSome=true∧m=h∧(xs.all fun y=>y.cells.length == esz)=true then some (.al esz ((xs.take h).drop l)) else none
        | none=>none
     else none
   | _,_=>none
 | none=>none
def E1 (esz:Nat) (d s:AV) (H:List aa):Option (AV×List aa):=
 match d,vM esz s H with
 | .aU id off len _,some (n,ys)=>match H[id]? with
   | some (.cells es)=>if (ys.take (min n len * esz)).all AV.one=true∧off + min n len * esz≤es.length∧ak (id + 1) ((ys.take (min n len * esz)).map AV.ae)=true then
      some (.int .i64 (min n len:Nat),H.set id (.cells (ai es off ((ys.take (min n len * esz)).map AV.ae)))) else none
   | _=>none
 | _,_=>none
def pV (esz:Nat) (x:AV) (H:List aa):Option (AV×List aa):=
 match x with
 | .aU id off len cap=>match H[id]? with
   | some (.cells es)=>if 0 < esz∧len≤cap∧off + len * esz≤es.length∧(es.drop off).all AV.one=true then some (.al 0 (chunks esz len (es.drop off)),H.set id .dead) else none
   | _=>none
 | .any=>none
 | .agg _=>none
 | .ptr _ _=>none
 | .nC=>none
 | x=>some (x.ae,H)
def mw (esz:Nat):List AV→List aa→Option (List AV×List aa)
 | [],H=>some ([],H)
 | .agg _::_,_=>none
 | x::r,H=>match pV esz x H with
   | some (y,H')=>match mw esz r H' with
     | some (ys,H'')=>some (y::ys,H'')
     | none=>none
   | none=>none
def AD (esz:Nat) (x:AV) (H:List aa):Option (AV×List aa):=
 match x with
 | .agg xs=>match mw esz xs H with
   | some (ys,H')=>some (.agg ys,H')
   | none=>none
 | x=>pV esz x H
def qT (esz:Nat) (x:AV) (lo hi mx:Option AV):Option AV:=
 match x with
 | .aU id off len cap=>match mx,qS hi len,qS lo 0 with
   | none,some h,some l=>if l≤h∧h≤cap then some (.aU id (if cap=l then off else off + l * esz) (h - l) (cap - l)) else none
   | _,_,_=>none
 | x=>if wm esz x=true then AB esz x lo hi mx else none
def mA (x:AV) (lo hi:Option AV):Option AV:=
 match x with
 | .str s=>match qS hi s.size,qS lo 0 with
   | some h,some l=>if l≤h∧h≤s.size then some (.str (s.extract l h)) else none
   | _,_=>none
 | _=>none
def oQ (x:AV):Option AV:=match x with | .str s=>some (.str s) | _=>none
def wu:List AV→Option (List UInt8)
 | []=>some []
 | .int .u8 n::r=>match wu r with
   | some l=>if 0≤n∧n < 256 then some (UInt8.ofNat n.toNat::l) else none
   | none=>none
 | _=>none
def uX (x:AV):Option AV:=
 match dB x with
 | some ys=>match wu ys with
   | some l=>some (.str ⟨l.toArray⟩)
   | none=>none
 | none=>none
def oR (own:Nat) (x:AV):Option AV:=
 match x with
 | .str s=>if s.size < 9223372036854775808 then some (.al own (bk s.data.toList)) else none
 | _=>none
def qU (kd:Nat) (zero m k:AV) (ok:Bool) (H:List aa):Option AV:=
 match m with
 | .jf=>if cE kd k k=some true then some (if ok then .tuple [aP zero,.bool false] else aP zero) else none
 | .map id=>match H[id]? with
   | some (.map es)=>match dk kd k es 0 with
     | some (some (_,v))=>some (if ok then .tuple [v.drop,.bool true] else v.drop)
     | some none=>if cE kd k k=some true then some (if ok then .tuple [aP zero,.bool false] else aP zero) else none
     | none=>none
   | _=>none
 | _=>none
def wv (kd:Nat) (m k x:AV) (H:List aa):Option (List aa):=
 match m with
 | .map id=>match H[id]? with
   | some (.map es)=>if k.a8 (id + 1)=true∧x.a8 (id + 1)=true∧x.val=true then match dk kd k es 0 with
      | some (some (i,_))=>some (H.set id (.map (es.set i (k,aP x))))
      | some none=>if cE kd k k=some true then some (H.set id (.map (es++[(k,aP x)]))) else none
      | none=>none
     else none
   | _=>none
 | _=>none
section
variable {z:AV} {φ:AV→Prop}
theorem GG {op:BinOp} {x y:AV} (h:GD op x y=some z) (hφ:φ z):di op x y φ:=by
 unfold GD at h
 split at h
 ·split at h <;> try cases h
  rename_i hk
  refine ⟨hk,?_⟩
  split at h <;> first | (cases h;exact hφ) | (split at h <;> cases h;exact ⟨by assumption,hφ⟩) | cases h
 ·split at h <;> first | (cases h;exact hφ) | (split at h <;> cases h;exact ⟨by assumption,hφ⟩) | cases h
 ·cases h
theorem yN {op:BinOp} {x y:AV} (h:uT op x y=some z) (hφ:φ z):dT op x y φ:=by
 unfold uT at h
 split at h <;> try cases h
 split at h <;> try cases h
 rename_i hb
 refine ⟨hb,?_⟩
 split at h <;> cases h <;> exact hφ
theorem wx {neq:Bool} {x y:AV} (h:qR neq x y=some z) (hφ:φ z):da neq x y φ:=by
 unfold qR at h;unfold da
 split at h <;> cases h <;> exact hφ
theorem yO {kd:Nat} {neq:Bool} {x:AV} (h:uU kd neq x=some z) (hφ:φ z):dl kd neq x φ:=by
 unfold uU at h;unfold dl
 split at h <;> cases h
 rename_i hb;rw [hb];exact hφ
theorem J8 {op:UnOp} {x:AV} (h:Ny op x=some z) (hφ:φ z):zZ op x φ:=by
 unfold Ny at h;unfold zZ
 split at h <;> cases h <;> exact hφ
theorem wy {φ:List AV→Prop} {r:List AV} (hφ:φ r):∀ {ps:List (Nat×Nat×AV)} {zs:List AV},sG zs ps=some r→gE zs ps φ
 | [],zs,h=>by simp only [sG] at h;cases h;exact hφ
 | (off,sz,x)::ps,zs,h=>by
   simp only [sG] at h
   split at h <;> try cases h
   rename_i hc
   exact ⟨hc.1,hc.2.1,hc.2.2,wy hφ h⟩
theorem pW {esz:Nat} {φ:List AV→Prop} {r:List AV} (hφ:φ r):∀ {ps:List (Nat×AV)} {zs:List AV},lE zs esz ps=some r→bj zs esz ps φ
 | [],zs,h=>by simp only [lE] at h;cases h;exact hφ
 | (i,x)::ps,zs,h=>by
   simp only [lE] at h
   split at h <;> try cases h
   rename_i hc
   exact ⟨hc.1,hc.2.1,hc.2.2,pW hφ h⟩
theorem n9 {sz:Option Nat} {x:AV} {H:List aa} (h:pU sz x H=some z) (hφ:φ z):aV sz x H φ:=by
 unfold pU at h;unfold aV
 split at h <;> try cases h
 ·split at h <;> try cases h
  rename_i bm
  simp only [bm]
  split at h <;> (split at h <;> cases h) <;> exact ⟨by assumption,hφ⟩
 ·simp only
  split at h <;> (split at h <;> cases h) <;> exact ⟨by assumption,hφ⟩
theorem Cz {off:Nat} {sz:Option Nat} {xs:List AV} (h:Ax off sz xs=some z) (hφ:φ z):apart off sz xs φ:=by
 unfold Ax at h;unfold apart
 split at h <;> split at h <;> cases h
 ·exact ⟨by assumption,hφ⟩
 ·rename_i hc;exact ⟨hc.1,hc.2,hφ⟩
theorem pC {off:Nat} {sz:Option Nat} {x:AV} (h:kz off sz x=some z) (hφ:φ z):aq off sz x φ:=by
 unfold kz at h;unfold aq
 split at h <;> try cases h
 ·exact hφ
 ·obtain ⟨u,hu,rfl⟩:=yr.1 h
  exact Cz hu hφ
theorem yP {off:Nat} {sz:Option Nat} {x:AV} (h:uV off sz x=some z) (hφ:φ z):fe off sz x φ:=by
 unfold uV at h;unfold fe
 split at h <;> try cases h
 obtain ⟨u,hu,rfl⟩:=yr.1 h
 exact Cz hu hφ
theorem wz {esz:Nat} {x:AV} (h:wm esz x=true):∀ own xs,x=.al own xs→∀ z∈xs,z.cells.length=esz:=by
 intro own xs e z hz
 subst e
 simp only [wm,aaL,beq_iff_eq] at h
 exact h z hz
theorem pD {esz:Nat} {x i:AV} (h:kA esz x i=some z) (hφ:φ z):aC esz x i φ:=by
 unfold kA at h;unfold aC
 split at h <;> try cases h
 ·split at h <;> cases h
  rename_i hc;exact ⟨hc.1,hc.2,hφ⟩
 ·split at h <;> cases h
  rename_i hc;exact ⟨hc.1,hc.2,hφ⟩
theorem qV {x i:AV} (h:ms x i=some z) (hφ:φ z):bK x i φ:=by
 unfold ms at h;unfold bK
 split at h <;> try cases h
 split at h <;> cases h
 rename_i hc;exact ⟨hc.1,hc.2,hφ⟩
theorem qW {n:Nat} {x i:AV} (h:mr n x i=some z) (hφ:φ z):bT n x i φ:=by
 unfold mr at h;unfold bT
 split at h <;> try cases h
 split at h <;> cases h
 rename_i hc;exact ⟨hc.1,hc.2.1,hc.2.2,hφ⟩
theorem CA {kd:Nat} {x:AV} (h:Ay kd x=true):aN kd x:=by
 unfold Ay at h;unfold aN
 split at h <;> first | trivial | cases h
theorem GH {x:AV} {H:List aa} (h:GF x H=some z) (hφ:φ z):fz x H φ:=by
 unfold GF at h;unfold fz
 split at h <;> try cases h
 ·exact hφ
 ·exact hφ
 ·exact fun _=>hφ
 ·exact hφ
 ·exact hφ
 ·split at h <;> cases h
  rename_i bm
  simp only [bm];exact hφ
theorem uc {x:AV} {i:Nat} (h:oO x i=some z) (hφ:φ z):bG x i φ:=by
 unfold oO at h;unfold bG
 split at h <;> try cases h
 split at h <;> cases h
 exact ⟨by assumption,hφ⟩
theorem qX {x:AV} (h:mv x=some z) (hφ:φ z):bU x φ:=by
 unfold mv at h;unfold bU
 split at h <;> cases h <;> exact hφ
theorem ud {k:IntKind} {x:AV} (h:oP k x=some z) (hφ:φ z):cC k x φ:=by
 unfold oP at h;unfold cC
 split at h <;> cases h <;> exact hφ
theorem J9 {big:Bool} {x y:AV} (h:Nz big x y=some z) (hφ:φ z):xG big x y φ:=by
 unfold Nz at h;unfold xG
 split at h <;> cases h <;> exact hφ
theorem Ig {m:Nat} {p x:AV} {H H':List aa} {K:List aa→Prop} (h:Az m p x H=some H') (hK:K H'):iD m p x H K:=by
 unfold Az at h;unfold iD
 split at h <;> try cases h
 split at h <;> try cases h
 rename_i bm
 split at h <;> cases h
 rename_i hc
 simp only [bm]
 exact ⟨hc.1,hc.2.1,hc.2.2.1,hc.2.2.2.1,hc.2.2.2.2,hK⟩
theorem CB {p x:AV} {H H':List aa} {K:List aa→Prop} (h:sH p x H=some H') (hK:K H'):dU p x H K:=by
 unfold sH at h;unfold dU
 split at h <;> try cases h
 split at h <;> try cases h
 rename_i bm
 split at h <;> cases h
 rename_i hc
 simp only [bm]
 exact ⟨hc.1,hc.2.1,hc.2.2,hK⟩
theorem E2 {esz bytes:Nat} {s x:AV} {r:List AV} {φ:List AV→Prop} (h:wo esz bytes s x=some r) (hφ:φ r):bw esz bytes s x φ:=by
 unfold wo at h;unfold bw
 split at h <;> try cases h
 rename_i xs ys h1 h2
 split at h <;> cases h
 rename_i hc
 simp only [h1,h2]
 refine ⟨hc.1,?_,hφ⟩
 intro y hy
 have:=aaL.1 hc.2 y hy
 simpa using this
theorem Ih {esz bytes:Nat} {x n:AV} {H H':List aa} {K:AV→List aa→Prop} (h:AA bytes x n H=some (z,H')) (hK:K z H'):gv esz bytes x n H K:=by
 unfold AA at h;unfold gv
 split at h <;> try cases h
 split at h <;> cases h
 rename_i hc
 exact ⟨hc.1,hc.2.1,hc.2.2,hK⟩
theorem yQ {esz bytes:Nat} {n:AV} (h:uW esz bytes n=some z) (hφ:φ z):ji esz bytes n φ:=by
 unfold uW at h;unfold ji
 split at h <;> try cases h
 split at h <;> cases h
 rename_i hc
 exact ⟨hc.1,hc.2,hφ⟩
theorem mB {x:Option AV} {d k:Nat} {φ:Nat→Prop} (h:qS x d=some k) (hφ:φ k):dV x d φ:=by
 unfold qS at h;unfold dV
 split at h
 ·cases h;exact hφ
 ·split at h <;> cases h
  rename_i hc
  exact ⟨hc,hφ⟩
 ·cases h
theorem Ii {esz:Nat} {x:AV} {lo hi mx:Option AV} (h:AB esz x lo hi mx=some z) (hφ:φ z):fN esz x lo hi mx φ:=by
 unfold AB at h;unfold fN
 split at h <;> try cases h
 rename_i xs ew
 simp only [ew]
 split at h <;> try cases h
 rename_i hh ll h1 h2
 split at h <;> try cases h
 rename_i hc
 refine mB h1 (mB h2 ⟨hc.1,hc.2,?_⟩)
 split at h
 ·cases h;exact hφ
 ·split at h <;> try cases h
  rename_i m hm
  split at h <;> cases h
  rename_i hc
  refine ⟨hc.1,mB hm ⟨hc.2.1,?_,hφ⟩⟩
  intro y hy
  have:=aaL.1 hc.2.2 y hy
  simpa using this
theorem Ka {esz:Nat} {d s:AV} {H H':List aa} {K:AV→List aa→Prop} (h:E1 esz d s H=some (z,H')) (hK:K z H'):jP esz d s H K:=by
 unfold E1 at h;unfold jP
 split at h <;> try cases h
 rename_i hs
 split at h <;> try cases h
 rename_i bm
 split at h <;> cases h
 rename_i hc
 simp only [hs,bm]
 exact ⟨hc.1,hc.2.1,hc.2.2,hK⟩
theorem wA {esz:Nat} {x:AV} {H H':List aa} {K:AV→List aa→Prop} (h:pV esz x H=some (z,H')) (hK:K z H'):fH esz x H K:=by
 unfold pV at h;unfold fH
 split at h
 ·split at h <;> try cases h
  rename_i bm
  split at h <;> cases h
  rename_i hc
  simp only [dD,bm]
  exact ⟨hc.1,hc.2.1,hc.2.2.1,hc.2.2.2,hK⟩
 ·cases h
 ·cases h
 ·cases h
 ·cases h
 ·rename_i h1 h2 h3 h4 h5
  cases h
  cases x <;> first | exact hK | exact absurd rfl h2 | exact absurd rfl h5 | exact absurd rfl (h1 _ _ _ _) | exact absurd rfl (h3 _) | exact absurd rfl (h4 _ _)
theorem Ij {esz:Nat} {x:AV} {H H':List aa} {K:AV→List aa→Prop} (hx:∀ xs,x≠.agg xs) (h:pV esz x H=some (z,H')) (hK:K z H'):dD esz x H K:=by
 have:=wA (K:=K) h hK
 unfold fH at this
 split at this
 ·exact absurd rfl (hx _)
 ·cases h
 ·exact this
theorem yR {esz:Nat}:∀ {xs:List AV} {H H':List aa} {ys:List AV} {K:List AV→List aa→Prop},mw esz xs H=some (ys,H')→K ys H'→jQ esz xs H K
 | [],H,H',ys,K,h,hK=>by simp only [mw] at h;cases h;exact hK
 | x::r,H,H',ys,K,h,hK=>by
   have hx:∀ xs,x≠.agg xs:=fun xs e=>by subst e;simp [mw] at h
   have h':(match pV esz x H with
    | some (y,H')=>match mw esz r H' with
      | some (ys,H'')=>some (y::ys,H'')
      | none=>none
    | none=>none)=some (ys,H'):=by
    cases x <;> first | exact absurd rfl (hx _) | (simpa only [mw] using h)
   split at h' <;> try cases h'
   rename_i y H1 h1
   split at h' <;> cases h'
   rename_i ys' h2
   exact Ij (K:=fun y H'=>jQ esz r H' fun ys H''=>K (y::ys) H'') hx h1 (yR (K:=fun ys H''=>K (y::ys) H'') h2 hK)
theorem Ik {esz:Nat} {x:AV} {H H':List aa} {K:AV→List aa→Prop} (h:AD esz x H=some (z,H')) (hK:K z H'):fH esz x H K:=by
 unfold AD at h
 split at h
 ·split at h <;> cases h
  rename_i ys hs
  exact yR (K:=fun ys H'=>K (.agg ys) H') hs hK
 ·exact wA h hK
theorem wB {esz:Nat} {x:AV} {lo hi mx:Option AV} (h:qT esz x lo hi mx=some z) (hφ:φ z):bD esz x lo hi mx φ:=by
 unfold qT at h;unfold bD
 split at h
 ·split at h <;> try cases h
  rename_i h1 h2
  split at h <;> cases h
  rename_i hc
  simp only
  unfold gR
  exact mB h1 (mB h2 ⟨hc.1,hc.2,hφ⟩)
 ·rename_i eU
  split at h <;> try cases h
  rename_i hl
  split
  ·exact absurd rfl (eU _ _ _ _)
  ·exact ⟨wz hl,Ii h hφ⟩
theorem qY {x:AV} {lo hi:Option AV} (h:mA x lo hi=some z) (hφ:φ z):cj x lo hi φ:=by
 unfold mA at h;unfold cj
 split at h <;> try cases h
 split at h <;> try cases h
 rename_i hh ll h1 h2
 split at h <;> cases h
 rename_i hc
 exact mB h1 (mB h2 ⟨hc.1,hc.2,hφ⟩)
theorem ue {x:AV} (h:oQ x=some z) (hφ:φ z):fQ x φ:=by
 unfold oQ at h;unfold fQ
 split at h <;> cases h <;> exact hφ
theorem CC:∀ {ys:List AV} {l:List UInt8},wu ys=some l→ys=bk l
 | [],l,h=>by simp only [wu] at h;cases h;rfl
 | y::ys,l,h=>by
   unfold wu at h
   split at h
   ·rename_i e;cases e
   ·rename_i n r e
    cases e
    split at h <;> try cases h
    rename_i l' hl
    split at h <;> cases h
    rename_i hn
    have:=CC hl
    subst this
    simp only [bk,List.map_cons]
    congr 1
    have:(UInt8.ofNat n.toNat).toNat=n.toNat:=by
     rw [UInt8.toNat_ofNat']
     exact Nat.mod_eq_of_lt (by have:(2:Nat)^8=256:=rfl
                                omega)
    rw [this]
    congr 1
    omega
   ·cases h
theorem yS {x:AV} (h:uX x=some z) (hφ:φ z):jN x φ:=by
 unfold uX at h;unfold jN
 split at h <;> try cases h
 rename_i ys qv
 split at h <;> cases h
 rename_i l hl
 simp only [qv]
 exact ⟨l,CC hl,hφ⟩
theorem uf {own:Nat} {x:AV} (h:oR own x=some z) (hφ:φ z):fm own x φ:=by
 unfold oR at h;unfold fm
 split at h <;> try cases h
 split at h <;> cases h
 exact ⟨by assumption,hφ⟩
theorem wC {kd:Nat} {zero m k:AV} {ok:Bool} {H:List aa} (h:qU kd zero m k ok H=some z) (hφ:φ z):ct kd zero m k ok H φ:=by
 unfold qU at h;unfold ct
 split at h <;> try cases h
 ·split at h <;> cases h
  exact ⟨by assumption,hφ⟩
 ·split at h <;> try cases h
  rename_i bm
  simp only [bm]
  split at h
  ·rename_i hf;cases h;simp only [hf];exact hφ
  ·rename_i hf
   split at h <;> cases h
   simp only [hf]
   exact ⟨by assumption,hφ⟩
  ·cases h
theorem E3 {kd:Nat} {m k x:AV} {H H':List aa} {K:List aa→Prop} (h:wv kd m k x H=some H') (hK:K H'):fD kd m k x H K:=by
 unfold wv at h;unfold fD
 split at h <;> try cases h
 split at h <;> try cases h
 rename_i bm
 simp only [bm]
 split at h <;> try cases h
 rename_i hc
 refine ⟨hc.1,hc.2.1,hc.2.2,?_⟩
 split at h
 ·rename_i hf;cases h;simp only [hf];exact hK
 ·rename_i hf
  split at h <;> cases h
  simp only [hf]
  exact ⟨by assumption,hK⟩
 ·cases h
end
end Go.aJ
