/- A memory-free reading of the model's values (part 19): operations that are run. -/
import Derived.Test.YtljchnfgjdjobaaGreatWac
set_option linter.unusedVariables false
set_option linter.unusedSimpArgs false
set_option linter.defProp false
set_option linter.unusedSectionVars false
namespace Go.aH
open Go
def abO:AV→Option Bool | .bool b=>some b | _=>none
def FF (op:BinOp) (x y:AV):Option AV:=
 match x,y with
 | .int k a,.int k' b=>if k=k' then
    match op with
    | .add=>some (.int k (k.wrap (a + b)))
    | .sub=>some (.int k (k.wrap (a - b)))
    | .mul=>some (.int k (k.wrap (a * b)))
    | .quo=>if b≠0 then some (.int k (k.wrap (a.tdiv b))) else none
    | .rem=>if b≠0 then some (.int k (a.tmod b)) else none
    | .and=>some (.int k (k.wrap (BitVec.ofInt k.bits a &&& BitVec.ofInt k.bits b).toNat))
    | .or=>some (.int k (k.wrap (BitVec.ofInt k.bits a ||| BitVec.ofInt k.bits b).toNat))
    | .eql=>some (.bool (decide (a=b)))
    | .neq=>some (.bool (decide (a≠b)))
    | .lss=>some (.bool (decide (a < b)))
    | .leq=>some (.bool (decide (a≤b)))
    | .gtr=>some (.bool (decide (b < a)))
    | .geq=>some (.bool (decide (b≤a)))
    | _=>none
   else none
 | .str a,.str b=>
   match op with
   | .add=>if a.size + b.size < 9223372036854775808 then some (.str (a++b)) else none
   | .eql=>some (.bool (decide (a=b)))
   | .neq=>some (.bool (decide (a≠b)))
   | .lss=>some (.bool (Op.bytesLess a.data.toList b.data.toList))
   | _=>none
 | _,_=>none
def uc (op:BinOp) (x y:AV):Option AV:=
 match x,y with
 | .int k a,.int _ b=>if 0≤b then
    match op with
    | .shl=>some (.int k (k.wrap (a * 2 ^ (min b.toNat k.bits))))
    | .shr=>some (.int k (a.fdiv (2 ^ (min b.toNat k.bits))))
    | _=>none
   else none
 | _,_=>none
def qn (neq:Bool) (x y:AV):Option AV:=
 match x,y with
 | .bool a,.bool b=>some (.bool (if neq then decide (a≠b) else decide (a=b)))
 | _,_=>none
def ud (kd:Nat) (neq:Bool) (x:AV):Option AV:=
 match isNil kd x with
 | some b=>some (.bool (if neq then !b else b))
 | none=>none
def Mm (op:UnOp) (x:AV):Option AV:=
 match op,x with
 | .not,.bool b=>some (.bool (!b))
 | .neg,.int k n=>some (.int k (k.wrap (0 - n)))
 | _,_=>none
def rO (zs:List AV):List (Nat×Nat×AV)→Option (List AV)
 | []=>some zs
 | (off,sz,x)::r=>if x.val=true∧x.cells.length=sz∧off + sz≤zs.length then rO (ag zs off (x.cells.map AV.ab)) r else none
def k7 (xs:List AV) (esz:Nat):List (Nat×AV)→Option (List AV)
 | []=>some xs
 | (i,x)::r=>if x.val=true∧x.cells.length=esz∧i < xs.length then k7 (xs.set i (aM x)) esz r else none
def px (sz:Option Nat) (x:AV) (H:List aa):Option AV:=
 match x with
 | .ptr id off=>match H[id]? with
   | some (.cells es)=>match sz with
     | some m=>if off + m≤es.length then some (.agg (((es.drop off).take m).map AV.drop)) else none
     | none=>if off < es.length then some (es.getD off .any).ab else none
   | _=>none
 | .ai y=>match sz with
   | some m=>if y.cells.length=m then some (.agg y.cells) else none
   | none=>if y.one=true then some y.ab else none
 | _=>none
def zK (off:Nat) (sz:Option Nat) (xs:List AV):Option AV:=
 match sz with
 | some m=>if off + m≤xs.length then some (.agg ((xs.drop off).take m)) else none
 | none=>if off < xs.length∧(xs.getD off .any).one=true then some (xs.getD off .any) else none
def kq (off:Nat) (sz:Option Nat) (x:AV):Option AV:=
 match x with
 | .ptr id o=>some (.ptr id (o + off))
 | .ai y=>(zK off sz y.cells).map .ai
 | _=>none
def ue (off:Nat) (sz:Option Nat) (x:AV):Option AV:=
 match x with
 | .agg xs=>(zK off sz xs).map AV.drop
 | _=>none
def vn (esz:Nat) (x:AV):Bool:=
 match x with
 | .ap _ xs=>xs.all fun z=>z.cells.length == esz
 | _=>true
def kr (esz:Nat) (x i:AV):Option AV:=
 match x,i with
 | .ap _ xs,.int _ i=>if 0≤i∧i.toNat < xs.length then some (.ai (xs.getD i.toNat .any)) else none
 | .a8 id off len _,.int _ i=>if 0≤i∧i.toNat < len then some (.ptr id (off + i.toNat * esz)) else none
 | _,_=>none
def ma (n:Nat) (x i:AV):Option AV:=
 match x,i with
 | .agg xs,.int _ i=>if xs.length=n∧0≤i∧i.toNat < n then some (xs.getD i.toNat .any).drop else none
 | _,_=>none
def mb (x i:AV):Option AV:=
 match x,i with
 | .str s,.int _ i=>if 0≤i∧i.toNat < s.size then some (.int .u8 (s.data.toList.getD i.toNat 0).toNat) else none
 | _,_=>none
def zL (kd:Nat) (x:AV):Bool:=
 match kd,x with
 | 0,.str _=>true
 | 1,.ah=>true
 | 1,.ap _ _=>true
 | 1,.a8 _ _ _ _=>true
 | 2,.iS=>true
 | 2,.map _=>true
 | _,_=>false
def FG (x:AV) (H:List aa):Option AV:=
 match x with
 | .str s=>some (.int .i64 s.size)
 | .ah=>some (.int .i64 0)
 | .ap _ xs=>some (.int .i64 xs.length)
 | .a8 _ _ len _=>some (.int .i64 len)
 | .iS=>some (.int .i64 0)
 | .map id=>match H[id]? with
   | some (.map es)=>some (.int .i64 es.length)
   | _=>none
 | _=>none
def ou (x:AV) (i:Nat):Option AV:=
 match x with
 | .tuple xs=>if i < xs.length then some (xs.getD i .any).ab else none
 | _=>none
def mc (x:AV):Option AV:=
 match x with
 | .ptr .. | .ai _=>some x
 | .fn (.func _) _ _=>some x
 | _=>none
def ow (k:IntKind) (x:AV):Option AV:=
 match x with
 | .int _ n=>some (.int k (k.wrap n))
 | _=>none
def Mn (big:Bool) (x y:AV):Option AV:=
 match x,y with
 | .int k a,.int _ b=>some (.int k (if big then (if b > a then b else a) else (if b < a then b else a)))
 | _,_=>none
def zM (m:Nat) (p x:AV) (H:List aa):Option (List aa):=
 match p with
 | .ptr id off=>match H[id]? with
   | some (.cells es)=>if x.val=true∧x.cells.length=m∧off + m≤es.length∧x.cells.all AV.one=true∧aj (id + 1) (x.cells.map AV.ab)=true then
      some (H.set id (.cells (ag es off (x.cells.map AV.ab)))) else none
   | _=>none
 | _=>none
def rP (p x:AV) (H:List aa):Option (List aa):=
 match p with
 | .ptr id off=>match H[id]? with
   | some (.cells es)=>if off < es.length∧x.one=true∧x.aZ (id + 1)=true then some (H.set id (.cells (es.set off x))) else none
   | _=>none
 | _=>none
def vq (esz bytes:Nat) (s x:AV):Option (List AV):=
 match mO esz s,dw x with
 | some xs,some ys=>if (xs.length + ys.length) * bytes≤140737488355328∧(ys.all fun y=>y.cells.length == esz && y.cells.all AV.one)=true then some (xs++ys) else none
 | _,_=>none
def zO (bytes:Nat) (z n:AV) (H:List aa):Option (AV×List aa):=
 match n with
 | .int .i64 n=>if 0≤n∧n.toNat * bytes≤140737488355328∧aj (H.length + 1) (flat (List.replicate n.toNat (bL z)))=true then
    some (.a8 H.length 0 n.toNat n.toNat,H++[.cells (flat (List.replicate n.toNat (bL z)))]) else none
 | _=>none
def uf (esz bytes:Nat) (n:AV):Option AV:=
 match n with
 | .int .i64 n=>if 0≤n∧n.toNat * bytes≤140737488355328 then some (.ap esz []) else none
 | _=>none
def qo (x:Option AV) (d:Nat):Option Nat:=
 match x with
 | none=>some d
 | some (.int _ i)=>if 0≤i then some i.toNat else none
 | _=>none
def zP (esz:Nat) (x:AV) (lo hi mx:Option AV):Option AV:=
 match dw x with
 | some xs=>match qo hi xs.length,qo lo 0 with
   | some h,some l=>if l≤h∧h≤xs.length then
      match mx with
      | none=>some (.ap 0 ((xs.take h).drop l))
      | some m=>match qo (some m) 0 with
        | some m=>if hi.isSome=true∧m=h∧(xs.all fun y=>y.cells.length == esz)=true then some (.ap esz ((xs.take h).drop l)) else none
        | none=>none
     else none
   | _,_=>none
 | none=>none
def D9 (esz:Nat) (d s:AV) (H:List aa):Option (AV×List aa):=
 match d,uQ esz s H with
 | .a8 id off len _,some (n,ys)=>match H[id]? with
   | some (.cells es)=>if (ys.take (min n len * esz)).all AV.one=true∧off + min n len * esz≤es.length∧aj (id + 1) ((ys.take (min n len * esz)).map AV.ab)=true then
      some (.int .i64 (min n len:Nat),H.set id (.cells (ag es off ((ys.take (min n len * esz)).map AV.ab)))) else none
   | _=>none
 | _,_=>none
def py (esz:Nat) (x:AV) (H:List aa):Option (AV×List aa):=
 match x with
 | .a8 id off len cap=>match H[id]? with
   | some (.cells es)=>if 0 < esz∧len≤cap∧off + len * esz≤es.length∧(es.drop off).all AV.one=true then some (.ap 0 (chunks esz len (es.drop off)),H.set id .dead) else none
   | _=>none
 | .any=>none
 | .agg _=>none
 | .ptr _ _=>none
 | .oN=>none
 | x=>some (x.ab,H)
def me (esz:Nat):List AV→List aa→Option (List AV×List aa)
 | [],H=>some ([],H)
 | .agg _::_,_=>none
 | x::r,H=>match py esz x H with
   | some (y,H')=>match me esz r H' with
     | some (ys,H'')=>some (y::ys,H'')
     | none=>none
   | none=>none
def zQ (esz:Nat) (x:AV) (H:List aa):Option (AV×List aa):=
 match x with
 | .agg xs=>match me esz xs H with
   | some (ys,H')=>some (.agg ys,H')
   | none=>none
 | x=>py esz x H
def qp (esz:Nat) (x:AV) (lo hi mx:Option AV):Option AV:=
 match x with
 | .a8 id off len cap=>match mx,qo hi len,qo lo 0 with
   | none,some h,some l=>if l≤h∧h≤cap then some (.a8 id (if cap=l then off else off + l * esz) (h - l) (cap - l)) else none
   | _,_,_=>none
 | x=>if vn esz x=true then zP esz x lo hi mx else none
def mf (x:AV) (lo hi:Option AV):Option AV:=
 match x with
 | .str s=>match qo hi s.size,qo lo 0 with
   | some h,some l=>if l≤h∧h≤s.size then some (.str (s.extract l h)) else none
   | _,_=>none
 | _=>none
def ox (x:AV):Option AV:=match x with | .str s=>some (.str s) | _=>none
def vr:List AV→Option (List UInt8)
 | []=>some []
 | .int .u8 n::r=>match vr r with
   | some l=>if 0≤n∧n < 256 then some (UInt8.ofNat n.toNat::l) else none
   | none=>none
 | _=>none
def ug (x:AV):Option AV:=
 match dw x with
 | some ys=>match vr ys with
   | some l=>some (.str ⟨l.toArray⟩)
   | none=>none
 | none=>none
def oz (own:Nat) (x:AV):Option AV:=
 match x with
 | .str s=>if s.size < 9223372036854775808 then some (.ap own (bj s.data.toList)) else none
 | _=>none
def qq (kd:Nat) (zero m k:AV) (ok:Bool) (H:List aa):Option AV:=
 match m with
 | .iS=>if cC kd k k=some true then some (if ok then .tuple [aM zero,.bool false] else aM zero) else none
 | .map id=>match H[id]? with
   | some (.map es)=>match di kd k es 0 with
     | some (some (_,v))=>some (if ok then .tuple [v.drop,.bool true] else v.drop)
     | some none=>if cC kd k k=some true then some (if ok then .tuple [aM zero,.bool false] else aM zero) else none
     | none=>none
   | _=>none
 | _=>none
def vu (kd:Nat) (m k x:AV) (H:List aa):Option (List aa):=
 match m with
 | .map id=>match H[id]? with
   | some (.map es)=>if k.aZ (id + 1)=true∧x.aZ (id + 1)=true∧x.val=true then match di kd k es 0 with
      | some (some (i,_))=>some (H.set id (.map (es.set i (k,aM x))))
      | some none=>if cC kd k k=some true then some (H.set id (.map (es++[(k,aM x)]))) else none
      | none=>none
     else none
   | _=>none
 | _=>none
section
variable {z:AV} {φ:AV→Prop}
theorem FH {op:BinOp} {x y:AV} (h:FF op x y=some z) (hφ:φ z):de op x y φ:=by
 unfold FF at h
 split at h
 ·split at h <;> try cases h
  rename_i hk
  refine ⟨hk,?_⟩
  split at h <;> first | (cases h;exact hφ) | (split at h <;> cases h;exact ⟨by assumption,hφ⟩) | cases h
 ·split at h <;> first | (cases h;exact hφ) | (split at h <;> cases h;exact ⟨by assumption,hφ⟩) | cases h
 ·cases h
theorem xV {op:BinOp} {x y:AV} (h:uc op x y=some z) (hφ:φ z):dS op x y φ:=by
 unfold uc at h
 split at h <;> try cases h
 split at h <;> try cases h
 rename_i hb
 refine ⟨hb,?_⟩
 split at h <;> cases h <;> exact hφ
theorem vv {neq:Bool} {x y:AV} (h:qn neq x y=some z) (hφ:φ z):cU neq x y φ:=by
 unfold qn at h;unfold cU
 split at h <;> cases h <;> exact hφ
theorem xW {kd:Nat} {neq:Bool} {x:AV} (h:ud kd neq x=some z) (hφ:φ z):dj kd neq x φ:=by
 unfold ud at h;unfold dj
 split at h <;> cases h
 rename_i hb;rw [hb];exact hφ
theorem Jc {op:UnOp} {x:AV} (h:Mm op x=some z) (hφ:φ z):y7 op x φ:=by
 unfold Mm at h;unfold y7
 split at h <;> cases h <;> exact hφ
theorem vw {φ:List AV→Prop} {r:List AV} (hφ:φ r):∀ {ps:List (Nat×Nat×AV)} {zs:List AV},rO zs ps=some r→gI zs ps φ
 | [],zs,h=>by simp only [rO] at h;cases h;exact hφ
 | (off,sz,x)::ps,zs,h=>by
   simp only [rO] at h
   split at h <;> try cases h
   rename_i hc
   exact ⟨hc.1,hc.2.1,hc.2.2,vw hφ h⟩
theorem pA {esz:Nat} {φ:List AV→Prop} {r:List AV} (hφ:φ r):∀ {ps:List (Nat×AV)} {zs:List AV},k7 zs esz ps=some r→bi zs esz ps φ
 | [],zs,h=>by simp only [k7] at h;cases h;exact hφ
 | (i,x)::ps,zs,h=>by
   simp only [k7] at h
   split at h <;> try cases h
   rename_i hc
   exact ⟨hc.1,hc.2.1,hc.2.2,pA hφ h⟩
theorem nO {sz:Option Nat} {x:AV} {H:List aa} (h:px sz x H=some z) (hφ:φ z):aR sz x H φ:=by
 unfold px at h;unfold aR
 split at h <;> try cases h
 ·split at h <;> try cases h
  rename_i bk
  simp only [bk]
  split at h <;> (split at h <;> cases h) <;> exact ⟨by assumption,hφ⟩
 ·simp only
  split at h <;> (split at h <;> cases h) <;> exact ⟨by assumption,hφ⟩
theorem BN {off:Nat} {sz:Option Nat} {xs:List AV} (h:zK off sz xs=some z) (hφ:φ z):apart off sz xs φ:=by
 unfold zK at h;unfold apart
 split at h <;> split at h <;> cases h
 ·exact ⟨by assumption,hφ⟩
 ·rename_i hc;exact ⟨hc.1,hc.2,hφ⟩
theorem oZ {off:Nat} {sz:Option Nat} {x:AV} (h:kq off sz x=some z) (hφ:φ z):ak off sz x φ:=by
 unfold kq at h;unfold ak
 split at h <;> try cases h
 ·exact hφ
 ·obtain ⟨u,hu,rfl⟩:=Option.map_eq_some_iff.1 h
  exact BN hu hφ
theorem xX {off:Nat} {sz:Option Nat} {x:AV} (h:ue off sz x=some z) (hφ:φ z):eY off sz x φ:=by
 unfold ue at h;unfold eY
 split at h <;> try cases h
 obtain ⟨u,hu,rfl⟩:=Option.map_eq_some_iff.1 h
 exact BN hu hφ
theorem vx {esz:Nat} {x:AV} (h:vn esz x=true):∀ own xs,x=.ap own xs→∀ z∈xs,z.cells.length=esz:=by
 intro own xs e z hz
 subst e
 simp only [vn,List.all_eq_true,beq_iff_eq] at h
 exact h z hz
theorem o7 {esz:Nat} {x i:AV} (h:kr esz x i=some z) (hφ:φ z):ay esz x i φ:=by
 unfold kr at h;unfold ay
 split at h <;> try cases h
 ·split at h <;> cases h
  rename_i hc;exact ⟨hc.1,hc.2,hφ⟩
 ·split at h <;> cases h
  rename_i hc;exact ⟨hc.1,hc.2,hφ⟩
theorem qt {x i:AV} (h:mb x i=some z) (hφ:φ z):bH x i φ:=by
 unfold mb at h;unfold bH
 split at h <;> try cases h
 split at h <;> cases h
 rename_i hc;exact ⟨hc.1,hc.2,hφ⟩
theorem qv {n:Nat} {x i:AV} (h:ma n x i=some z) (hφ:φ z):bP n x i φ:=by
 unfold ma at h;unfold bP
 split at h <;> try cases h
 split at h <;> cases h
 rename_i hc;exact ⟨hc.1,hc.2.1,hc.2.2,hφ⟩
theorem BO {kd:Nat} {x:AV} (h:zL kd x=true):aL kd x:=by
 unfold zL at h;unfold aL
 split at h <;> first | trivial | cases h
theorem FI {x:AV} {H:List aa} (h:FG x H=some z) (hφ:φ z):fq x H φ:=by
 unfold FG at h;unfold fq
 split at h <;> try cases h
 ·exact hφ
 ·exact hφ
 ·exact fun _=>hφ
 ·exact hφ
 ·exact hφ
 ·split at h <;> cases h
  rename_i bk
  simp only [bk];exact hφ
theorem th {x:AV} {i:Nat} (h:ou x i=some z) (hφ:φ z):bB x i φ:=by
 unfold ou at h;unfold bB
 split at h <;> try cases h
 split at h <;> cases h
 exact ⟨by assumption,hφ⟩
theorem qw {x:AV} (h:mc x=some z) (hφ:φ z):bQ x φ:=by
 unfold mc at h;unfold bQ
 split at h <;> cases h <;> exact hφ
theorem tn {k:IntKind} {x:AV} (h:ow k x=some z) (hφ:φ z):cA k x φ:=by
 unfold ow at h;unfold cA
 split at h <;> cases h <;> exact hφ
theorem Jd {big:Bool} {x y:AV} (h:Mn big x y=some z) (hφ:φ z):wT big x y φ:=by
 unfold Mn at h;unfold wT
 split at h <;> cases h <;> exact hφ
theorem Hc {m:Nat} {p x:AV} {H H':List aa} {K:List aa→Prop} (h:zM m p x H=some H') (hK:K H'):ij m p x H K:=by
 unfold zM at h;unfold ij
 split at h <;> try cases h
 split at h <;> try cases h
 rename_i bk
 split at h <;> cases h
 rename_i hc
 simp only [bk]
 exact ⟨hc.1,hc.2.1,hc.2.2.1,hc.2.2.2.1,hc.2.2.2.2,hK⟩
theorem BP {p x:AV} {H H':List aa} {K:List aa→Prop} (h:rP p x H=some H') (hK:K H'):dT p x H K:=by
 unfold rP at h;unfold dT
 split at h <;> try cases h
 split at h <;> try cases h
 rename_i bk
 split at h <;> cases h
 rename_i hc
 simp only [bk]
 exact ⟨hc.1,hc.2.1,hc.2.2,hK⟩
theorem Ea {esz bytes:Nat} {s x:AV} {r:List AV} {φ:List AV→Prop} (h:vq esz bytes s x=some r) (hφ:φ r):bp esz bytes s x φ:=by
 unfold vq at h;unfold bp
 split at h <;> try cases h
 rename_i xs ys h1 h2
 split at h <;> cases h
 rename_i hc
 simp only [h1,h2]
 refine ⟨hc.1,?_,hφ⟩
 intro y hy
 have:=List.all_eq_true.1 hc.2 y hy
 simpa using this
theorem Hd {esz bytes:Nat} {x n:AV} {H H':List aa} {K:AV→List aa→Prop} (h:zO bytes x n H=some (z,H')) (hK:K z H'):fX esz bytes x n H K:=by
 unfold zO at h;unfold fX
 split at h <;> try cases h
 split at h <;> cases h
 rename_i hc
 exact ⟨hc.1,hc.2.1,hc.2.2,hK⟩
theorem xY {esz bytes:Nat} {n:AV} (h:uf esz bytes n=some z) (hφ:φ z):iW esz bytes n φ:=by
 unfold uf at h;unfold iW
 split at h <;> try cases h
 split at h <;> cases h
 rename_i hc
 exact ⟨hc.1,hc.2,hφ⟩
theorem mg {x:Option AV} {d k:Nat} {φ:Nat→Prop} (h:qo x d=some k) (hφ:φ k):dx x d φ:=by
 unfold qo at h;unfold dx
 split at h
 ·cases h;exact hφ
 ·split at h <;> cases h
  rename_i hc
  exact ⟨hc,hφ⟩
 ·cases h
theorem He {esz:Nat} {x:AV} {lo hi mx:Option AV} (h:zP esz x lo hi mx=some z) (hφ:φ z):eJ esz x lo hi mx φ:=by
 unfold zP at h;unfold eJ
 split at h <;> try cases h
 rename_i xs ej
 simp only [ej]
 split at h <;> try cases h
 rename_i hh ll h1 h2
 split at h <;> try cases h
 rename_i hc
 refine mg h1 (mg h2 ⟨hc.1,hc.2,?_⟩)
 split at h
 ·cases h;exact hφ
 ·split at h <;> try cases h
  rename_i m hm
  split at h <;> cases h
  rename_i hc
  refine ⟨hc.1,mg hm ⟨hc.2.1,?_,hφ⟩⟩
  intro y hy
  have:=List.all_eq_true.1 hc.2.2 y hy
  simpa using this
theorem Je {esz:Nat} {d s:AV} {H H':List aa} {K:AV→List aa→Prop} (h:D9 esz d s H=some (z,H')) (hK:K z H'):jF esz d s H K:=by
 unfold D9 at h;unfold jF
 split at h <;> try cases h
 rename_i hs
 split at h <;> try cases h
 rename_i bk
 split at h <;> cases h
 rename_i hc
 simp only [hs,bk]
 exact ⟨hc.1,hc.2.1,hc.2.2,hK⟩
theorem vz {esz:Nat} {x:AV} {H H':List aa} {K:AV→List aa→Prop} (h:py esz x H=some (z,H')) (hK:K z H'):eR esz x H K:=by
 unfold py at h;unfold eR
 split at h
 ·split at h <;> try cases h
  rename_i bk
  split at h <;> cases h
  rename_i hc
  simp only [dC,bk]
  exact ⟨hc.1,hc.2.1,hc.2.2.1,hc.2.2.2,hK⟩
 ·cases h
 ·cases h
 ·cases h
 ·cases h
 ·rename_i h1 h2 h3 h4 h5
  cases h
  cases x <;> first | exact hK | exact absurd rfl h2 | exact absurd rfl h5 | exact absurd rfl (h1 _ _ _ _) | exact absurd rfl (h3 _) | exact absurd rfl (h4 _ _)
theorem Hf {esz:Nat} {x:AV} {H H':List aa} {K:AV→List aa→Prop} (hx:∀ xs,x≠.agg xs) (h:py esz x H=some (z,H')) (hK:K z H'):dC esz x H K:=by
 have:=vz (K:=K) h hK
 unfold eR at this
 split at this
 ·exact absurd rfl (hx _)
 ·cases h
 ·exact this
theorem xZ {esz:Nat}:∀ {xs:List AV} {H H':List aa} {ys:List AV} {K:List AV→List aa→Prop},me esz xs H=some (ys,H')→K ys H'→jG esz xs H K
 | [],H,H',ys,K,h,hK=>by simp only [me] at h;cases h;exact hK
 | x::r,H,H',ys,K,h,hK=>by
   have hx:∀ xs,x≠.agg xs:=fun xs e=>by subst e;simp [me] at h
   have h':(match py esz x H with
    | some (y,H')=>match me esz r H' with
      | some (ys,H'')=>some (y::ys,H'')
      | none=>none
    | none=>none)=some (ys,H'):=by
    cases x <;> first | exact absurd rfl (hx _) | (simpa only [me] using h)
   split at h' <;> try cases h'
   rename_i y H1 h1
   split at h' <;> cases h'
   rename_i ys' h2
   exact Hf (K:=fun y H'=>jG esz r H' fun ys H''=>K (y::ys) H'') hx h1 (xZ (K:=fun ys H''=>K (y::ys) H'') h2 hK)
theorem Hg {esz:Nat} {x:AV} {H H':List aa} {K:AV→List aa→Prop} (h:zQ esz x H=some (z,H')) (hK:K z H'):eR esz x H K:=by
 unfold zQ at h
 split at h
 ·split at h <;> cases h
  rename_i ys hs
  exact xZ (K:=fun ys H'=>K (.agg ys) H') hs hK
 ·exact vz h hK
theorem vA {esz:Nat} {x:AV} {lo hi mx:Option AV} (h:qp esz x lo hi mx=some z) (hφ:φ z):aV esz x lo hi mx φ:=by
 unfold qp at h;unfold aV
 split at h
 ·split at h <;> try cases h
  rename_i h1 h2
  split at h <;> cases h
  rename_i hc
  simp only
  unfold eO
  exact mg h1 (mg h2 ⟨hc.1,hc.2,hφ⟩)
 ·rename_i eM
  split at h <;> try cases h
  rename_i hl
  split
  ·exact absurd rfl (eM _ _ _ _)
  ·exact ⟨vx hl,He h hφ⟩
theorem qx {x:AV} {lo hi:Option AV} (h:mf x lo hi=some z) (hφ:φ z):ca x lo hi φ:=by
 unfold mf at h;unfold ca
 split at h <;> try cases h
 split at h <;> try cases h
 rename_i hh ll h1 h2
 split at h <;> cases h
 rename_i hc
 exact mg h1 (mg h2 ⟨hc.1,hc.2,hφ⟩)
theorem tu {x:AV} (h:ox x=some z) (hφ:φ z):fI x φ:=by
 unfold ox at h;unfold fI
 split at h <;> cases h <;> exact hφ
theorem BQ:∀ {ys:List AV} {l:List UInt8},vr ys=some l→ys=bj l
 | [],l,h=>by simp only [vr] at h;cases h;rfl
 | y::ys,l,h=>by
   unfold vr at h
   split at h
   ·rename_i e;cases e
   ·rename_i n r e
    cases e
    split at h <;> try cases h
    rename_i l' hl
    split at h <;> cases h
    rename_i hn
    have:=BQ hl
    subst this
    simp only [bj,List.map_cons]
    congr 1
    have:(UInt8.ofNat n.toNat).toNat=n.toNat:=by
     rw [UInt8.toNat_ofNat']
     exact Nat.mod_eq_of_lt (by have:(2:Nat)^8=256:=rfl
                                omega)
    rw [this]
    congr 1
    omega
   ·cases h
theorem x7 {x:AV} (h:ug x=some z) (hφ:φ z):jE x φ:=by
 unfold ug at h;unfold jE
 split at h <;> try cases h
 rename_i ys pQ
 split at h <;> cases h
 rename_i l hl
 simp only [pQ]
 exact ⟨l,BQ hl,hφ⟩
theorem tv {own:Nat} {x:AV} (h:oz own x=some z) (hφ:φ z):fc own x φ:=by
 unfold oz at h;unfold fc
 split at h <;> try cases h
 split at h <;> cases h
 exact ⟨by assumption,hφ⟩
theorem vB {kd:Nat} {zero m k:AV} {ok:Bool} {H:List aa} (h:qq kd zero m k ok H=some z) (hφ:φ z):cr kd zero m k ok H φ:=by
 unfold qq at h;unfold cr
 split at h <;> try cases h
 ·split at h <;> cases h
  exact ⟨by assumption,hφ⟩
 ·split at h <;> try cases h
  rename_i bk
  simp only [bk]
  split at h
  ·rename_i hf;cases h;simp only [hf];exact hφ
  ·rename_i hf
   split at h <;> cases h
   simp only [hf]
   exact ⟨by assumption,hφ⟩
  ·cases h
theorem Eb {kd:Nat} {m k x:AV} {H H':List aa} {K:List aa→Prop} (h:vu kd m k x H=some H') (hK:K H'):fx kd m k x H K:=by
 unfold vu at h;unfold fx
 split at h <;> try cases h
 split at h <;> try cases h
 rename_i bk
 simp only [bk]
 split at h <;> try cases h
 rename_i hc
 refine ⟨hc.1,hc.2.1,hc.2.2,?_⟩
 split at h
 ·rename_i hf;cases h;simp only [hf];exact hK
 ·rename_i hf
  split at h <;> cases h
  simp only [hf]
  exact ⟨by assumption,hK⟩
 ·cases h
end
end Go.aH
