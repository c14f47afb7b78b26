/- Part 10 of 17 of the proof. -/
import Derived.Test.YtljchnfgjdjobaaGreatXai
import Derived.Test.YtljchnfgjdjobaaGreatXag
import Derived.KernelRfl
import Derived.Test.YtljchnfgjdjobaaGreatXah
set_option linter.unusedVariables false
set_option linter.unusedSimpArgs false
set_option linter.defProp false
set_option linter.unusedSectionVars false
section
set_option maxRecDepth 100000
namespace Go.aK
open Go Go.Proofs Go.fo
theorem EV (n:Int) (h:0≤n∧n < 18446744073709551616):IntKind.u64.wrap n=n:=by
 have:IntKind.u64.bits=64:=rfl
 have:IntKind.u64.signed=false:=rfl
 simp only [IntKind.wrap, *]
 have e:n % 2 ^ 64=n:=agH h.1 (by omega)
 rw [e]
 simp
theorem WM {n:Nat} (h:n < 4294967296) (φ:AV→Prop):dk .and (.int .u64 (n:Int)) (.int .u64 4294967295) φ=φ (.int .u64 (n:Int)):=by
 have e:(BitVec.ofInt IntKind.u64.bits (n:Int) &&& BitVec.ofInt IntKind.u64.bits 4294967295).toNat=n:=by
  show (BitVec.ofInt 64 (n:Int) &&& BitVec.ofInt 64 4294967295).toNat=n
  rw [BitVec.toNat_and]
  have e1:(BitVec.ofInt 64 (n:Int)).toNat=n:=by rw [BitVec.toNat_ofInt];omega
  have e2:(BitVec.ofInt 64 4294967295).toNat=2 ^ 32 - 1:=rfl
  rw [e1,e2,Nat.and_two_pow_sub_one_eq_mod,Nat.mod_eq_of_lt h]
 simp only [dk,e,true_and]
 rw [EV _ (by omega)]
theorem WN {n:Nat} (h:n < 4294967296) (φ:AV→Prop):ey .shr (.int .u64 (n:Int)) (.int .u64 32) φ=φ (.int .u64 0):=by
 have e:Int.fdiv (n:Int) (2 ^ min (32:Int).toNat IntKind.u64.bits)=0:=by
  show Int.fdiv (n:Int) (2 ^ 32)=0
  rw [Int.fdiv_eq_ediv_of_nonneg _ (by decide)]
  omega
 simp only [ey,e]
 simp
theorem aeu {n:Nat} (h:n < 4294967296):Pure Tryz.prog 213 [.int .u64 1,.int .u64 (n:Int)] (.tuple [.int .u64 0,.int .u64 (n:Int)]):=by
 refine fun H=>ZV.2.calls rfl ?_
 simp only [ZV,aH]
 have a1:∀ φ:AV→Prop,dk .and (.int .u64 1) (.int .u64 4294967295) φ=φ (.int .u64 1):=fun φ=>WM (n:=1) (by decide) φ
 have s1:∀ φ:AV→Prop,ey .shr (.int .u64 1) (.int .u64 32) φ=φ (.int .u64 0):=fun φ=>WN (n:=1) (by decide) φ
 have a0:∀ φ:AV→Prop,dk .and (.int .u64 0) (.int .u64 4294967295) φ=φ (.int .u64 0):=fun φ=>WM (n:=0) (by decide) φ
 have s0:∀ φ:AV→Prop,ey .shr (.int .u64 0) (.int .u64 32) φ=φ (.int .u64 0):=fun φ=>WN (n:=0) (by decide) φ
 have w1:IntKind.u64.wrap (1 * (n:Int))=n:=by rw [Int.one_mul];exact EV _ (by omega)
 have w0:IntKind.u64.wrap 0=0:=EV _ (by omega)
 simp +contextual only [a1,s1,a0,s0,WM h,WN h,w1,w0,Int.zero_mul,Int.mul_zero,Int.add_zero,sZ,Nat.reduceEqDiff,Nat.reduceAdd,↓reduceIte,reduceCtorEq]
 have:=u0 (H:=H) (e:=[]) (s:=4) (s':=5) (v:=.int .u64 0) (v':=.int .u64 (n:Int)) (by decide) rfl rfl rfl rfl
 rwa [acA] at this
theorem aev {n:Nat} (h:n < 4294967296):Pure Tryz.prog 174 [.int .u64 1,.int .u64 (n:Int)] (.tuple [.int .u64 0,.int .u64 (n:Int)]):=by
 refine fun H=>ZE.2.calls rfl ?_
 simp only [ZE,aH]
 simp +contextual only [sZ,Nat.reduceEqDiff,Nat.reduceAdd,↓reduceIte,reduceCtorEq]
 refine ae (aeu h) ?_
 simp +contextual only [sZ,Nat.reduceEqDiff,Nat.reduceAdd,Nat.reduceLT,↓reduceIte,reduceCtorEq]
 have:=u0 (H:=H) (e:=[]) (s:=4) (s':=5) (v:=.int .u64 0) (v':=.int .u64 (n:Int)) (by decide) rfl rfl rfl rfl
 rwa [acA] at this
def de (l:List Int):aa:=.cells (ints l)
def dY (i n:Nat) (x:Int):List Int:=List.replicate i x++List.replicate (n - i) 0
theorem mkI (n:Nat) (H:List aa) (K:AV→List aa→Prop) (h:n≤1000000000):fG 1 8 (.int .i64 0) (.int .i64 (n:Int)) H K=K (.ba H.length 0 n n) (H++[de (dY 0 n 0)]):=by
 have e:flat (List.replicate n (bV (.int .i64 0)))=ints (dY 0 n 0):=by
  rw [← pR];simp [dY,ints,bV]
 simp only [fG,aad,e,aT,de,true_and,eq_iff_iff]
 constructor
 ·rintro ⟨_,_,h⟩;exact h
 ·exact fun k=>⟨by omega,by omega,k⟩
theorem mC (l:List Int) (k:Nat):(ints l).take k=ints (l.take k):=by simp [ints,List.map_take]
theorem ua (l:List Int) (k:Nat):(ints l).drop k=ints (l.drop k):=by simp [ints,List.map_drop]
theorem mD (l m:List Int):ints l++ints m=ints (l++m):=by simp [ints]
theorem wy (l:List Int):(ints l).map AV.ab=ints l:=by simp [ints,AV.ab]
theorem mE (l:List Int):(ints l).all AV.one=true:=by simp [ints,AV.one]
theorem ya (x:Int) {i m n:Nat} (h:i + m≤n):ai (ints (dY i n x)) i (ints (List.replicate m x))=ints (dY (i + m) n x):=by
 unfold ai
 rw [mC,au,ua,mD,mD,acR]
 congr 1
 unfold dY
 rw [abc (by simp),Ue (by simp),ac8,aa9 (by simp),List.nil_append,acR,List.drop_replicate,← abb,ags]
 congr 2;omega
theorem aaS (x:Int) {id n:Nat} {H:List aa} (hg:H[id]?=some (de (dY 0 n 0))) (K:AV→List aa→Prop) (hK:K (.int .i64 (min 1 n:Nat)) (H.set id (de (dY (min 1 n) n x)))):kC 1 (.ba id 0 n n) (.ak 0 (ints [x])) H K:=by
 have e0:dY 0 n 0=dY 0 n x:=by simp [dY]
 rw [e0] at hg
 have ec:yV 1 (.ak 0 (ints [x])) H=some (1,ints [x]):=rfl
 have et:(ints [x]).take (min 1 n * 1)=ints (List.replicate (min 1 n) x):=by
  rcases Nat.eq_zero_or_pos n with rfl | h
  ·rfl
  ·rw [show min 1 n=1 by omega];rfl
 have:=ya x (i:=0) (m:=min 1 n) (n:=n) (by omega)
 rw [acC] at this
 simp only [kC,ec,hg,de,et,wy,mE,aT,this,au]
 exact ⟨trivial,by simp [dY];omega,trivial,hK⟩
theorem aaT (x:Int) {id i n:Nat} (h0:0 < i) (h1:i < n) {H:List aa} (hg:H[id]?=some (de (dY i n x))) (K:AV→List aa→Prop) (hK:K (.int .i64 (min i (n - i):Nat)) (H.set id (de (dY (i + min i (n - i)) n x)))):kC 1 (.ba id i (n - i) (n - i)) (.ba id 0 i n) H K:=by
 have hl:(dY i n x).length=n:=by simp [dY];omega
 have ec:yV 1 (.ba id 0 i n) H=some (i,ints (dY i n x)):=by
  simp only [yV,hg,de,au,hl,List.drop_zero]
  rw [if_pos (by omega)]
 have et:(ints (dY i n x)).take (min i (n - i) * 1)=ints (List.replicate (min i (n - i)) x):=by
  rw [adG,mC]
  congr 1
  unfold dY
  rw [abc (by simp;omega),List.take_replicate]
  congr 1;omega
 have:=ya x (i:=i) (m:=min i (n - i)) (n:=n) (by omega)
 simp only [kC,ec,hg,de,et,wy,mE,aT,this,au,hl]
 exact ⟨trivial,by omega,trivial,hK⟩
theorem slA {id i n:Nat} (h:i < n) (φ:AV→Prop):bo 1 (.ba id 0 n n) (some (.int .i64 (i:Int))) none none φ=φ (.ba id i (n - i) (n - i)):=by
 simp only [bo,iw,dV,aad,eq_iff_iff]
 rw [if_neg (by omega)]
 constructor
 ·intro h;simpa using h.2.2.2
 ·intro k;exact ⟨by omega,by omega,sU _,by simpa using k⟩
theorem slB {id i n:Nat} (h:i < n) (φ:AV→Prop):bo 1 (.ba id 0 n n) none (some (.int .i64 (i:Int))) none φ=φ (.ba id 0 i n):=by
 simp only [bo,iw,dV,aad,eq_iff_iff]
 rw [if_neg (by omega)]
 constructor
 ·intro h;simpa using h.2.2.2
 ·intro k;exact ⟨by omega,by omega,by omega,by simpa using k⟩
theorem WO (o:Nat) (x:Int) (n:Nat) (hn:n≤1000000000) (H:List aa):aw Tryz.prog 113 [.ak o (ints [x]),.int .i64 (n:Int)] H fun r H'=>r=.ba H.length 0 n n∧H'=H++[de (List.replicate n x)]:=by
 refine Y7.2.calls rfl ?_
 simp only [Y7,aH]
 have w1:IntKind.u64.wrap 1=1:=EV _ (by omega)
 have w2:IntKind.u64.wrap (n:Int)=n:=EV _ (by omega)
 have w3:IntKind.i64.wrap (n:Int)=n:=cZ _ (by omega)
 have e1:(ints [x]).length=1:=rfl
 have nn:decide ((n:Int) < 0)=false:=decide_eq_false (by omega)
 have ng:decide ((9223372036854775807:Int) < n)=false:=decide_eq_false (by omega)
 have z0:decide ((0:Int) < 0)=false:=rfl
 have ci:∀ (k k':IntKind) (n:Int) (φ:AV→Prop),cJ k (.int k' n) φ=φ (.int k (k.wrap n)):=fun _ _ _ _=>rfl
 simp +contextual only [e1,w2,ci,nn,sZ,Nat.reduceEqDiff,Nat.reduceAdd,Nat.reduceLT,↓reduceIte,reduceCtorEq]
 refine ae (aev (n:=n) (by omega)) ?_
 simp +contextual only [w3,ci,ng,mkI n _ _ hn,sZ,Nat.reduceEqDiff,Nat.reduceAdd,Nat.reduceLT,↓reduceIte,reduceCtorEq,Int.reduceLT]
 have g0:(H++[de (dY 0 n 0)])[H.length]?=some (de (dY 0 n 0)):=by simp
 refine aaS x g0 _ ?_
 simp +contextual only [sZ,Nat.reduceEqDiff,↓reduceIte,reduceCtorEq]
 have es:∀ i j,(H++[de (dY i n x)]).set H.length (de (dY j n x))=H++[de (dY j n x)]:=by intro i j;simp
 refine Mr Nat (fun i=>i≤n∧(0 < n→0 < i)) (fun i=>[(7,.ba H.length 0 n n),(8,.int .i64 i)]) (fun i=>H++[de (dY i n x)]) (fun i=>n - i) (min 1 n) ⟨by omega,by omega⟩ (aE rfl ?_) ?_
 ·simp
 ·intro i hI
  have gi:(H++[de (dY i n x)])[H.length]?=some (de (dY i n x)):=by simp
  by_cases aG:(i:Int) < n
  ·have FJ:i < n:=by omega
   simp +contextual only [aG,decide_true,Option.map_some,Option.map_none,slA FJ,slB FJ,sZ,Nat.reduceEqDiff,↓reduceIte]
   refine aaT x (by omega) FJ gi _ ?_
   simp +contextual only [es,sZ,Nat.reduceEqDiff,↓reduceIte]
   refine ⟨i + min i (n - i),⟨by omega,by omega⟩,by omega,aE ?_ rfl⟩
   rw [cZ _ (by omega)]
   rw [Int.natCast_add]
  ·have e:i=n:=by omega
   subst e
   simp +contextual only [aG,decide_false,sZ,Nat.reduceEqDiff,↓reduceIte,reduceCtorEq]
   have e3:dY i i x=List.replicate i x:=by simp [dY]
   rw [e3]
   refine aP (H.length + 1) (by omega) (by rw [ay,if_pos rfl,fJ];simp) ?_
   rw [ay,if_pos rfl,Ue (by simp)]
   exact ⟨rfl,rfl⟩
end Go.aK
end
section
set_option maxRecDepth 100000
namespace Go.aK
open Go Go.Proofs Go.fo
def qv (l:List Bool):List AV:=l.map .bool
def ub (l:List Bool):aa:=.cells (qv l)
theorem uc (l:List Bool):(qv l).length=l.length:=by simp [qv]
def below (n:Nat) (p:Nat→Bool):List Int:=((List.range n).filter p).map Int.ofNat
theorem yb (n:Nat) (p:Nat→Bool):below (n + 1) p=if p n=true then below n p++[(n:Int)] else below n p:=by
 unfold below
 rw [aen,List.filter_append,acL]
 by_cases h:p n=true
 ·simp [h]
 ·simp [h]
theorem kr (n:Nat) (p:Nat→Bool):(below n p).length≤n:=by
 unfold below
 rw [ac1]
 have:=List.length_filter_le p (List.range n)
 simpa using this
theorem gZ {n:Nat} {p:Nat→Bool} {x:Int}:x∈below n p↔∃ j:Nat,x=j∧j < n∧p j=true:=by
 unfold below
 simp only [aaR,acO,acz]
 constructor
 ·rintro ⟨j,h,rfl⟩;exact ⟨j,rfl,h⟩
 ·rintro ⟨j,rfl,h⟩;exact ⟨j,h,rfl⟩
structure Pr (Q:Int→Int→Prop) (a b:List Int) (k:Nat) (us:List Bool) (to:List Int):Prop where
 lu:us.length=a.length
 lt:to.length=b.length
 rest:∀ j,k≤j→j < b.length→to.getD j 0=-1
 t1:∀ j,j < k→to.getD j 0=-1∨∃ i:Nat,to.getD j 0=i∧i < a.length∧us.getD i false=true∧Q (a.getD i 0) (b.getD j 0)
 inj:∀ j j',j < k→j' < k→to.getD j 0=to.getD j' 0→to.getD j 0≠-1→j=j'
 uu:∀ i,i < a.length→us.getD i false=true→∃ j,j < k∧to.getD j 0=i
 free:∀ j,j < k→to.getD j 0=-1→∀ i,i < a.length→us.getD i false=false→¬ Q (a.getD i 0) (b.getD j 0)
theorem KC {l:List Bool} {i j:Nat} {x:Bool} (hi:i < l.length):(l.set i x).getD j false=if j=i then x else l.getD j false:=by
 simp only [sT,acM]
 by_cases h:i=j
 ·subst h;simp [hi]
 ·rw [if_neg h,if_neg (fun e=>h e.symm)]
theorem Pr.start {Q:Int→Int→Prop} {a b:List Int}:Pr Q a b 0 (List.replicate a.length false) (List.replicate b.length (-1)):=
 ⟨by simp,by simp,fun j _ hj=>by simp [hj],fun j h=>by omega,fun j j' h=>by omega,fun i hi h=>by simp [hi] at h,fun j h=>by omega⟩
theorem Pr.pair {Q:Int→Int→Prop} {a b:List Int} {k i:Nat} {us:List Bool} {to:List Int} (h:Pr Q a b k us to) (hk:k < b.length) (hi:i < a.length) (hu:us.getD i false=false) (hq:Q (a.getD i 0) (b.getD k 0)) :
 Pr Q a b (k + 1) (us.set i true) (to.set k i):=by
 have hl:=h.lt
 have lY:=h.lu
 have gt:∀ j,(to.set k (i:Int)).getD j 0=if j=k then (i:Int) else to.getD j 0:=fun j=>mB (by omega)
 have gu:∀ j,(us.set i true).getD j false=if j=i then true else us.getD j false:=fun j=>KC (by omega)
 refine ⟨by simp [lY],by simp [hl],fun j h1 h2=>?_,fun j hj=>?_,fun j j' hj wz he hn=>?_,fun i' mV Ji=>?_,fun j hj hn i' mV Ji=>?_⟩
 ·rw [gt,if_neg (by omega)];exact h.rest j (by omega) h2
 ·rw [gt]
  by_cases e:j=k
  ·subst e;rw [if_pos rfl];exact .inr ⟨i,rfl,hi,by rw [gu,if_pos rfl],hq⟩
  ·rw [if_neg e]
   rcases h.t1 j (by omega) with h1 | ⟨i',h1,h2,h3,h4⟩
   ·exact .inl h1
   ·exact .inr ⟨i',h1,h2,by rw [gu];split;rfl;exact h3,h4⟩
 ·rw [gt] at he hn
  rw [gt] at he
  by_cases e:j=k
  ·by_cases e':j'=k
   ·omega
   ·rw [if_pos e,if_neg e'] at he
    rcases h.t1 j' (by omega) with h1 | ⟨i',h1,h2,h3,h4⟩
    ·omega
    ·have:i'=i:=by omega
     subst this;rw [hu] at h3;cases h3
  ·rw [if_neg e] at he hn
   by_cases e':j'=k
   ·rw [if_pos e'] at he
    rcases h.t1 j (by omega) with h1 | ⟨i',h1,h2,h3,h4⟩
    ·omega
    ·have:i'=i:=by omega
     subst this;rw [hu] at h3;cases h3
   ·rw [if_neg e'] at he
    exact h.inj j j' (by omega) (by omega) he hn
 ·rw [gu] at Ji
  by_cases e:i'=i
  ·subst e;exact ⟨k,by omega,by rw [gt,if_pos rfl]⟩
  ·rw [if_neg e] at Ji
   obtain ⟨j,h1,h2⟩:=h.uu i' mV Ji
   exact ⟨j,by omega,by rw [gt,if_neg (by omega)];exact h2⟩
 ·rw [gt] at hn
  rw [gu] at Ji
  by_cases e:j=k
  ·rw [if_pos e] at hn;omega
  ·rw [if_neg e] at hn
   by_cases e':i'=i
   ·rw [if_pos e'] at Ji;cases Ji
   ·rw [if_neg e'] at Ji
    exact h.free j (by omega) hn i' mV Ji
theorem Pr.fe {Q:Int→Int→Prop} {a b:List Int} {k:Nat} {us:List Bool} {to:List Int} (h:Pr Q a b k us to) (hk:k < b.length) (hq:∀ i,i < a.length→us.getD i false=false→¬ Q (a.getD i 0) (b.getD k 0)):Pr Q a b (k + 1) us to:=by
 have hr:=h.rest k (sU _) hk
 refine ⟨h.lu,h.lt,fun j h1 h2=>h.rest j (by omega) h2,fun j hj=>?_,fun j j' hj wz he hn=>?_,fun i hi hu=>?_,fun j hj hn i hi hu=>?_⟩
 ·by_cases e:j=k
  ·subst e;exact .inl hr
  ·exact h.t1 j (by omega)
 ·have h1:j≠k:=fun e=>by subst e;exact hn hr
  have h2:j'≠k:=fun e=>by subst e;exact hn (he.trans hr)
  exact h.inj j j' (by omega) (by omega) he hn
 ·obtain ⟨j,h1,h2⟩:=h.uu i hi hu;exact ⟨j,by omega,h2⟩
 ·by_cases e:j=k
  ·subst e;exact hq i hi hu
  ·exact h.free j (by omega) hn i hi hu
def aaU (c:Cx) (a b:List Int) (H:List aa) (r:AV) (H':List aa):Prop:=
 ∃ us to,Pr (fun x y=>E c.O (c.tm x) (c.tm y)) a b b.length us to∧r=.tuple [bA (below a.length fun i=>!us.getD i false),bA (below b.length fun j=>decide (to.getD j 0 < 0)),.ak 0 (ints to)]∧Up c H H'∧Du c H'
theorem mkB (n:Nat) (H:List aa) (K:AV→List aa→Prop) (h:n≤1000000000):fG 1 1 (.bool false) (.int .i64 (n:Int)) H K=K (.ba H.length 0 n n) (H++[ub (List.replicate n false)]):=by
 have e:flat (List.replicate n (bV (.bool false)))=qv (List.replicate n false):=by
  induction n with
  | zero=>rfl
  | succ n ih=>rw [afk,afk];exact congrArg (AV.bool false::·) (ih (by omega))
 have eb:∀ m,aj m (qv (List.replicate n false))=true:=fun m=>(bc _ _).2 fun x hx=>by
  obtain ⟨y,_,rfl⟩:=aaR.1 hx;rfl
 simp only [fG,aad,e,eb,ub,true_and,eq_iff_iff]
 constructor
 ·rintro ⟨_,_,h⟩;exact h
 ·exact fun k=>⟨by omega,by omega,k⟩
theorem EW {n:Nat} {p q:Nat→Bool} (h:∀ j,j < n→p j=q j):below n p=below n q:=by
 unfold below
 congr 1
 apply List.filter_congr
 intro j hj
 exact h j (acz.1 hj)
structure PS (c:Cx) (H:List aa) (us:List Bool) (to:List Int) (G:List aa):Prop where
 du:Du c G
 up:Up c (H++[ub us,de to]) G
theorem PS.u {c:Cx} {H:List aa} {us:List Bool} {to:List Int} {G:List aa} (hD:Du c H) (h:PS c H us to G):G[H.length]?=some (ub us):=by
 obtain ⟨l1,l2,l3⟩:=hD.lt
 rw [h.up.get _ (by omega) (by omega)];simp
theorem PS.t {c:Cx} {H:List aa} {us:List Bool} {to:List Int} {G:List aa} (hD:Du c H) (h:PS c H us to G):G[H.length + 1]?=some (de to):=by
 obtain ⟨l1,l2,l3⟩:=hD.lt
 rw [h.up.get _ (by omega) (by omega)];simp
theorem PS.call {c:Cx} {H:List aa} {us:List Bool} {to:List Int} {G G':List aa} (h:PS c H us to G) (hU:Up c G G') (hD:Du c G'):PS c H us to G':=⟨hD,h.up.trans hU⟩
theorem PS.len {c:Cx} {H:List aa} {us:List Bool} {to:List Int} {G:List aa} (h:PS c H us to G):G.length=H.length + 2:=by have:=h.up.len;simpa using this
theorem PS.aew {c:Cx} {H:List aa} {us us':List Bool} {to:List Int} {G:List aa} (hD:Du c H) (h:PS c H us to G):PS c H us' to (G.set H.length (ub us')):=by
 obtain ⟨l1,l2,l3⟩:=hD.lt
 have hl:=h.len
 refine ⟨h.du.set (by omega) (by omega) (by omega),by simp [hl],fun j h1 h2=>?_⟩
 rw [acM]
 by_cases e:H.length=j
 ·subst e;rw [if_pos rfl,if_pos (by omega)];simp
 ·rw [if_neg e,h.up.get j h1 h2]
  by_cases e2:j < H.length
  ·rw [zA e2,zA e2]
  ·rw [abu (by omega),abu (by omega)]
   obtain ⟨m,rfl⟩:∃ m,j=H.length + (m + 1):=⟨j - H.length - 1,by omega⟩
   simp
theorem PS.aex {c:Cx} {H:List aa} {us:List Bool} {to to':List Int} {G:List aa} (hD:Du c H) (h:PS c H us to G):PS c H us to' (G.set (H.length + 1) (de to')):=by
 obtain ⟨l1,l2,l3⟩:=hD.lt
 have hl:=h.len
 refine ⟨h.du.set (by omega) (by omega) (by omega),by simp [hl],fun j h1 h2=>?_⟩
 rw [acM]
 by_cases e:H.length + 1=j
 ·subst e;rw [if_pos rfl,if_pos (by omega)];simp
 ·rw [if_neg e,h.up.get j h1 h2]
  by_cases e2:j < H.length
  ·rw [zA e2,zA e2]
  ·rw [abu (by omega),abu (by omega)]
   obtain ⟨m,rfl⟩:∃ m,j=H.length + m:=⟨j - H.length,by omega⟩
   rcases m with _ | m
   ·simp
   ·rcases m with _ | m
    ·omega
    ·simp
theorem ldB {us:List Bool} {i:Nat} (h:i < us.length) (φ:AV→Prop):cw (some (ub us)) none (i * 1) φ=φ (.bool (us.getD i false)):=by
 have e:(qv us).getD (i * 1) .any=.bool (us.getD i false):=by
  rw [adG];simp [qv,h]
 simp only [ub,cw,e,pJ,uc,eq_iff_iff]
 constructor
 ·exact fun h=>h.2
 ·exact fun h2=>⟨by omega,h2⟩
theorem Cy {l:List Int} {i:Nat} (h:i < l.length) (φ:AV→Prop):cw (some (de l)) none (i * 1) φ=φ (.int .i64 (l.getD i 0)):=by
 have e:(ints l).getD (i * 1) .any=.int .i64 (l.getD i 0):=by
  rw [adG];simp [ints,h]
 simp only [de,cw,e,nw,au,eq_iff_iff]
 constructor
 ·exact fun h=>h.2
 ·exact fun h2=>⟨by omega,h2⟩
theorem stB {us:List Bool} {i:Nat} (h:i < us.length) (x:Bool) (id:Nat) (H:List aa) (K:List aa→Prop):gR (some (ub us)) 1 id (i * 1) (.bool x) H K=K (H.set id (ub (us.set i x))):=by
 have e:ai (qv us) (i * 1) [AV.bool x]=qv (us.set i x):=by
  rw [adG,o8 _ _ _ (by rw [uc];exact h)];simp [qv,adK]
 have e2:(AV.bool x).cells.map AV.ab=[.bool x]:=rfl
 simp only [ub,gR,e2,e,uc,eq_iff_iff]
 constructor
 ·exact fun h=>h.2.2.2.2.2
 ·exact fun h2=>⟨rfl,rfl,by omega,rfl,rfl,h2⟩
theorem NK {l:List Int} {i:Nat} (h:i < l.length) (x:Int) (id:Nat) (H:List aa) (K:List aa→Prop):gR (some (de l)) 1 id (i * 1) (.int .i64 x) H K=K (H.set id (de (l.set i x))):=by
 have e:ai (ints l) (i * 1) [AV.int .i64 x]=ints (l.set i x):=by
  rw [adG,o8 _ _ _ (by rw [au];exact h)];simp [ints,adK]
 have e2:(AV.int .i64 x).cells.map AV.ab=[.int .i64 x]:=rfl
 simp only [de,gR,e2,e,au,eq_iff_iff]
 constructor
 ·exact fun h=>h.2.2.2.2.2
 ·exact fun h2=>⟨rfl,rfl,by omega,rfl,rfl,h2⟩
theorem EX {id:Nat} {l:List Int} {H:List aa} (h:H[id]?=some (de l)) {K:AV→List aa→Prop} (hK:K (.ak 0 (ints l)) (H.set id .dead)):dx 1 (.ba id 0 l.length l.length) H K:=by
 have hc:∀ (l:List Int),chunks 1 l.length (ints l)=ints l:=by
  intro l
  induction l with
  | nil=>rfl
  | cons x q ih=>exact congrArg (AV.int .i64 x::·) ih
 simp only [dx,h,de,List.drop_zero,hc,mE]
 exact ⟨by omega,sU _,by simp [au],trivial,hK⟩
theorem NL {id n:Nat} {l:List Int} {H:List aa} (h:H[id]?=some (de l)) (hn:l.length=n) {K:AV→List aa→Prop} (hK:K (.ak 0 (ints l)) (H.set id .dead)):ft 1 (.ba id 0 n n) H K:=by
 subst hn;exact EX h hK
theorem WQ {c:Cx} {a b:List Int} {va vb:AV} (ha:IL va a) (hb:IL vb b) (la:a.length≤1000000000) (lb:b.length≤1000000000) (h:∀ x∈a,∀ y∈b,lB c x y) {H:List aa} (hD:Du c H) :
 aw Tryz.prog 139 [.ptr c.d 0,va,vb] H (aaU c a b H):=by
 refine TJ.2.calls rfl ?_
 simp only [TJ,aH]
 obtain ⟨a1,a2,a3,a4⟩:=ha.one
 obtain ⟨b1,b2,b3,b4⟩:=hb.one
 simp +contextual only [a2,b2,ha.aN,hb.aN,ha.len (by omega),hb.len (by omega),mkB _ _ _ la,sZ,Nat.reduceEqDiff,Nat.reduceAdd,↓reduceIte,reduceCtorEq]
 refine af (WO 0 (-1) b.length lb _) ?_
 rintro r G0 ⟨rfl,rfl⟩
 have el:(H++[ub (List.replicate a.length false)]).length=H.length + 1:=by simp
 rw [el]
 simp +contextual only [b2,hb.aN,hb.len (by omega),sZ,Nat.reduceEqDiff,↓reduceIte,reduceCtorEq]
 have ps0:PS c H (List.replicate a.length false) (List.replicate b.length (-1)) (H++[ub (List.replicate a.length false),de (List.replicate b.length (-1))]):=⟨hD.sl _,Up.refl c _⟩
 generalize H++[ub (List.replicate a.length false),de (List.replicate b.length (-1))]=G0 at ps0 ⊢
 refine aD b.length (fun k (p:List aa×List Bool×List Int)=>PS c H p.2.1 p.2.2 p.1∧Pr (fun x y=>E c.O (c.tm x) (c.tm y)) a b k p.2.1 p.2.2)
  (fun k p=>[(0,.ptr c.d 0),(1,va),(9,.ba H.length 0 a.length a.length),(10,.ba (H.length + 1) 0 b.length b.length),(11,.ag),(12,gT (below k fun j=>decide (p.2.2.getD j 0 < 0))),(26,vb),(27,.int .i64 b.length),(28,.int .i64 k)])
  (fun k p=>p.1) (G0,List.replicate a.length false,List.replicate b.length (-1)) ⟨⟨ps0,Pr.start⟩,ax _ _ _⟩ fun k p hk hI=>?_
 obtain ⟨G,us,to⟩:=p
 obtain ⟨oO,Cz⟩:=hI
 simp only at oO Cz
 simp +contextual only [a2,ha.aN,hb.lens,hb.idx,aad,ha.len (by omega),sZ,Nat.reduceEqDiff,↓reduceIte,reduceCtorEq]
 refine ⟨fun aG=>⟨by omega,?_⟩,fun eW=>?_⟩
 ·have aG:=aY aG
  refine mr (Q1:=fun x e G'=>x=.exit 2∧∃ us' to',PS c H us' to' G'∧Pr (fun x y=>E c.O (c.tm x) (c.tm y)) a b (k + 1) us' to'∧(∀ j,j < k→to'.getD j 0=to.getD j 0)∧
   get e 0=.ptr c.d 0∧get e 1=va∧get e 9=.ba H.length 0 a.length a.length∧get e 10=.ba (H.length + 1) 0 b.length b.length∧get e 11=.ag∧get e 12=gT (below k fun j=>decide (to.getD j 0 < 0))∧get e 13=.int .i64 (k:Int)∧get e 26=vb∧get e 27=.int .i64 (b.length:Int)∧get e 28=.int .i64 (k:Int)) ?_ ?_
  ·refine aD a.length (fun i (G':List aa)=>PS c H us to G'∧∀ i',i' < i→us.getD i' false=false→¬ E c.O (c.tm (a.getD i' 0)) (c.tm (b.getD k 0)))
    (fun i G'=>[(0,.ptr c.d 0),(1,va),(9,.ba H.length 0 a.length a.length),(10,.ba (H.length + 1) 0 b.length b.length),(11,.ag),(12,gT (below k fun j=>decide (to.getD j 0 < 0))),(13,.int .i64 (k:Int)),(14,.int .i64 (b.getD k 0)),(26,vb),(27,.int .i64 b.length),(28,.int .i64 k),(33,va),(34,.int .i64 a.length),(35,.int .i64 i)])
    (fun i G'=>G') G ⟨⟨oO,fun i' mV=>by omega⟩,ax _ _ _⟩ fun i G' hi hI=>?_
   obtain ⟨CA,kB⟩:=hI
   have hlu:=Cz.lu
   have mg:=Cz.lt
   have gu:=CA.u hD
   by_cases Pg:(i:Int) < a.length
   ·have aaV:i < a.length:=by omega
    have XZ:i < us.length:=by omega
    cases hu:us.getD i false with
    | true=>
      simp +contextual only [Pg,decide_true,ha.lens,ha.idx,aad,lW,gu,ldB XZ,hu,Bool.not_true,sZ,Nat.reduceEqDiff,↓reduceIte,reduceCtorEq]
      refine ⟨by omega,by omega,⟨i + 1,G',⟨by omega,CA,fun i' mV h0=>?_⟩,by omega,aE (by rw [aq i (by omega)]) rfl⟩⟩
      by_cases e:i'=i
      ·subst e;rw [hu] at h0;cases h0
      ·exact kB i' (by omega) h0
    | false=>
      simp +contextual only [Pg,decide_true,ha.lens,ha.idx,aad,lW,gu,ldB XZ,hu,Bool.not_false,sZ,Nat.reduceEqDiff,Nat.reduceAdd,↓reduceIte,reduceCtorEq]
      refine ⟨by omega,by omega,?_⟩
      refine af (h _ (aQ aaV) _ (aQ aG) G' CA.du) ?_
      rintro r G2 ⟨x,rfl,hx,hU,C5⟩
      have ps2:=CA.call hU C5
      cases x with
      | false=>
        simp +contextual only [sZ,Nat.reduceEqDiff,↓reduceIte,reduceCtorEq]
        refine ⟨i + 1,G2,⟨by omega,ps2,fun i' mV h0=>?_⟩,by omega,aE (by rw [aq i (by omega)]) rfl⟩
        by_cases e:i'=i
        ·subst e;exact fun hh=>absurd (hx.2 hh) (by simp)
        ·exact kB i' (by omega) h0
      | true=>
        have gu2:=ps2.u hD
        have ps3:=ps2.aew (us':=us.set i true) hD
        have gt3:=ps3.t hD
        have Ju:k < to.length:=by omega
        simp +contextual only [lW,gu2,gt3,stB XZ,NK Ju,sZ,Nat.reduceEqDiff,↓reduceIte,reduceCtorEq]
        refine ⟨by omega,by omega,us.set i true,to.set k i,ps3.aex hD,Cz.pair aG aaV hu (hx.1 rfl),fun j hj=>?_⟩
        rw [mB Ju,if_neg (by omega)]
   ·simp +contextual only [Pg,decide_false,sZ,Nat.reduceEqDiff,↓reduceIte,reduceCtorEq]
    exact ⟨us,to,CA,Cz.fe aG fun i' mV h0=>kB i' (by omega) h0,fun _ _=>rfl⟩
  ·rintro x e G' ⟨rfl,us',to',CA,R7,hsame,e0,e1,e9,e10,e11,e12,e13,e26,e27,e28⟩
   have hlu:=R7.lu
   have mg:=R7.lt
   have gt:=CA.t hD
   have Ju:k < to'.length:=by omega
   have ebl:(below k fun j=>decide (to'.getD j 0 < 0))=below k fun j=>decide (to.getD j 0 < 0):=EW fun j hj=>by rw [hsame j hj]
   have ebs:=yb k fun j=>decide (to'.getD j 0 < 0)
   have ebn:=kr k fun j=>decide (to.getD j 0 < 0)
   by_cases yT:to'.getD k 0 < 0
   ·rw [if_pos (by simpa using yT),ebl] at ebs
    simp +contextual only [e0,e1,e9,e10,e11,e12,e13,e26,e27,e28,lW,gt,Cy Ju,yT,decide_true,(fN _).2.1,qS,jd,sZ,Nat.reduceEqDiff,Nat.reduceAdd,↓reduceIte,reduceCtorEq]
    refine ⟨by omega,by omega,k + 1,(G',us',to'),⟨aG,CA,R7⟩,by omega,aE (by rw [aq k (by omega),ebs]) rfl⟩
   ·rw [if_neg (by simpa using yT),ebl] at ebs
    simp +contextual only [e0,e1,e9,e10,e11,e12,e13,e26,e27,e28,lW,gt,Cy Ju,yT,decide_false,sZ,Nat.reduceEqDiff,↓reduceIte,reduceCtorEq]
    refine ⟨by omega,k + 1,(G',us',to'),⟨aG,CA,R7⟩,by omega,aE (by rw [aq k (by omega),ebs]) rfl⟩
 ·have hkk:k=b.length:=by omega
  subst hkk
  have hlu:=Cz.lu
  have mg:=Cz.lt
  have gu:=oO.u hD
  have gt:=oO.t hD
  refine aB a.length (fun i=>True) (fun i=>[(10,.ba (H.length + 1) 0 b.length b.length),(11,gT (below i fun j=>!us.getD j false)),(12,gT (below b.length fun j=>decide (to.getD j 0 < 0))),(69,.ba H.length 0 a.length a.length),(70,.int .i64 a.length),(71,.int .i64 i)])
   (fun i=>G) ⟨trivial,ax _ _ _⟩ fun i hi _=>?_
  have ebs:=yb i fun j=>!us.getD j false
  have ebn:=kr i fun j=>!us.getD j false
  by_cases Pg:(i:Int) < a.length
  ·have XZ:i < us.length:=by omega
   cases hu:us.getD i false with
   | true=>
     rw [hu,if_neg (by simp)] at ebs
     simp +contextual only [Pg,decide_true,lW,gu,ldB XZ,hu,Bool.not_true,sZ,Nat.reduceEqDiff,↓reduceIte,reduceCtorEq]
     refine ⟨by omega,i + 1,by omega,by omega,aE (by rw [aq i (by omega),ebs]) rfl⟩
   | false=>
     rw [hu,if_pos (by simp)] at ebs
     simp +contextual only [Pg,decide_true,lW,gu,ldB XZ,hu,Bool.not_false,(fN _).2.1,qS,jd,sZ,Nat.reduceEqDiff,Nat.reduceAdd,↓reduceIte,reduceCtorEq]
     refine ⟨by omega,by omega,i + 1,by omega,by omega,aE (by rw [aq i (by omega),ebs]) rfl⟩
  ·have hii:i=a.length:=by omega
   subst hii
   simp +contextual only [Pg,decide_false,(fN _).2.1,sZ,Nat.reduceEqDiff,↓reduceIte]
   refine NL gt mg ?_
   simp +contextual only [(aJ _).2.1,sZ,Nat.reduceEqDiff,↓reduceIte,reduceCtorEq]
   obtain ⟨l1,l2,l3⟩:=hD.lt
   refine AO (by decide) rfl ⟨(aJ _).2.2.1 _,(aJ _).2.2.1 _,?_⟩ (aJ _).2.1 (aJ _).2.1 rfl ⟨us,to,Cz,rfl,?_,?_⟩
   ·rw [xy,bZ];exact aT _ _
   ·rw [acu (by omega)];exact oO.up.take
   ·rw [acu (by omega)];exact oO.du.take l1 l2 l3
end Go.aK
end
section
namespace Go.aK
open Go Go.Proofs Go.fo
theorem KD {β:Type} (f:Int→β) (a:List Int):a.map f=(List.range a.length).map fun i=>f (a.getD i 0):=by
 apply aeZ
 ·simp
 ·intro i h1 h2
  have:i < a.length:=by simpa using h1
  simp [this]
theorem EY {β:Type} (f:Int→β) (a:List Int) (p:Nat→Bool):(a.map f).Perm (((List.range a.length).filter p).map (fun i=>f (a.getD i 0))++((List.range a.length).filter fun i=>!p i).map fun i=>f (a.getD i 0)):=by
 rw [KD,← acL]
 exact (List.filter_append_perm p (List.range a.length)).symm.map _
theorem sF (n:Nat) (p:Nat→Bool):((List.range n).filter p).Nodup:=List.Pairwise.filter p List.nodup_range
def vk (f:Int→T) (a:List Int) (us:List Bool):List T:=((List.range a.length).filter fun i=>!us.getD i false).map fun i=>f (a.getD i 0)
def EZ (f:Int→T) (b to:List Int):List T:=((List.range b.length).filter fun j=>decide (to.getD j 0 < 0)).map fun j=>f (b.getD j 0)
theorem Pr.parts {f:Int→T} {a b:List Int} {us:List Bool} {to:List Int} (h:Pr (fun x y=>f x=f y) a b b.length us to) :
 ∃ C,(a.map f).Perm (vk f a us++C)∧(b.map f).Perm (EZ f b to++C)∧R0 (vk f a us) (EZ f b to):=by
 refine ⟨((List.range b.length).filter fun j=>!decide (to.getD j 0 < 0)).map fun j=>f (b.getD j 0),?_,EY f b _,?_⟩
 ·have h1:=EY f a (fun i=>!us.getD i false)
  refine h1.trans (List.Perm.append_left _ ?_)
  have hp:(((List.range b.length).filter fun j=>!decide (to.getD j 0 < 0)).map fun j=>(to.getD j 0).toNat).Perm ((List.range a.length).filter fun i=>!!us.getD i false):=by
   rw [List.perm_ext_iff_of_nodup]
   ·intro i
    simp only [aaR,acO,acz,abp,decide_eq_false_iff_not,afG]
    constructor
    ·rintro ⟨j,⟨hj,hn⟩,rfl⟩
     rcases h.t1 j hj with h2 | ⟨i,h2,h3,h4,_⟩
     ·omega
     ·rw [h2];exact ⟨by simpa using h3,by simpa using h4⟩
    ·rintro ⟨hi,hu⟩
     obtain ⟨j,h2,h3⟩:=h.uu i hi hu
     exact ⟨j,⟨h2,by omega⟩,by omega⟩
   ·rw [List.Nodup,List.pairwise_map]
    refine List.Pairwise.imp_of_mem ?_ (sF _ _)
    intro j j' hj wz eS he
    simp only [acO,acz,abp,decide_eq_false_iff_not] at hj wz
    exact eS (h.inj j j' hj.1 wz.1 (by omega) (by omega))
   ·exact sF _ _
  refine (hp.map fun i=>f (a.getD i 0)).symm.trans ?_
  rw [ada]
  refine List.Perm.of_eq (acT fun j hj=>?_)
  simp only [acO,acz,abp,decide_eq_false_iff_not] at hj
  rcases h.t1 j hj.1 with h2 | ⟨i,h2,h3,h4,h5⟩
  ·omega
  ·show f (a.getD (to.getD j 0).toNat 0)=f (b.getD j 0)
   rw [h2];exact h5
 ·intro z hz FP
  simp only [vk,EZ,aaR,acO,acz,decide_eq_true_eq,abp] at hz FP
  obtain ⟨i,⟨hi,hu⟩,rfl⟩:=hz
  obtain ⟨j,⟨hj,hn⟩,he⟩:=FP
  refine h.free j hj ?_ i hi hu he.symm
  rcases h.t1 j hj with h2 | ⟨i',h2,_⟩
  ·exact h2
  ·omega
theorem ud {f:Int→T} {a:List Int} {us:List Bool}:vk f a us=[]↔below a.length (fun i=>!us.getD i false)=[]:=by
 simp [vk,below]
theorem Pr.mu {f:Int→T} {G:T→T→Prop} {a b:List Int} {us:List Bool} {to:List Int} (h:Pr (fun x y=>f x=f y) a b b.length us to) :
 Mu G (a.map f) (b.map f)↔below a.length (fun i=>!us.getD i false)≠[]∧∀ y∈below b.length (fun j=>decide (to.getD j 0 < 0)),∃ x∈below a.length (fun i=>!us.getD i false),G (f (a.getD x.toNat 0)) (f (b.getD y.toNat 0)):=by
 obtain ⟨C,h1,h2,h3⟩:=h.parts
 rw [NA h1 h2 h3,Ne,ud]
 refine and_congr Iff.rfl ⟨fun hh y hy=>?_,fun hh y hy=>?_⟩
 ·obtain ⟨j,rfl,hj,hn⟩:=gZ.1 hy
  obtain ⟨x,hx,hg⟩:=hh (f (b.getD j 0)) (by simp only [EZ,aaR,acO,acz];exact ⟨j,⟨hj,hn⟩,rfl⟩)
  simp only [vk,aaR,acO,acz] at hx
  obtain ⟨i,⟨hi,hu⟩,rfl⟩:=hx
  exact ⟨i,gZ.2 ⟨i,rfl,hi,hu⟩,hg⟩
 ·simp only [EZ,aaR,acO,acz] at hy
  obtain ⟨j,⟨hj,hn⟩,rfl⟩:=hy
  obtain ⟨x,hx,hg⟩:=hh j (gZ.2 ⟨j,rfl,hj,hn⟩)
  obtain ⟨i,rfl,hi,hu⟩:=gZ.1 hx
  refine ⟨f (a.getD i 0),?_,hg⟩
  simp only [vk,aaR,acO,acz]
  exact ⟨i,⟨hi,hu⟩,rfl⟩
theorem Pr.perm {f:Int→T} {a b:List Int} {us:List Bool} {to:List Int} (h:Pr (fun x y=>f x=f y) a b b.length us to) (hl:a.length=b.length) :
 (a.map f).Perm (b.map f)↔below a.length (fun i=>!us.getD i false)=[]:=by
 obtain ⟨C,h1,h2,h3⟩:=h.parts
 rw [zk h1 h2 h3,ud (f:=f)]
 constructor
 ·exact fun h=>h.1
 ·intro h0
  refine ⟨h0,?_⟩
  have e1:=h1.length_eq
  have e2:=h2.length_eq
  have e3:(vk f a us).length=0:=by rw [(ud (f:=f)).2 h0];rfl
  simp only [aaz,ac1] at e1 e2
  exact acy.1 (by omega)
end Go.aK
end
section
set_option maxRecDepth 100000
set_option maxHeartbeats 0
namespace Go.aK
open Go Go.Proofs
noncomputable def TQ:=aH Tryz.call186 Tryz.func186 Tryz.ntmps186 [(0,0,1),(5,3,2000),(5,8,1000),(6,6,2000)] [(0,[1,2,3]),(1,[1,2,3,7,8]),(2,[1,2,3,26]),(3,[6]),(4,[3,9,10]),(5,[3,9,10,11,12]),(6,[6])] [(4,(.take 0 true (.take 1 true (.take 2 true (.take 3 true (.take 4 true (.take 5 true (.take 6 true (.take 7 true (.take 8 false (.take 9 false (.take 10 false (.take 12 false (.br 11 (.take 13 false (.take 14 false (.take 15 false (.br 16 (.br 17 (.br 18 (.br 19 .done .nil) .nil) .nil) (.br 17 (.br 16 (.br 18 (.br 19 .done .nil) .nil) .nil) .nil))))) (.br 16 (.br 11 (.take 13 false (.take 14 false (.take 15 false (.br 17 (.br 18 (.br 19 .done .nil) .nil) .nil)))) (.br 17 (.br 11 (.take 13 false (.take 14 false (.take 15 false (.br 18 (.br 19 .done .nil) .nil)))) (.br 18 (.take 11 true (.take 13 true (.take 14 true (.take 15 true (.br 19 .done .nil))))) .nil)) .nil)) (.br 17 (.br 11 (.take 13 false (.take 14 false (.take 15 false (.br 16 (.br 18 (.br 19 .done .nil) .nil) .nil)))) (.br 16 (.br 11 (.take 13 false (.take 14 false (.take 15 false (.br 18 (.br 19 .done .nil) .nil)))) (.br 18 (.take 11 true (.take 13 true (.take 14 true (.take 15 true (.br 19 .done .nil))))) .nil)) .nil)) .nil))))))))))))))))]
end Go.aK
end
section
set_option maxRecDepth 100000
namespace Go.aK
open Go Go.Proofs Go.fo
def nf (c:Cx) (x:Int):T:=norm c.O (c.tm x)
def zm (c:Cx) (i k:Int):Prop:=vL c i k=true∧dM c i=3∧Mu (Gt c.O.sp) ((c.kd i).map (nf c)) ((c.kd k).map (nf c))
theorem aeA {c:Cx} {a b:List Int} {va vb:AV} (ha:IL va a) (hb:IL vb b) {p q:Nat} {x y:Int} (hx:0≤x∧x < a.length) (hy:0≤y∧y < b.length) (h:iU c (a.getD x.toNat 0) (b.getD y.toNat 0)) {G:List aa} (hD:Du c G) (gp:G[p]?=some (.cells [va])) (gq:G[q]?=some (.cells [vb])) :
 aw Tryz.prog 222 [.int .i64 x,.ah (.ptr c.d 0),.ptr p 0,.ptr q 0,.ah (.int .i64 y)] G (jl c (R c.O (c.tm (a.getD x.toNat 0)) (c.tm (b.getD y.toNat 0))) G):=by
 refine Z0.2.calls rfl ?_
 simp only [Z0,aH]
 obtain ⟨a1,a2,a3,a4⟩:=ha.one
 obtain ⟨b1,b2,b3,b4⟩:=hb.one
 simp +contextual only [gp,gq,a2,b2,ha.lens,hb.lens,ha.idx,hb.idx,sZ,Nat.reduceEqDiff,Nat.reduceAdd,Nat.reduceLT,↓reduceIte,reduceCtorEq]
 refine ⟨hx,hy,af (h G hD) ?_⟩
 rintro r G' ⟨z,rfl,hz,hU,kg⟩
 simp +contextual only [sZ,↓reduceIte,reduceCtorEq]
 exact eO rfl hz hU kg
theorem aeB {c:Cx} {a b l:List Int} {va vb vl:AV} (ha:IL va a) (hb:IL vb b) (hl:IL vl l) (ll:l.length≤1000000000) {p q:Nat} {y:Int} (hx:∀ x∈l,0≤x∧x < a.length) (hy:0≤y∧y < b.length) (h:∀ x∈l,iU c (a.getD x.toNat 0) (b.getD y.toNat 0)) {G:List aa} (hD:Du c G)
 (gp:G[p]?=some (.cells [va])) (gq:G[q]?=some (.cells [vb])) (np:p≠c.e∧p≠c.g) (nq:q≠c.e∧q≠c.g) :
 aw Tryz.prog 221 [.int .i64 y,.ah vl,.ah (.ptr c.d 0),.ptr p 0,.ptr q 0] G (jl c (¬ ∃ x∈l,R c.O (c.tm (a.getD x.toNat 0)) (c.tm (b.getD y.toNat 0))) G):=by
 refine ZZ.2.calls rfl ?_
 simp only [ZZ,aH]
 obtain ⟨a1,a2,a3,a4⟩:=hl.one
 have ld:∀ (H:List aa) (φ:AV→Prop),aU none (.ah vl) H φ=φ vl:=fun H φ=>by simp [aU,a1,a2]
 simp +contextual only [ld,a2,sZ,Nat.reduceEqDiff,Nat.reduceAdd,↓reduceIte,reduceCtorEq]
 refine af (EU (SD.Cv c G) hl ll 222 [] [.ah (.ptr c.d 0),.ptr p 0,.ptr q 0,.ah (.int .i64 y)] rfl rfl (Q:=fun x=>R c.O (c.tm (a.getD x.toNat 0)) (c.tm (b.getD y.toNat 0)))
  (fun x yH G' dS=>(aeA ha hb (hx x yH) hy (h x yH) dS.1 (by rw [dS.2.get p np.1 np.2,gp]) (by rw [dS.2.get q nq.1 nq.2,gq])).mono fun r H' hr=>hr.sb dS) ⟨hD,Up.refl c G⟩) ?_
 rintro r G' ⟨z,rfl,hz,dS⟩
 simp +contextual only [sZ,↓reduceIte,reduceCtorEq]
 refine eO (b:=!z) rfl ?_ dS.2 dS.1
 rw [← hz];cases z <;> simp
theorem mF {P:Px} {t:DT} {f:AV→Env} {H:List aa} {o:Option aa} {off:Nat} {K1 K2:Env→List aa→Prop} (h:cw o none off fun x=>jQ P t (f x) H K1) (hk:∀ e G,K1 e G→K2 e G):cw o none off fun x=>jQ P t (f x) H K2:=by
 unfold cw at *
 split at h
 ·exact ⟨h.1,dP h.2 hk⟩
 ·exact h.elim
theorem aaW {c:Cx} (hc:c.Ok) {i k:Int} (hi:c.ee i) (hk:c.ee k) (h2:∀ x∈c.kd i,∀ y∈c.kd k,lB c x y) (h3:∀ x∈c.kd i,∀ y∈c.kd k,iU c x y) {H:List aa} (hD:Du c H) :
 aw Tryz.prog 186 [.ptr c.d 0,.int .i64 i,.int .i64 k] H (jl c (zm c i k) H):=by
 refine TQ.2.calls rfl ?_
 simp only [TQ,aH]
 have k2:∀ l,(bA l).ab=bA l:=fun l=>(aJ l).2.1
 have l1:=hc.kl i hi
 have l2:=hc.kl k hk
 simp +contextual only [sZ,Nat.reduceEqDiff,Nat.reduceAdd,↓reduceIte,reduceCtorEq]
 refine af (Hr hc hi hk hD) ?_
 rintro r H1 ⟨rfl,rfl⟩
 simp +contextual only [sZ,Nat.reduceEqDiff,Nat.reduceAdd,Nat.reduceLT,↓reduceIte]
 cases hl:vL c i k with
 | false=>
   simp +contextual only [Bool.not_false,sZ,Nat.reduceEqDiff,↓reduceIte,reduceCtorEq]
   exact eO rfl ⟨fun h=>by simp at h,fun h=>by have:=h.1;rw [hl] at this;simp at this⟩ (Up.refl c _) hD
 | true=>
   by_cases hs:dM c i=3
   ·have d3:decide (dM c i=3)=true:=decide_eq_true hs
    have d3':decide (¬dM c i=3)=false:=decide_eq_false (fun h=>h hs)
    simp +contextual only [Bool.not_true,hs,not_true_eq_false,decide_false,sZ,Nat.reduceEqDiff,Nat.reduceAdd,↓reduceIte]
    obtain ⟨l4,l5,l6⟩:=hD.lt
    have ed:∀ X:List aa,(H1++X)[c.d]?=H1[c.d]?:=fun X=>zA l4
    refine mF (K1:=fun e G=>get e 3=.ah (.ptr c.d 0)∧∃ p q X,get e 9=.ptr p 0∧get e 10=.ptr q 0∧H1.length≤p∧H1.length≤q∧G=H1++X∧G[p]?=some (.cells [bA (c.kd i)])∧G[q]?=some (.cells [bA (c.kd k)])) ?_ ?_
    ·obtain ⟨k1,k3,k4,k5,k6⟩:=aJ (c.kd i)
     obtain ⟨m1,m3,m4,m5,m6⟩:=aJ (c.kd k)
     have g0:∀ (x:aa) (l:List aa),(H1++x::l)[H1.length]?=some x:=fun x l=>by simp
     have g1:∀ (x y:aa),(H1++[x,y])[H1.length + 1]?=some y:=fun x y=>by simp
     have ei:(c.nd.getD i.toNat default).snd=c.kd i:=rfl
     have ek:(c.nd.getD k.toNat default).snd=c.kd k:=rfl
     have sp:∀ x:AV,ai [AV.ag] 0 [x]=[x]:=fun x=>rfl
     have A:∃ p q X,AV.ptr H1.length 0=AV.ptr p 0∧AV.ptr (H1.length + 1) 0=AV.ptr q 0∧H1.length≤p∧H1.length≤q∧H1++[.cells [bA (c.kd i)],.cells [bA (c.kd k)]]=H1++X∧(H1++[aa.cells [bA (c.kd i)],.cells [bA (c.kd k)]])[p]?=some (.cells [bA (c.kd i)])∧(H1++[aa.cells [bA (c.kd i)],.cells [bA (c.kd k)]])[q]?=some (.cells [bA (c.kd k)]):=
      ⟨_,_,_,rfl,rfl,sU _,Nat.le_succ _,rfl,g0 _ _,g1 _ _⟩
     have B:∃ p q X,AV.ptr (H1.length + 1) 0=AV.ptr p 0∧AV.ptr H1.length 0=AV.ptr q 0∧H1.length≤p∧H1.length≤q∧H1++[.cells [bA (c.kd k)],.cells [bA (c.kd i)]]=H1++X∧(H1++[aa.cells [bA (c.kd k)],.cells [bA (c.kd i)]])[p]?=some (.cells [bA (c.kd i)])∧(H1++[aa.cells [bA (c.kd k)],.cells [bA (c.kd i)]])[q]?=some (.cells [bA (c.kd k)]):=
      ⟨_,_,_,rfl,rfl,Nat.le_succ _,sU _,rfl,g1 _ _,g0 _ _⟩
     simp +contextual only [ed,hD.d,nM,FO,cP,cb,k2,ei,ek,k1,k4,k5,k6,m1,m4,m5,m6,List.map_cons,List.map_nil,sp,List.all_cons,List.all_nil,acX,bJ,cV,sZ,Nat.reduceEqDiff,Nat.reduceAdd,Nat.reduceLT,↓reduceIte]
     refine ⟨hi,?_⟩
     repeat' apply hV
     all_goals first | exact hk.1 | exact hk.2 | exact A | exact B
    ·rintro e G ⟨e3,p,q,X,e9,e10,hp,hq,rfl,gp,gq⟩
     simp +contextual only [e3,e9,e10,gp,gq,k2,sZ,Nat.reduceEqDiff,Nat.reduceAdd,Nat.reduceLT,↓reduceIte,reduceCtorEq]
     refine af (WQ (.inl rfl:IL (bA (c.kd i)) (c.kd i)) (.inl rfl:IL (bA (c.kd k)) (c.kd k)) (by omega) (by omega) h2 (hD.sl X)) ?_
     rintro r G' ⟨us,to,Cz,rfl,hU,kg⟩
     have hmu:=Pr.mu (f:=nf c) (G:=Gt c.O.sp) Cz
     have lbl:=kr (c.kd i).length fun i=>!us.getD i false
     have lbo:=kr (c.kd k).length fun j=>decide (to.getD j 0 < 0)
     have il:IL (bA (below (c.kd i).length fun i=>!us.getD i false)) (below (c.kd i).length fun i=>!us.getD i false):=.inl rfl
     have io:IL (bA (below (c.kd k).length fun j=>decide (to.getD j 0 < 0))) (below (c.kd k).length fun j=>decide (to.getD j 0 < 0)):=.inl rfl
     have ml:∀ x∈below (c.kd i).length (fun i=>!us.getD i false),0≤x∧x < (c.kd i).length:=by
      intro x hx;obtain ⟨j,rfl,hj,_⟩:=gZ.1 hx;omega
     have mo:∀ x∈below (c.kd k).length (fun j=>decide (to.getD j 0 < 0)),0≤x∧x < (c.kd k).length:=by
      intro x hx;obtain ⟨j,rfl,hj,_⟩:=gZ.1 hx;omega
     generalize (below (c.kd i).length fun i=>!us.getD i false)=L at *
     generalize (below (c.kd k).length fun j=>decide (to.getD j 0 < 0))=V at *
     obtain ⟨a1,a2,a3,a4⟩:=il.one
     obtain ⟨b1,b2,b3,b4⟩:=io.one
     have hG1:∀ G2,Up c (H1++X) G2→Du c G2→Up c H1 (G2.take H1.length)∧Du c (G2.take H1.length):=fun G2 u d=>⟨u.take,d.take l4 l5 l6⟩
     have fin:∀ G2 (b:Bool),Up c (H1++X) G2→Du c G2→(b=true↔zm c i k)→bT H1.length [.t 6] [(6,.bool b)] G2 (jl c (zm c i k) H1):=by
      intro G2 b u d hb
      refine aP H1.length (sU _) (by rw [ay,if_pos rfl];rfl) ?_
      rw [ay,if_pos rfl]
      exact ⟨b,rfl,hb,(hG1 G2 u d).1,(hG1 G2 u d).2⟩
     simp +contextual only [List.map_cons,List.map_nil,k2,a1,a3,a4,il.aN,il.len (by omega),cb,sZ,Nat.reduceEqDiff,Nat.reduceAdd,Nat.reduceLT,↓reduceIte,reduceCtorEq]
     refine ⟨fun hL=>?_,fun hL=>?_⟩
     ·have gp':G'[p]?=some (.cells [bA (c.kd i)]):=by rw [hU.get p (by omega) (by omega),gp]
      have gq':G'[q]?=some (.cells [bA (c.kd k)]):=by rw [hU.get q (by omega) (by omega),gq]
      have gm:∀ {x:Int} {l:List Int},0≤x∧x < l.length→l.getD x.toNat 0∈l:=fun h=>aQ (by omega)
      refine af (EU (SD.Cv c G') io (by omega) 221 [] [.ah (bA L),.ah (.ptr c.d 0),.ptr p 0,.ptr q 0] rfl rfl (Q:=fun y=>¬ ∃ x∈L,R c.O (c.tm ((c.kd i).getD x.toNat 0)) (c.tm ((c.kd k).getD y.toNat 0)))
       (fun y hy G2 WR=>(aeB (.inl rfl) (.inl rfl) il (by omega) ml (mo y hy) (fun x hx=>h3 _ (gm (ml x hx)) _ (gm (mo y hy))) WR.1 (by rw [WR.2.get p (by omega) (by omega),gp']) (by rw [WR.2.get q (by omega) (by omega),gq']) ⟨by omega,by omega⟩ ⟨by omega,by omega⟩).mono fun r H' hr=>hr.sb WR) ⟨kg,Up.refl c G'⟩) ?_
      rintro r G2 ⟨z,rfl,hz,WR⟩
      simp +contextual only [sZ,Nat.reduceEqDiff,↓reduceIte,reduceCtorEq]
      refine fin G2 (!z) (hU.trans WR.2) WR.1 ?_
      have hLn:L≠[]:=by intro e;rw [e] at hL;simp at hL
      rw [zm,hmu]
      cases z with
      | true=>
        obtain ⟨y,hy,hn⟩:=hz.1 rfl
        exact ⟨fun h=>by simp at h,fun ⟨_,_,_,h⟩=>absurd (h y hy) hn⟩
      | false=>
        refine ⟨fun _=>⟨hl,hs,hLn,fun y hy=>?_⟩,fun _=>rfl⟩
        by_cases JC:∃ x∈L,R c.O (c.tm ((c.kd i).getD x.toNat 0)) (c.tm ((c.kd k).getD y.toNat 0))
        ·exact JC
        ·exact absurd (hz.2 ⟨y,hy,JC⟩) (by simp)
     ·refine fin G' false hU kg ⟨fun h=>by simp at h,fun h=>?_⟩
      have:=(hmu.1 h.2.2).1
      exact absurd (acy.1 (by omega)) this
   ·have d3':decide (¬dM c i=3)=true:=decide_eq_true hs
    simp +contextual only [Bool.not_true,hs,decide_true,not_false_eq_true,sZ,Nat.reduceEqDiff,↓reduceIte,reduceCtorEq]
    exact eO rfl ⟨fun h=>by simp at h,fun h=>absurd h.2.1 hs⟩ (Up.refl c _) hD
theorem wA {c:Cx} (hc:c.Ok) {i:Int} (hi:c.ee i):(c.tm i).l.map (norm c.O)=(c.kd i).map (nf c):=by
 rw [← (hc.kids i hi).1,ada];rfl
theorem Ht {f:Int→T} {a b:List Int}:a.map f=b.map f↔a.length=b.length∧∀ j,j < a.length→f (a.getD j 0)=f (b.getD j 0):=by
 constructor
 ·intro h
  have hl:a.length=b.length:=by simpa using congrArg List.length h
  refine ⟨hl,fun j hj=>?_⟩
  have:=congrArg (fun l=>l[j]?) h
  have hb:j < b.length:=by omega
  simpa [hj,hb] using this
 ·rintro ⟨hl,h⟩
  apply aeZ
  ·simpa using hl
  ·intro j h1 h2
   have h3:j < a.length:=by simpa using h1
   have h4:j < b.length:=by simpa using h2
   simpa [h3,h4] using h j h3
theorem aeC {c:Cx} (hc:c.Ok) {i k:Int} (hi:c.ee i) (hk:c.ee k) (h2:∀ x∈c.kd i,∀ y∈c.kd k,lB c x y) {H:List aa} (hD:Du c H):aw Tryz.prog 138 (ET c i k) H (jl c (E c.O (c.tm i) (c.tm k)) H):=by
 refine Zo.2.calls rfl ?_
 simp only [Zo,aH,ET]
 have k2:∀ l,(bA l).ab=bA l:=fun l=>(aJ l).2.1
 have l1:=hc.kl i hi
 have l2:=hc.kl k hk
 simp +contextual only [sZ,Nat.reduceEqDiff,Nat.reduceAdd,↓reduceIte,reduceCtorEq]
 refine af (qY hc hi hD) ?_
 rintro r H1 ⟨rfl,rfl⟩
 simp +contextual only [dN,gb,gf,gg,sZ,Nat.reduceEqDiff,Nat.reduceAdd,↓reduceIte,reduceCtorEq]
 refine af (qY hc hk hD) ?_
 rintro r H1 ⟨rfl,rfl⟩
 simp +contextual only [dN,gb,gf,gg,sZ,Nat.reduceEqDiff,↓reduceIte,reduceCtorEq]
 have eqf:∀ b:Bool,dd false (.bool b) (.bool b)=fun φ=>φ (.bool true):=fun b=>by funext φ;cases b <;> simp [dd]
 have fT0:=IQ
 have fT1:∀ (t:T) (φ:AV→Prop),al 1 none (.ah t.av) φ=φ (.ah (.int .i64 t.n)):=fun t φ=>by cases t;simp [al,T.av,apart,AV.cells,AV.one,T.n]
 have ei:(c.nd.getD i.toNat default).fst=c.tm i:=rfl
 have ek:(c.nd.getD k.toNat default).fst=c.tm k:=rfl
 have hE:=aaB (O:=c.O) (a:=c.tm i) (b:=c.tm k)
 rw [wA hc hi,wA hc hk] at hE
 cases hbi:sY c i with
 | false=>
   have ki:(c.tm i).k≠2:=of_decide_eq_false hbi
   cases Hu:sY c k with
   | false=>
     have kk:(c.tm k).k≠2:=of_decide_eq_false Hu
     simp +contextual only [Bool.not_false,hD.d,nM,fN0,fT1,cP,ei,ek,sZ,Nat.reduceEqDiff,Nat.reduceAdd,Nat.reduceLT,↓reduceIte,reduceCtorEq]
     refine ⟨hi,hk,eO rfl ?_ (Up.refl c _) hD⟩
     rw [hE,decide_eq_true_eq]
     exact ⟨fun h=>.inr ⟨ki,kk,h⟩,fun h=>by rcases h with h | h;exact absurd h.1 ki;exact h.2.2⟩
   | true=>
     have kk:(c.tm k).k=2:=of_decide_eq_true Hu
     simp +contextual only [Bool.not_false,sZ,Nat.reduceEqDiff,↓reduceIte,reduceCtorEq]
     refine eO rfl ?_ (Up.refl c _) hD
     rw [hE]
     exact ⟨fun h=>by simp at h,fun h=>by rcases h with h | h;exact absurd h.1 ki;exact absurd kk h.2.1⟩
 | true=>
   have ki:(c.tm i).k=2:=of_decide_eq_true hbi
   cases Hu:sY c k with
   | false=>
     have kk:(c.tm k).k≠2:=of_decide_eq_false Hu
     simp +contextual only [Bool.not_false,Bool.not_true,sZ,Nat.reduceEqDiff,↓reduceIte,reduceCtorEq]
     refine eO rfl ?_ (Up.refl c _) hD
     rw [hE]
     exact ⟨fun h=>by simp at h,fun h=>by rcases h with h | h;exact absurd h.2.1 kk;exact absurd ki h.1⟩
   | true=>
     have kk:(c.tm k).k=2:=of_decide_eq_true Hu
     have epi:qX c i=c.O.pl (c.tm i).n:=if_pos ki
     have epk:qX c k=c.O.pl (c.tm k).n:=if_pos kk
     have esi:dM c i=c.O.sp (c.O.pl (c.tm i).n):=if_pos ki
     have hE2:E c.O (c.tm i) (c.tm k)↔qX c i=qX c k∧(if dM c i=3 then ((c.kd i).map (nf c)).Perm ((c.kd k).map (nf c)) else (c.kd i).map (nf c)=(c.kd k).map (nf c)):=by
      rw [hE,epi,epk,esi]
      exact ⟨fun h=>by rcases h with h | h;exact h.2.2;exact absurd ki h.1,fun h=>.inl ⟨ki,kk,h⟩⟩
     have eki:(c.nd.getD i.toNat default).snd=c.kd i:=rfl
     have ekk:(c.nd.getD k.toNat default).snd=c.kd k:=rfl
     have ii:IL (bA (c.kd i)) (c.kd i):=.inl rfl
     have ik:IL (bA (c.kd k)) (c.kd k):=.inl rfl
     have hlen:E c.O (c.tm i) (c.tm k)→(c.kd i).length=(c.kd k).length:=by
      intro h
      have h:=(hE2.1 h).2
      split at h
      ·simpa using h.length_eq
      ·simpa using congrArg List.length h
     simp +contextual only [Bool.not_true,hD.d,nM,FO,cP,cb,k2,eki,ekk,ii.aN,ik.aN,ii.len (by omega),ik.len (by omega),sZ,Nat.reduceEqDiff,Nat.reduceAdd,Nat.reduceLT,↓reduceIte,reduceCtorEq]
     refine ⟨hi,hk,fun hp=>⟨fun hn=>?_,fun hlk=>⟨fun h3=>?_,fun h3=>?_⟩⟩,fun hp=>?_⟩
     ·refine eO rfl ⟨fun h=>by simp at h,fun h=>absurd (hlen h) (by omega)⟩ (Up.refl c _) hD
     ·refine af (WQ ii ik (by omega) (by omega) h2 hD) ?_
      rintro r G ⟨us,to,Cz,rfl,hU,kg⟩
      have XK:=Pr.perm (f:=nf c) Cz (by omega)
      have lbl:=kr (c.kd i).length fun i=>!us.getD i false
      have il:IL (bA (below (c.kd i).length fun i=>!us.getD i false)) (below (c.kd i).length fun i=>!us.getD i false):=.inl rfl
      generalize (below (c.kd i).length fun i=>!us.getD i false)=L at *
      simp +contextual only [k2,il.aN,il.len (by omega),sZ,Nat.reduceEqDiff,Nat.reduceAdd,Nat.reduceLT,↓reduceIte,reduceCtorEq]
      refine eO rfl ?_ hU kg
      rw [hE2,if_pos h3,XK,decide_eq_true_eq]
      exact ⟨fun h=>⟨hp,acy.1 (by omega)⟩,fun h=>by rw [h.2];rfl⟩
     ·refine af (aaM (SD.Cv c _) ii ik (by omega) (by omega) 79 [.ptr c.d 0] [] rfl rfl (Q:=fun x y=>E c.O (c.tm x) (c.tm y)) (fun x hx y hy G hG=>(h2 x hx y hy G hG.1).mono fun r H' hr=>hr.sb hG) ⟨hD,Up.refl c _⟩) ?_
      rintro r G ⟨b,rfl,hb,hG⟩
      simp +contextual only [sZ,↓reduceIte,reduceCtorEq]
      refine eO rfl ?_ hG.2 hG.1
      rw [hE2,if_neg h3,hb]
      have:=Ht (f:=nf c) (a:=c.kd i) (b:=c.kd k)
      exact ⟨fun h=>⟨hp,this.2 h⟩,fun h=>this.1 h.2⟩
     ·exact eO rfl ⟨fun h=>by simp at h,fun h=>absurd (hE2.1 h).1 hp⟩ (Up.refl c _) hD
end Go.aK
end
section
set_option maxRecDepth 100000
namespace Go.aK
open Go Go.Proofs Go.fo
def eG:AV:=.agg [.gn,.fn (.func 183) [] [],.fn (.func 184) [] [],.fn (.func 185) [] [],.fn (.func 186) [] []]
theorem aeD (φ:AV→Prop):cE [.gn,.gn,.gn,.gn,.gn] [(1,1,.fn (.func 183) [] []),(2,1,.fn (.func 184) [] []),(3,1,.fn (.func 185) [] []),(4,1,.fn (.func 186) [] [])] φ=φ eG:=by
 simp only [cE,iu,eq_iff_iff]
 constructor
 ·rintro ⟨_,_,_,_,_,_,_,_,_,_,_,_,h⟩;exact h
 ·exact fun h=>⟨rfl,rfl,by decide,rfl,rfl,by decide,rfl,rfl,by decide,rfl,rfl,by decide,h⟩
theorem CB:eG.val=true∧eG.cells.length=5∧eG.cells.all AV.one=true∧(∀ n,aj n (eG.cells.map AV.ab)=true)∧ai [AV.gn,.gn,.gn,.gn,.gn] 0 (eG.cells.map AV.ab)=eG.cells:=⟨rfl,rfl,rfl,fun _=>rfl,rfl⟩
theorem NM:Pure Tryz.prog 136 [] eG:=by
 refine fun H=>Zn.2.calls rfl ?_
 simp only [Zn,aH]
 obtain ⟨r1,r2,r3,r4,r5⟩:=CB
 simp +contextual only [aeD,r1,r2,r3,r4,r5,sZ,Nat.reduceAdd,↓reduceIte,reduceCtorEq]
 have e:cw (some (aa.cells eG.cells)) (some 5) 0=fun φ=>(5≤5∧φ eG):=rfl
 rw [e]
 exact ⟨sU _,Tm (n0:=H.length) (by simp) rfl rfl ⟨rfl,rfl⟩⟩
theorem X0 (j:Nat) (f:AV) (h:eG.cells[j]?=some f) (hj:j < 5) (φ:AV→Prop) (hd:f.drop=f):b8 5 eG (.int .i64 (j:Int)) φ=φ f:=by
 simp only [b8,eG,aad,eq_iff_iff]
 have e:[AV.gn,.fn (.func 183) [] [],.fn (.func 184) [] [],.fn (.func 185) [] [],.fn (.func 186) [] []].getD j .any=f:=by
  rw [sT];show (eG.cells[j]?).getD .any=f;rw [h];rfl
 rw [e,hd]
 exact ⟨fun h=>h.2.2.2,fun h=>⟨rfl,by omega,hj,h⟩⟩
def NN (c:Cx) (i k:Int):Prop:=∃ x∈c.kd i,E c.O (c.tm x) (c.tm k)∨R c.O (c.tm x) (c.tm k)
def ue (c:Cx) (i k:Int):Prop:=sY c k=true∧qX c k < qX c i∧∀ x∈c.kd k,R c.O (c.tm i) (c.tm x)
def iG (c:Cx) (i k:Int) (n:Nat):Prop:=(n=1∧NN c i k)∨(n=2∧ue c i k)∨(n=3∧Cw c i k)∨(n=4∧zm c i k)
structure IS (c:Cx) (i k:Int):Prop where
 r1:∀ H,Du c H→aw Tryz.prog 183 [.ptr c.d 0,.int .i64 i,.int .i64 k] H (jl c (NN c i k) H)
 r2:∀ H,Du c H→aw Tryz.prog 184 [.ptr c.d 0,.int .i64 i,.int .i64 k] H (jl c (ue c i k) H)
 r3:∀ H,Du c H→aw Tryz.prog 185 [.ptr c.d 0,.int .i64 i,.int .i64 k] H (jl c (Cw c i k) H)
 r4:∀ H,Du c H→aw Tryz.prog 186 [.ptr c.d 0,.int .i64 i,.int .i64 k] H (jl c (zm c i k) H)
theorem IS.at {c:Cx} {i k:Int} (h:IS c i k) {n:Nat} (h1:0 < n) (h2:n < 5) {H:List aa} (hD:Du c H):aw Tryz.prog (182 + n) [.ptr c.d 0,.int .i64 i,.int .i64 k] H (jl c (iG c i k n) H):=by
 have:n=1∨n=2∨n=3∨n=4:=by omega
 have key:∀ {Q Q':Prop} {f:Nat},aw Tryz.prog f [.ptr c.d 0,.int .i64 i,.int .i64 k] H (jl c Q H)→(Q↔Q')→aw Tryz.prog f [.ptr c.d 0,.int .i64 i,.int .i64 k] H (jl c Q' H):=by
  intro Q Q' f h e
  refine h.mono ?_
  rintro r H' ⟨b,h1,h2,h3,h4⟩
  exact ⟨b,h1,h2.trans e,h3,h4⟩
 rcases this with rfl | rfl | rfl | rfl
 ·exact key (h.r1 H hD) (by simp [iG])
 ·exact key (h.r2 H hD) (by simp [iG])
 ·exact key (h.r3 H hD) (by simp [iG])
 ·exact key (h.r4 H hD) (by simp [iG])
theorem aeE {c:Cx} (hc:c.Ok) {i k:Int} (hi:c.ee i) (hr:IS c i k) {H:List aa} (hD:Du c H):aw Tryz.prog 134 (ET c i k) H (jl c (sY c i=true∧∃ n,n < 5∧iG c i k n) H):=by
 refine Zl.2.calls rfl ?_
 simp only [Zl,aH,ET]
 simp +contextual only [sZ,Nat.reduceEqDiff,Nat.reduceAdd,↓reduceIte,reduceCtorEq]
 refine af (qY hc hi hD) ?_
 rintro r H1 ⟨rfl,rfl⟩
 simp +contextual only [dN,gb,gf,gg,sZ,Nat.reduceEqDiff,↓reduceIte,reduceCtorEq]
 cases hb:sY c i with
 | false=>
   simp +contextual only [Bool.not_false,sZ,↓reduceIte,reduceCtorEq]
   exact eO rfl ⟨fun h=>by simp at h,fun h=>absurd h.1 (by simp)⟩ (Up.refl c _) hD
 | true=>
   simp +contextual only [Bool.not_true,sZ]
   refine ae NM ?_
   simp +contextual only [sZ,Nat.reduceEqDiff,↓reduceIte,reduceCtorEq]
   refine aD 5 (fun n (G:List aa)=>SD c H1 G∧∀ m,m < n→¬ iG c i k m)
    (fun n G=>[(0,.ah (.ptr c.d 0)),(1,.ah (.int .i64 i)),(2,.ah (.int .i64 k)),(18,eG),(19,.int .i64 n)]) (fun n G=>G) H1 ⟨⟨⟨hD,Up.refl c _⟩,fun m hm=>by omega⟩,ax _ _ _⟩ fun n G hn hI=>?_
   obtain ⟨hG,kB⟩:=hI
   by_cases h0:n=0
   ·subst h0
    have e0:=X0 0 .gn rfl (by decide)
    have d1:decide (((0:Nat):Int) < 5)=true:=rfl
    have d2:decide ((0:Int) < ((0:Nat):Int))=false:=rfl
    simp +contextual only [nA,e0 _ rfl,d1,d2,sZ,Nat.reduceEqDiff,↓reduceIte,reduceCtorEq]
    refine ⟨1,G,⟨by omega,hG,fun m hm=>?_⟩,by omega,aE rfl rfl⟩
    intro h
    simp only [iG] at h
    omega
   ·by_cases h5:n < 5
    ·have hf:eG.cells[n]?=some (.fn (.func (182 + n)) [] []):=by
      have:n=1∨n=2∨n=3∨n=4:=by omega
      rcases this with rfl | rfl | rfl | rfl <;> rfl
     have en:=X0 n _ hf h5
     have d1:decide ((n:Int) < 5)=true:=decide_eq_true (by omega)
     have d2:decide ((0:Int) < n)=true:=decide_eq_true (by omega)
     simp +contextual only [nA,en _ rfl,d1,d2,sZ,Nat.reduceEqDiff,Nat.reduceAdd,↓reduceIte,reduceCtorEq]
     refine af (hr.at (by omega) h5 hG.1) ?_
     rintro r G' ⟨b,rfl,dZ,hU,kg⟩
     have dS:SD c H1 G':=⟨kg,hG.2.trans hU⟩
     cases b with
     | true=>
       simp +contextual only [sZ,Nat.reduceEqDiff,↓reduceIte,reduceCtorEq]
       exact eO rfl ⟨fun _=>⟨rfl,n,h5,dZ.1 rfl⟩,fun _=>rfl⟩ dS.2 dS.1
     | false=>
       simp +contextual only [sZ,Nat.reduceEqDiff,↓reduceIte,reduceCtorEq]
       refine ⟨n + 1,G',⟨by omega,dS,fun m hm=>?_⟩,by omega,aE (by rw [aq n (by omega)]) rfl⟩
       by_cases e:m=n
       ·subst e;exact fun h=>absurd (dZ.2 h) (by simp)
       ·exact kB m (by omega)
    ·have d1:decide ((n:Int) < 5)=false:=decide_eq_false (by omega)
     simp +contextual only [d1,sZ,Nat.reduceEqDiff,↓reduceIte,reduceCtorEq]
     exact eO rfl ⟨fun h=>by simp at h,fun ⟨_,m,hm,h⟩=>absurd h (kB m (by omega))⟩ hG.2 hG.1
theorem ku {f:Int→T} {s:Int} {l:List Int}:side s (l.map f)=(bI s l).map f:=by unfold side bI;split <;> simp
theorem Li.lx {f:Int→T} {G:T→T→Prop} (irr:∀ x,¬ G x x):∀ {a b:List Int} {n:Nat},Li (fun x y=>f x=f y) a b n→(Lx G (a.map f) (b.map f)↔n < a.length∧(n=b.length∨G (f (a.getD n 0)) (f (b.getD n 0))))
 | [],b,n,h=>by simp [Lx]
 | x::r,[],n,h=>by
   have:=h.lb
   simp at this
   subst this
   simp [Lx]
 | x::r,y::s,0,h=>by
   have eS:¬ f x=f y:=h.no (by simp) (by simp)
   simp [Lx,eS]
 | x::r,y::s,m + 1,h=>by
   have XV:f x=f y:=h.eq 0 (by omega)
   have ih:=Li.lx irr (a:=r) (b:=s) (n:=m) ⟨by have:=h.la;simp at this;omega,by have:=h.lb;simp at this;omega,fun j hj=>h.eq (j + 1) (by omega),fun h1 h2=>h.no (by simpa using h1) (by simpa using h2)⟩
   simp only [List.map_cons,Lx,XV,true_and,List.length_cons,List.getD_cons_succ,Nat.add_lt_add_iff_right,Nat.add_right_cancel_iff]
   rw [ih]
   exact ⟨fun h=>by rcases h with h | h;exact h;exact absurd h (irr _),fun h=>.inl h⟩
theorem yc {Q:Int→Int→Prop}:∀ (a b:List Int),∃ n,Li Q a b n
 | [],b=>⟨0,by simp,by simp,fun j h=>by omega,fun h=>by simp at h⟩
 | x::r,[]=>⟨0,by simp,by simp,fun j h=>by omega,fun _ h=>by simp at h⟩
 | x::r,y::s=>by
   by_cases hq:Q x y
   ·obtain ⟨n,h⟩:=yc (Q:=Q) r s
    refine ⟨n + 1,by have:=h.la;simp;omega,by have:=h.lb;simp;omega,fun j hj=>?_,fun h1 h2=>h.no (by simpa using h1) (by simpa using h2)⟩
    cases j with
    | zero=>exact hq
    | succ j=>exact h.eq j (by omega)
   ·exact ⟨0,by simp,by simp,fun j h=>by omega,fun _ _=>hq⟩
theorem uf {c:Cx} (hc:c.Ok) {i k:Int} (hi:c.ee i) (hk:c.ee k):(sY c i=true∧∃ n,n < 5∧iG c i k n)↔R c.O (c.tm i) (c.tm k):=by
 rw [sA,wA hc hi,wA hc hk]
 have hbi:sY c i=true↔(c.tm i).k=2:=by simp [sY]
 have Hu:sY c k=true↔(c.tm k).k=2:=by simp [sY]
 rw [hbi]
 refine and_congr_right fun hki=>?_
 have epi:qX c i=c.O.pl (c.tm i).n:=if_pos hki
 have esi:dM c i=c.O.sp (c.O.pl (c.tm i).n):=if_pos hki
 have lk:=(hc.kids k hk).1
 have li:=(hc.kids i hi).1
 have all:(∀ x∈c.kd k,R c.O (c.tm i) (c.tm x))↔∀ y∈(c.tm k).l,R c.O (c.tm i) y:=by rw [← lk];simp
 have sub:NN c i k↔∃ x∈(c.tm i).l,E c.O x (c.tm k)∨R c.O x (c.tm k):=by
  rw [← li];unfold NN
  constructor
  ·rintro ⟨x,hx,h⟩;exact ⟨_,aaR.2 ⟨x,hx,rfl⟩,h⟩
  ·rintro ⟨y,hy,h⟩;obtain ⟨x,hx,rfl⟩:=aaR.1 hy;exact ⟨x,hx,h⟩
 have lex:Cw c i k↔(c.tm k).k=2∧c.O.pl (c.tm k).n=c.O.pl (c.tm i).n∧c.O.sp (c.O.pl (c.tm i).n)≠3∧(∀ y∈(c.tm k).l,R c.O (c.tm i) y)∧Lx (Gt c.O.sp) (side (c.O.sp (c.O.pl (c.tm i).n)) ((c.kd i).map (nf c))) (side (c.O.sp (c.O.pl (c.tm i).n)) ((c.kd k).map (nf c))):=by
  unfold Cw
  rw [lC,all,← esi,ku,ku]
  obtain ⟨n,hn⟩:=yc (Q:=fun x y=>nf c x=nf c y) (bI (dM c i) (c.kd i)) (bI (dM c i) (c.kd k))
  have hlx:=Li.lx (G:=Gt c.O.sp) (fun x=>Co x) hn
  rw [hlx]
  constructor
  ·rintro ⟨⟨_,h1,h2⟩,h3,h4,m,hm,h5⟩
   have:=hm.WL hn
   subst this
   exact ⟨h1,h2.symm,h3,h4,h5⟩
  ·rintro ⟨h1,h2,h3,h4,h5⟩
   exact ⟨⟨hki,h1,h2.symm⟩,h3,h4,n,hn,h5⟩
 have mul:zm c i k↔(c.tm k).k=2∧c.O.pl (c.tm k).n=c.O.pl (c.tm i).n∧c.O.sp (c.O.pl (c.tm i).n)=3∧Mu (Gt c.O.sp) ((c.kd i).map (nf c)) ((c.kd k).map (nf c)):=by
  unfold zm
  rw [lC,← esi]
  exact ⟨fun ⟨⟨_,h1,h2⟩,h3⟩=>⟨h1,h2.symm,h3⟩,fun ⟨h1,h2,h3⟩=>⟨⟨hki,h1,h2.symm⟩,h3⟩⟩
 have pla:ue c i k↔(c.tm k).k=2∧c.O.pl (c.tm k).n < c.O.pl (c.tm i).n∧∀ y∈(c.tm k).l,R c.O (c.tm i) y:=by
  unfold ue
  rw [all,Hu,epi]
  refine and_congr_right fun h=>?_
  rw [show qX c k=c.O.pl (c.tm k).n from if_pos h]
 have e:(∃ n,n < 5∧iG c i k n)↔NN c i k∨ue c i k∨Cw c i k∨zm c i k:=by
  constructor
  ·rintro ⟨n,_,h | h | h | h⟩
   ·exact .inl h.2
   ·exact .inr (.inl h.2)
   ·exact .inr (.inr (.inl h.2))
   ·exact .inr (.inr (.inr h.2))
  ·rintro (h | h | h | h)
   ·exact ⟨1,by omega,.inl ⟨rfl,h⟩⟩
   ·exact ⟨2,by omega,.inr (.inl ⟨rfl,h⟩)⟩
   ·exact ⟨3,by omega,.inr (.inr (.inl ⟨rfl,h⟩))⟩
   ·exact ⟨4,by omega,.inr (.inr (.inr ⟨rfl,h⟩))⟩
 rw [e,sub,pla,lex,mul]
 refine or_congr_right ?_
 constructor
 ·rintro (⟨h1,h2⟩ | ⟨h1,h2⟩ | ⟨h1,h2⟩)
  ·exact ⟨h1,.inl h2⟩
  ·exact ⟨h1,.inr (.inl h2)⟩
  ·exact ⟨h1,.inr (.inr h2)⟩
 ·rintro ⟨h1,h2 | h2 | h2⟩
  ·exact .inl ⟨h1,h2⟩
  ·exact .inr (.inl ⟨h1,h2⟩)
  ·exact .inr (.inr ⟨h1,h2⟩)
theorem jl.iff {c:Cx} {Q Q':Prop} {f:Nat} {args:List AV} {H:List aa} (h:aw Tryz.prog f args H (jl c Q H)) (e:Q↔Q'):aw Tryz.prog f args H (jl c Q' H):=by
 refine h.mono ?_
 rintro r H' ⟨b,h1,h2,h3,h4⟩
 exact ⟨b,h1,h2.trans e,h3,h4⟩
theorem E0 {c:Cx} (hc:c.Ok):∀ (N:Nat) (i k:Int),c.ee i→c.ee k→wt (c.tm i) + wt (c.tm k)≤N→lB c i k∧iU c i k:=by
 intro N
 induction N with
 | zero=>intro i k _ _ h;have:=eF (c.tm i);omega
 | succ N ih=>
 intro i k hi hk hN
 have hx:∀ {j:Int},c.ee j→∀ x∈c.kd j,c.ee x∧wt (c.tm x) < wt (c.tm j):=fun {j} hj x hx=>by
  have h1:=hc.kids j hj
  exact ⟨h1.2 x hx,bM (by rw [← h1.1];exact aaR.2 ⟨x,hx,rfl⟩)⟩
 have s1:∀ x∈c.kd i,∀ y∈c.kd k,lB c x y:=fun x h y h'=>(ih x y (hx hi x h).1 (hx hk y h').1 (by have:=(hx hi x h).2;have:=(hx hk y h').2;omega)).1
 have m1:∀ x∈c.kd i,∀ y∈c.kd k,iU c x y:=fun x h y h'=>(ih x y (hx hi x h).1 (hx hk y h').1 (by have:=(hx hi x h).2;have:=(hx hk y h').2;omega)).2
 have s2:∀ x∈c.kd i,lB c x k:=fun x h=>(ih x k (hx hi x h).1 hk (by have:=(hx hi x h).2;omega)).1
 have m2:∀ x∈c.kd i,iU c x k:=fun x h=>(ih x k (hx hi x h).1 hk (by have:=(hx hi x h).2;omega)).2
 have m3:∀ y∈c.kd k,iU c i y:=fun y h=>(ih i y hi (hx hk y h).1 (by have:=(hx hk y h).2;omega)).2
 refine ⟨c79 hc fun H hD=>aeC hc hi hk s1 hD,c76 hc fun H hD=>jl.iff (aeE hc hi ⟨fun H hD=>aaN hc hi s2 m2 hD,fun H hD=>aaO hc hi hk m3 hD,fun H hD=>aaQ hc hi hk m3 s1 m1 hD,fun H hD=>aaW hc hi hk s1 m1 hD⟩ hD) (uf hc hi hk)⟩
theorem kU {c:Cx} (hc:c.Ok) {i k:Int} (hi:c.ee i) (hk:c.ee k):lB c i k:=(E0 hc _ i k hi hk (sU _)).1
theorem kV {c:Cx} (hc:c.Ok) {i k:Int} (hi:c.ee i) (hk:c.ee k):iU c i k:=(E0 hc _ i k hi hk (sU _)).2
end Go.aK
end
section
set_option maxRecDepth 100000
namespace Go.aK
open Go Go.Proofs Go.fo
def EmT (nd:List Nd) (t:T) (i:Nat):Prop:=∀ j,j < wt t→nd[i + j]?=(x7 t i)[j]?
def NO (nd:List Nd) (l:List T) (i:Nat):Prop:=∀ j,j < iN l→nd[i + j]?=(dg l i)[j]?
theorem EmT.head {nd:List Nd} {t:T} {i:Nat} (h:EmT nd t i):nd[i]?=some (t,aZ t.l (i + 1))∧NO nd t.l (i + 1):=by
 have hw:=EQ t
 constructor
 ·have:=h 0 (eF t)
  rw [pQ] at this
  simpa using this
 ·intro j hj
  have:=h (j + 1) (by omega)
  rw [pQ,List.getElem?_cons_succ] at this
  rw [← this];congr 1;omega
theorem NO.cons {nd:List Nd} {x:T} {r:List T} {i:Nat} (h:NO nd (x::r) i):EmT nd x i∧NO nd r (i + wt x):=by
 constructor
 ·intro j hj
  have:=h j (by rw [iN];omega)
  rw [dg,zA (by rw [sB];exact hj)] at this
  exact this
 ·intro j hj
  have:=h (wt x + j) (by rw [iN];omega)
  rw [dg,abu (by rw [sB];omega),sB] at this
  rw [show wt x + j - wt x=j by omega] at this
  rw [← this];congr 1;omega
theorem NO.kids {nd:List Nd}:∀ {l:List T} {i:Nat},NO nd l i→(aZ l i).map (fun k=>(nd.getD k.toNat default).1)=l∧∀ k∈aZ l i,0≤k∧k < nd.length
 | [],i,_=>⟨rfl,fun k h=>by simp [aZ] at h⟩
 | x::r,i,h=>by
   obtain ⟨h1,h2⟩:=h.cons
   obtain ⟨h3,h4⟩:=NO.kids h2
   have h5:=h1.head.1
   have h6:=(aaH.1 h5).1
   refine ⟨?_,?_⟩
   ·rw [aZ,List.map_cons,h3]
    congr 1
    rw [sT,aad,h5];rfl
   ·intro k hk
    rw [aZ] at hk
    rcases OU.1 hk with rfl | hk
    ·omega
    ·exact h4 k hk
def Gd (nd:List Nd) (p:Int→Prop) (i:Nat):Prop:=∃ t,nd[i]?=some (t,aZ t.l (i + 1))∧NO nd t.l (i + 1)∧wx p t
mutual
theorem gdT {nd:List Nd} {p:Int→Prop}:∀ (t:T) (i:Nat),EmT nd t i→wx p t→∀ j,j < wt t→Gd nd p (i + j)
 | .mk k n l,i,h,ha,j,hj=>by
   obtain ⟨h1,h2⟩:=h.head
   cases j with
   | zero=>exact ⟨_,h1,h2,ha⟩
   | succ j=>
     have:=gdL l (i + 1) h2 (fun x hx=>ha.mem hx) j (by rw [wt] at hj;omega)
     rw [show i + (j + 1)=i + 1 + j by omega];exact this
theorem gdL {nd:List Nd} {p:Int→Prop}:∀ (l:List T) (i:Nat),NO nd l i→(∀ x∈l,wx p x)→∀ j,j < iN l→Gd nd p (i + j)
 | [],i,h,ha,j,hj=>by simp [iN] at hj
 | x::r,i,h,ha,j,hj=>by
   obtain ⟨h1,h2⟩:=h.cons
   by_cases hx:j < wt x
   ·exact gdT x i h1 (ha x abn) j hx
   ·have:=gdL r (i + wt x) h2 (fun y hy=>ha y (aa6 _ hy)) (j - wt x) (by rw [iN] at hj;omega)
    rw [show i + j=i + wt x + (j - wt x) by omega];exact this
end
def ic (ps ss:List Int) (ts:List T) (n:Nat):Cx:=⟨ps,ss,dg ts 0,n + 2,n,n + 1⟩
theorem R8 (ts:List T):NO (dg ts 0) ts 0:=fun j _=>by rw [acC]
theorem TR {ps ss:List Int} (hv:Va ps ss) {ts:List T} (eS:ts≠[]) (hw:iN ts≤100000000) (ha:∀ t∈ts,wx (fun n=>0≤n∧n < ps.length) t) (n:Nat):(ic ps ss ts n).Ok:=by
 have hl:(dg ts 0).length=iN ts:=iF ts 0
 have gd:∀ i,(ic ps ss ts n).ee i→∃ t,(dg ts 0).getD i.toNat default=(t,aZ t.l (i.toNat + 1))∧NO (dg ts 0) t.l (i.toNat + 1)∧wx (fun n=>0≤n∧n < ps.length) t:=by
  intro i hi
  have mV:i.toNat < iN ts:=by have:=hi.1;have:=hi.2;simp only [ic] at *;omega
  obtain ⟨t,h1,h2,h3⟩:=gdL ts 0 (R8 ts) ha i.toNat mV
  rw [acC] at h1 h2
  exact ⟨t,by rw [sT,h1];rfl,h2,h3⟩
 refine ⟨hv,?_,by simp [ic],by simp [ic],by simp [ic],fun i hi=>?_,fun i hi=>?_,fun i hi hk=>?_⟩
 ·intro e
  have e:dg ts 0=[]:=e
  rw [e] at hl
  have:=jk ts
  have h0:ts.length=0:=by simp at hl;omega
  exact eS (acy.1 h0)
 ·obtain ⟨t,h1,h2,h3⟩:=gd i hi
  show ((dg ts 0).getD i.toNat default).2.length≤_
  rw [h1,cN]
  by_cases h0:t.l=[]
  ·rw [h0];simp
  ·have:iN t.l≤(dg ts 0).length:=by
    have hp:0 < iN t.l:=by
     have:=jk t.l
     have:=adS.2 h0
     omega
    have:=h2 (iN t.l - 1) (by omega)
    have h4:(dg t.l (i.toNat + 1))[iN t.l - 1]?≠none:=by rw [aaf (by rw [iF];omega)];simp
    rw [← this] at h4
    have h5:i.toNat + 1 + (iN t.l - 1) < (dg ts 0).length:=by
     apply Decidable.byContradiction
     intro hc
     exact h4 (acB (by omega))
    omega
   have:=jk t.l
   omega
 ·obtain ⟨t,h1,h2,h3⟩:=gd i hi
  have hk:=h2.kids
  have e1:(ic ps ss ts n).kd i=aZ t.l (i.toNat + 1):=by show ((dg ts 0).getD i.toNat default).2=_;rw [h1]
  have e2:(ic ps ss ts n).tm i=t:=by show ((dg ts 0).getD i.toNat default).1=_;rw [h1]
  rw [e1,e2]
  exact hk
 ·obtain ⟨t,h1,h2,h3⟩:=gd i hi
  have e2:(ic ps ss ts n).tm i=t:=by show ((dg ts 0).getD i.toNat default).1=_;rw [h1]
  rw [e2] at hk ⊢
  exact h3.op hk
theorem AQ (ps ss:List Int) {ts:List T} (eS:ts≠[]) (H:List aa):Du (ic ps ss ts H.length) (H++[.map [],.map [],kT ps ss (dg ts 0) H.length (H.length + 1)]):=by
 have hn:dg ts 0≠[]:=by
  intro e
  have hl:(dg ts 0).length=iN ts:=iF ts 0
  have:=jk ts
  rw [e] at hl
  have h0:ts.length=0:=by simp at hl;omega
  exact eS (acy.1 h0)
 refine ⟨?_,⟨[],?_,fun p hp=>by simp at hp⟩,⟨[],?_,fun p hp=>by simp at hp⟩⟩
 ·show (H++[aa.map [],.map [],kT ps ss (dg ts 0) H.length (H.length + 1)])[H.length + 2]?=_
  rw [kT,pd,if_neg hn]
  simp [ic]
 ·show (H++[aa.map [],.map [],kT ps ss (dg ts 0) H.length (H.length + 1)])[H.length]?=_
  simp [nL]
 ·show (H++[aa.map [],.map [],kT ps ss (dg ts 0) H.length (H.length + 1)])[H.length + 1]?=_
  simp [nL]
theorem vn {ps ss:List Int} {ts:List T} {n j:Nat} (hj:j < ts.length):(ic ps ss ts n).ee ((aZ ts 0).getD j 0)∧(ic ps ss ts n).tm ((aZ ts 0).getD j 0)=ts.getD j default:=by
 obtain ⟨h1,h2⟩:=(R8 ts).kids
 have hl:=cN ts 0
 refine ⟨h2 _ (aQ (by omega)),?_⟩
 have:=congrArg (fun l=>l[j]?) h1
 have wz:j < (aZ ts 0).length:=by omega
 simp only [acQ,aaf wz,aaf hj,Option.map_some,Option.some.injEq] at this
 have e1:(aZ ts 0).getD j 0=(aZ ts 0)[j]:=by simp [wz]
 have e2:ts.getD j default=ts[j]:=by simp [hj]
 rw [e1,e2]
 exact this
end Go.aK
end
section
set_option maxRecDepth 100000
namespace Go.aK
open Go Go.Proofs
theorem ixs (s:ByteArray) (k:IntKind) (i:Nat) (φ:AV→Prop):bO (.str s) (.int k (i:Int)) φ=(i < s.size∧φ (.int .u8 (s.data.toList.getD i 0).toNat)):=by
 simp only [bO,aad,eq_iff_iff]
 exact ⟨fun h=>h.2,fun h=>⟨by omega,h⟩⟩
theorem qZ (a b:ByteArray) (φ:AV→Prop):dk .eql (.str a) (.str b) φ=φ (.bool (decide (a=b))):=by
 simp [dk]
theorem IT {g:Nat} {f:List AV→Option AV} (h:uX Tryz.prog g (.xv f)) {xs:List AV} {r:AV} (hr:f xs=some r):Pure Tryz.prog g xs r:=fun H=>h xs r H hr
theorem aeI (s:ByteArray) (c:Int):Pure Tryz.prog 238 [.str s,.int .u8 c] (.int .i64 (firstIdx s c.toNat.toUInt8)):=IT aav rfl
def om (s:ByteArray) (c:Int):Int:=s.foldl (fun (n:Int) x=>if x == c.toNat.toUInt8 then n + 1 else n) ((0:Nat):Int)
theorem aeJ (s:ByteArray) (c:Int):Pure Tryz.prog 231 [.str s,.int .u8 c] (.int .i64 (om s c)):=IT aaw (by simp only [countP,om])
theorem aaX (s:ByteArray) (c:Int):Pure Tryz.prog 228 [.str s,.int .u8 c] (.int .i64 (firstIdx s c.toNat.toUInt8)):=by
 refine fun H=>RA.2.calls rfl ?_
 simp only [RA,aH]
 simp +contextual only [BY,sZ,Nat.reduceEqDiff,Nat.reduceAdd,↓reduceIte,reduceCtorEq]
 refine ae (aeI s c) ?_
 simp +contextual only [sZ,↓reduceIte,reduceCtorEq]
 exact aS rfl rfl
theorem aeK (s:ByteArray) (c:Int):Pure Tryz.prog 190 [.str s,.int .u8 c] (.int .i64 (firstIdx s c.toNat.toUInt8)):=by
 refine fun H=>Rl.2.calls rfl ?_
 simp only [Rl,aH]
 simp +contextual only [BY,sZ,Nat.reduceEqDiff,Nat.reduceAdd,↓reduceIte,reduceCtorEq]
 refine ae (aaX s c) ?_
 simp +contextual only [sZ,↓reduceIte,reduceCtorEq]
 exact aS rfl rfl
def us:ByteArray:=⟨#[95]⟩
theorem ix0 (k:IntKind) (φ:AV→Prop):bO (.str us) (.int k 0) φ=φ (.int .u8 95):=by
 simp only [bO,eq_iff_iff]
 exact ⟨fun h=>h.2.2,fun h=>⟨by omega,by decide,h⟩⟩
def R9 (s:ByteArray):Int:=if s=us then 0 else firstIdx s 95
theorem aeL (s:ByteArray):Pure Tryz.prog 229 [.str s,.str us] (.int .i64 (R9 s)):=by
 refine fun H=>RB.2.calls rfl ?_
 simp only [RB,aH]
 unfold R9
 have dm:((us.size:Nat):Int)=1:=rfl
 by_cases hs:s=us
 ·rw [if_pos hs]
  simp +contextual only [qZ,dm,hs,Int.reduceEq,sZ,Nat.reduceEqDiff,Nat.reduceAdd,↓reduceIte,reduceCtorEq,Int.reduceEq]
  exact aS rfl rfl
 ·rw [if_neg hs]
  have Yk:¬ us=s:=fun e=>hs e.symm
  simp +contextual only [qZ,dm,Yk,ix0,Int.reduceEq,sZ,Nat.reduceEqDiff,Nat.reduceAdd,↓reduceIte,reduceCtorEq,Int.reduceEq]
  refine ae (aaX s 95) ?_
  simp +contextual only [sZ,↓reduceIte,reduceCtorEq]
  exact aS rfl rfl
theorem aeM (s:ByteArray):Pure Tryz.prog 191 [.str s,.str us] (.int .i64 (R9 s)):=by
 refine fun H=>Rm.2.calls rfl ?_
 simp only [Rm,aH]
 simp +contextual only [sZ,Nat.reduceEqDiff,Nat.reduceAdd,↓reduceIte,reduceCtorEq]
 refine ae (aeL s) ?_
 simp +contextual only [sZ,↓reduceIte,reduceCtorEq]
 exact aS rfl rfl
theorem aeN (s:ByteArray):Pure Tryz.prog 142 [.str s,.str us] (.bool (decide (0≤R9 s))):=by
 refine fun H=>Rc.2.calls rfl ?_
 simp only [Rc,aH]
 simp +contextual only [sZ,Nat.reduceEqDiff,Nat.reduceAdd,↓reduceIte,reduceCtorEq]
 refine ae (aeM s) ?_
 simp +contextual only [sZ,↓reduceIte,reduceCtorEq]
 exact aS rfl rfl
theorem aeO (s:ByteArray):Pure Tryz.prog 193 [.str s,.str us] (.int .i64 (om s 95)):=by
 refine fun H=>Ro.2.calls rfl ?_
 simp only [Ro,aH]
 have dm:((us.size:Nat):Int)=1:=rfl
 simp +contextual only [dm,ix0,Int.reduceEq,sZ,Nat.reduceEqDiff,Nat.reduceAdd,↓reduceIte,reduceCtorEq,Int.reduceEq]
 refine ae (aeJ s 95) ?_
 simp +contextual only [sZ,↓reduceIte,reduceCtorEq]
 exact aS rfl rfl
def CC (c:UInt8):Bool:=decide (((c.toNat:Nat):Int) < 33) || decide ((126:Int) < ((c.toNat:Nat):Int)) || decide (0≤firstIdx ⟨#[40,41,44]⟩ ((c.toNat:Nat):Int).toNat.toUInt8)
def qw (s:ByteArray):Bool:=!decide (((s.size:Nat):Int) < 1) && !decide ((32:Int) < ((s.size:Nat):Int)) && s.data.toList.all fun c=>!CC c
theorem AR {p:UInt8→Bool} {l:List UInt8} {i:Nat} (h:i < l.length):(l.drop i).all p=(p (l.getD i 0) && (l.drop (i + 1)).all p):=by
 rw [aba h,List.all_cons]
 simp [h]
theorem aaY (s:ByteArray):Pure Tryz.prog 141 [.str s] (.bool (qw s)):=by
 refine fun H=>Tp.calls rfl ?_
 simp only [M9,To]
 have hl:s.data.toList.length=s.size:=rfl
 unfold qw
 simp +contextual only [sZ,Nat.reduceEqDiff,Nat.reduceAdd,↓reduceIte,reduceCtorEq]
 refine ⟨fun h1=>⟨fun h2=>?_,fun h2=>?_⟩,fun h1=>?_⟩
 ·exact aS rfl (by simp [h2])
 ·refine aB s.size (fun i=>((s.data.toList.drop i).all fun c=>!CC c)=(s.data.toList.all fun c=>!CC c))
   (fun i=>[(0,.str s),(13,.int .i64 s.size),(14,.int .i64 i)]) (fun i=>H) ⟨rfl,ax _ _ _⟩ fun i hi hI=>?_
  simp +contextual only [ixs,sZ,Nat.reduceEqDiff,Nat.reduceAdd,↓reduceIte,reduceCtorEq]
  have fin:∀ (aG:i < s.size),CC (s.data.toList.getD i 0)=true→(s.data.toList.all fun c=>!CC c)=false:=fun aG hb=>by
   rw [← hI,AR (by omega),hb];rfl
  refine ⟨fun aG=>?_,fun eW=>?_⟩
  ·have aG:=aY aG
   have fin:=fin aG
   rw [AR (by omega)] at hI
   have TN:CC (s.data.toList.getD i 0)=(decide ((((s.data.toList.getD i 0).toNat:Nat):Int) < 33) || decide ((126:Int) < (((s.data.toList.getD i 0).toNat:Nat):Int)) || decide (0≤firstIdx ⟨#[40,41,44]⟩ (((s.data.toList.getD i 0).toNat:Nat):Int).toNat.toUInt8)):=rfl
   generalize s.data.toList.getD i 0=c at *
   refine ⟨aG,fun a=>⟨aG,fun b=>⟨aG,ae (aeK _ _) ?_⟩,fun b=>?_⟩,fun a=>?_⟩
   ·simp +contextual only [sZ,Nat.reduceEqDiff,↓reduceIte,reduceCtorEq]
    refine ⟨fun d=>?_,fun d=>?_⟩
    ·exact aS rfl (by rw [fin (by rw [TN];simp only [decide_eq_true d,Bool.or_true])];simp)
    ·refine ⟨i + 1,⟨aG,?_⟩,by omega,aE (by rw [aq i (by omega)]) rfl⟩
     rw [← hI]
     have:CC c=false:=by
      rw [TN]
      simp only [acx,decide_eq_false_iff_not]
      omega
     rw [this];simp
   ·exact aS rfl (by rw [fin (by rw [TN];simp only [decide_eq_true b,Bool.or_true,Bool.true_or])];simp)
   ·exact aS rfl (by rw [fin (by rw [TN];simp only [decide_eq_true a,Bool.true_or])];simp)
  ·rw [aa9 (by have:=bN eW;omega)] at hI
   exact aS rfl (by rw [← hI];simp;omega)
 ·exact aS rfl (by simp [h1])
end Go.aK
end
section
set_option maxRecDepth 100000
namespace Go.aK
open Go Go.Proofs
structure iK where
 name:ByteArray
 args:List Int
 AS:Int
 deriving Inhabited
structure Sg where
 a9:List ByteArray
 ops:List iK
 deriving Inhabited
def iK.av (o:iK):AV:=.agg [.str o.name,.ak 0 (ints o.args),.int .i64 o.AS]
def pf (l:List iK):List AV:=l.map iK.av
def strs (l:List ByteArray):List AV:=l.map AV.str
def Sg.av (s:Sg):AV:=.agg [.ak 0 (strs s.a9),.ak 0 (pf s.ops)]
theorem yd (l:List iK):(pf l).length=l.length:=by simp [pf]
theorem E1 (l:List ByteArray):(strs l).length=l.length:=by simp [strs]
theorem ye (n:Nat) (l:List iK):aj n (pf l)=true:=by
 rw [bc];intro x hx;obtain ⟨y,_,rfl⟩:=aaR.1 hx
 simp [iK.av,AV.aW,aj,aT]
theorem yf (n:Nat) (l:List ByteArray):aj n (strs l)=true:=by
 rw [bc];intro x hx;obtain ⟨y,_,rfl⟩:=aaR.1 hx;rfl
theorem iK.bW (n:Nat) (o:iK):o.av.aW n=true:=by simp [iK.av,AV.aW,aj,aT]
theorem iK.tM (o:iK):o.av.val=true:=rfl
theorem iK.nC (o:iK):o.av.cells.all AV.one=true:=rfl
theorem iK.fL (o:iK):o.av.ab=o.av:=rfl
theorem iK.so (o:iK):o.av.drop=o.av:=rfl
theorem iK.ca (o:iK):o.av.cells.length=3:=rfl
theorem Sg.bW (n:Nat) (o:Sg):o.av.aW n=true:=by simp [Sg.av,AV.aW,aj,yf,ye]
theorem Sg.tM (o:Sg):o.av.val=true:=rfl
theorem Sg.nC (o:Sg):o.av.cells.all AV.one=true:=rfl
theorem Sg.fL (o:Sg):o.av.ab=o.av:=rfl
theorem Sg.so (o:Sg):o.av.drop=o.av:=rfl
theorem Sg.ca (o:Sg):o.av.cells.length=2:=rfl
theorem KE (o:Nat) (l:List iK):(∀ (own:Nat) (xs:List AV),AV.ak o (pf l)=AV.ak own xs→∀ z∈xs,z.cells.length=3)=True:=by
 simp only [eq_iff_iff,iff_true]
 intro own xs e z hz
 cases e
 obtain ⟨y,_,rfl⟩:=aaR.1 hz
 rfl
theorem KF (o:Nat) (l:List ByteArray):(∀ (own:Nat) (xs:List AV),AV.ak o (strs l)=AV.ak own xs→∀ z∈xs,z.cells.length=1)=True:=by
 simp only [eq_iff_iff,iff_true]
 intro own xs e z hz
 cases e
 obtain ⟨y,_,rfl⟩:=aaR.1 hz
 rfl
theorem NP (e o:Nat) (l:List iK) (k:IntKind) (i:Nat) (φ:AV→Prop):aA e (.ak o (pf l)) (.int k (i:Int)) φ=(i < l.length∧φ (.ah (l.getD i default).av)):=by
 simp only [aA,yd,aad,eq_iff_iff]
 constructor
 ·rintro ⟨_,h,h2⟩;refine ⟨h,?_⟩;simpa [pf,h] using h2
 ·rintro ⟨h,h2⟩;refine ⟨by omega,h,?_⟩;simpa [pf,h] using h2
theorem NQ (e o:Nat) (l:List ByteArray) (k:IntKind) (i:Nat) (φ:AV→Prop):aA e (.ak o (strs l)) (.int k (i:Int)) φ=(i < l.length∧φ (.ah (.str (l.getD i default)))):=by
 simp only [aA,E1,aad,eq_iff_iff]
 constructor
 ·rintro ⟨_,h,h2⟩;refine ⟨h,?_⟩;simpa [strs,h] using h2
 ·rintro ⟨h,h2⟩;refine ⟨by omega,h,?_⟩;simpa [strs,h] using h2
theorem aaZ (o:iK) (H:List aa) (φ:AV→Prop):aU (some 3) (.ah o.av) H φ=φ o.av:=by simp [aU,iK.av,AV.cells]
theorem sG (o:Sg) (H:List aa) (φ:AV→Prop):aU (some 2) (.ah o.av) H φ=φ o.av:=by simp [aU,Sg.av,AV.cells]
theorem fo0 (x:iK) (φ:AV→Prop):al 0 none (.ah x.av) φ=φ (.ah (.str x.name)):=by simp [al,apart,iK.av,AV.cells,AV.one]
theorem fo1 (x:iK) (φ:AV→Prop):al 1 none (.ah x.av) φ=φ (.ah (.ak 0 (ints x.args))):=by simp [al,apart,iK.av,AV.cells,AV.one]
theorem fo2 (x:iK) (φ:AV→Prop):al 2 none (.ah x.av) φ=φ (.ah (.int .i64 x.AS)):=by simp [al,apart,iK.av,AV.cells,AV.one]
theorem fs0 (x:Sg) (φ:AV→Prop):al 0 none (.ah x.av) φ=φ (.ah (.ak 0 (strs x.a9))):=by simp [al,apart,Sg.av,AV.cells,AV.one]
theorem fs1 (x:Sg) (φ:AV→Prop):al 1 none (.ah x.av) φ=φ (.ah (.ak 0 (pf x.ops))):=by simp [al,apart,Sg.av,AV.cells,AV.one]
def aC:=(hV (hV (hV (hV @yd @E1) (hV @ye @yf)) (hV (hV @iK.bW @iK.tM) (hV (hV @iK.nC @iK.fL) (hV @iK.so @iK.ca)))) (hV (hV (hV (hV @Sg.bW @Sg.tM) (hV (hV @Sg.nC @Sg.fL) (hV @Sg.so @Sg.ca))) (hV (hV @KE @KF) (hV @NP @NQ))) (hV (hV @aaZ @sG) (hV (hV @fo0 @fo1) (hV @fo2 (hV @fs0 @fs1))))))
def zn (p:Int→Bool):List Int→Int→Int
 | [],_=>-1
 | x::r,k=>if p x=true then k else zn p r (k + 1)
theorem E2 (p:Int→Bool):∀ (l:List Int) (k:Int),0≤k→(decide (0≤zn p l k)=l.any p)
 | [],k,_=>by simp [zn]
 | x::r,k,h=>by
   simp only [zn,agj]
   split
   ·rename_i hp;simp [hp,h]
   ·rename_i hp;simp [hp,E2 p r (k + 1) (by omega)]
theorem KG {p:Int→Bool} {l:List Int} {i:Nat} {k:Int} (h:i < l.length):zn p (l.drop i) k=if p (l.getD i 0)=true then k else zn p (l.drop (i + 1)) (k + 1):=by
 rw [aba h]
 simp [zn,h]
theorem aeP (g:Nat) (cap:List AV) (cc:cap.map AV.ab=cap) (hb:aj 0 cap=true) (p:Int→Bool) (l:List Int) (hf:∀ x∈l,Pure Tryz.prog g ([.int .i64 x]++cap) (.bool (p x))) :
 Pure Tryz.prog 100 [.ak 0 (ints l),.fn (.func g) [] cap] (.int .i64 (zn p l 0)):=by
 refine fun H=>Em.2.calls rfl ?_
 simp only [Em,aH]
 simp +contextual only [sZ,Nat.reduceEqDiff,Nat.reduceAdd,↓reduceIte,reduceCtorEq]
 intro hl
 refine aB l.length (fun i=>zn p (l.drop i) i=zn p l 0) (fun i=>[(0,.ak 0 (ints l)),(1,.fn (.func g) [] cap),(7,.int .i64 l.length),(8,.int .i64 i)]) (fun _=>H) ⟨rfl,ax _ _ _⟩ fun i hi hI=>?_
 simp +contextual only [cc,sZ,Nat.reduceEqDiff,Nat.reduceAdd,↓reduceIte,reduceCtorEq]
 refine ⟨fun aG=>?_,fun eW=>?_⟩
 ·have aG:=aY aG
  rw [KG aG] at hI
  refine ⟨aG,ae (hf _ ?_) ?_⟩
  ·simp [aG]
  simp +contextual only [sZ,Nat.reduceEqDiff,↓reduceIte,reduceCtorEq]
  refine pL (fun hb=>?_) (fun hb=>?_) <;> simp +contextual only [sZ,Nat.reduceEqDiff,↓reduceIte,reduceCtorEq]
  ·rw [if_pos hb] at hI
   exact aS rfl (by rw [← hI])
  ·rw [if_neg (by rw [hb];simp)] at hI
   exact ⟨i + 1,⟨aG,hI⟩,by omega,aE (by rw [aq i (by omega)]) rfl⟩
 ·rw [aa9 (bN eW)] at hI
  exact aS rfl (by rw [← hI];rfl)
theorem aa0 (g:Nat) (cap:List AV) (cc:cap.map AV.ab=cap) (hb:aj 0 cap=true) (p:Int→Bool) (l:List Int) (hf:∀ x∈l,Pure Tryz.prog g ([.int .i64 x]++cap) (.bool (p x))) :
 Pure Tryz.prog 102 [.ak 0 (ints l),.fn (.func g) [] cap] (.bool (l.any p)):=by
 refine fun H=>En.2.calls rfl ?_
 simp only [En,aH]
 simp +contextual only [sZ,Nat.reduceEqDiff,Nat.reduceAdd,↓reduceIte,reduceCtorEq]
 refine ae (aeP g cap cc hb p l hf) ?_
 simp +contextual only [sZ,↓reduceIte,reduceCtorEq]
 exact aS rfl (by rw [E2 p l 0 (by omega)])
end Go.aK
end
section
set_option maxRecDepth 100000
namespace Go.aK
open Go Go.Proofs
def KH (n a:Int):Bool:=decide (0≤a) && decide (a < n)
theorem aa1 (n a:Int):Pure Tryz.prog 192 [.int .i64 a,.ah (.int .i64 n)] (.bool (KH n a)):=by
 refine fun H=>Rn.2.calls rfl ?_
 simp only [Rn,aH]
 unfold KH
 simp +contextual only [sZ,Nat.reduceEqDiff,Nat.reduceAdd,↓reduceIte,reduceCtorEq]
 refine ⟨fun h=>aS rfl (by simp [h]),fun h=>aS rfl (by simp;omega)⟩
theorem aeQ (n a:Int):Pure Tryz.prog 194 [.int .i64 a,.ah (.fn (.func 192) [] [.ah (.int .i64 n)])] (.bool (!KH n a)):=by
 refine fun H=>Rp.2.calls rfl ?_
 simp only [Rp,aH]
 simp +contextual only [sZ,Nat.reduceEqDiff,Nat.reduceAdd,↓reduceIte,reduceCtorEq]
 refine ae (aa1 n a) ?_
 simp +contextual only [sZ,↓reduceIte,reduceCtorEq]
 exact aS rfl rfl
def sH (o:iK) (n:Int):Bool:=
 qw o.name && (decide (om o.name 95 < o.name.size) && ((decide (om o.name 95=0) || decide (om o.name 95=o.args.length)) && (decide ((o.args.length:Int)≤8) && (KH n o.AS && !o.args.any fun a=>!KH n a))))
theorem aeR (o:iK) (n:Int):Pure Tryz.prog 143 [o.av,.int .i64 n] (.bool (sH o n)):=by
 refine fun H=>Tr.calls rfl ?_
 simp only [Na,Tq]
 unfold sH
 simp +contextual only [aC,sZ,Nat.reduceEqDiff,Nat.reduceAdd,↓reduceIte,reduceCtorEq]
 refine ae (aeO o.name) ?_
 simp +contextual only [aC,sZ,Nat.reduceEqDiff,Nat.reduceAdd,↓reduceIte]
 refine ae (aaY o.name) ?_
 cases hn:qw o.name with
 | false=>
   simp +contextual only [sZ,Nat.reduceEqDiff,↓reduceIte,reduceCtorEq]
   exact aS rfl rfl
 | true=>
   have h66:=aa0 194 [.ah (.fn (.func 192) [] [.ah (.int .i64 n)])] rfl rfl (fun a=>!KH n a) o.args (fun a _=>aeQ n a)
   have NR:=aa1 n o.AS
   generalize KH n o.AS=q at NR ⊢
   generalize (o.args.any fun a=>!KH n a)=z at h66 ⊢
   by_cases h1:om o.name 95 < o.name.size
   ·have e1:decide (om o.name 95 < o.name.size)=true:=decide_eq_true h1
    simp +contextual only [aC,h1,sZ,Nat.reduceEqDiff,Nat.reduceAdd,↓reduceIte,reduceCtorEq]
    refine ⟨fun X1 _=>⟨fun h21=>?_,fun h21=>?_⟩,fun X1 _=>?_⟩
    ·have e2:(decide (om o.name 95=0) || decide (om o.name 95=(o.args.length:Int)))=true:=by simp [h21]
     refine ⟨fun h3=>ae NR ?_,fun h3=>?_⟩
     ·have e903:decide ((o.args.length:Int)≤8)=true:=decide_eq_true h3
      rw [e1,e2,e903]
      cases q with
      | false=>
        simp +contextual only [sZ,Nat.reduceEqDiff,↓reduceIte,reduceCtorEq]
        exact aS rfl (by simp)
      | true=>
        simp +contextual only [aC,sZ,Nat.reduceEqDiff,Nat.reduceAdd,↓reduceIte,reduceCtorEq]
        refine ae h66 ?_
        simp +contextual only [sZ,Nat.reduceEqDiff,↓reduceIte,reduceCtorEq]
        exact aS rfl (by simp)
     ·have e903:decide ((o.args.length:Int)≤8)=false:=decide_eq_false (by omega)
      exact aS rfl (by rw [e903];simp)
    ·have e2:(decide (om o.name 95=0) || decide (om o.name 95=(o.args.length:Int)))=false:=by simp [X1,h21]
     exact aS rfl (by rw [e2];simp)
    ·have e2:(decide (om o.name 95=0) || decide (om o.name 95=(o.args.length:Int)))=true:=by simp [X1]
     refine ⟨fun h3=>ae NR ?_,fun h3=>?_⟩
     ·have e903:decide ((o.args.length:Int)≤8)=true:=decide_eq_true h3
      rw [e1,e2,e903]
      cases q with
      | false=>
        simp +contextual only [sZ,Nat.reduceEqDiff,↓reduceIte,reduceCtorEq]
        exact aS rfl (by simp)
      | true=>
        simp +contextual only [aC,sZ,Nat.reduceEqDiff,Nat.reduceAdd,↓reduceIte,reduceCtorEq]
        refine ae h66 ?_
        simp +contextual only [sZ,Nat.reduceEqDiff,↓reduceIte,reduceCtorEq]
        exact aS rfl (by simp)
     ·have e903:decide ((o.args.length:Int)≤8)=false:=decide_eq_false (by omega)
      exact aS rfl (by rw [e903];simp)
   ·have e1:decide (om o.name 95 < o.name.size)=false:=decide_eq_false h1
    rw [e1]
    simp +contextual only [aC,h1,sZ,Nat.reduceEqDiff,↓reduceIte,reduceCtorEq]
    exact aS rfl (by simp)
end Go.aK
end
section
set_option maxRecDepth 100000
namespace Go.aK
open Go Go.Proofs
theorem aa2 (l:List Int) (hl:l.length * 8≤140737488355328):Pure Tryz.prog 118 [.ak 0 (ints l)] (.ak 1 (ints l)):=fun H=>
 sn 0 (ints l) H (of_eq_true (lr l)) (by rw [au];exact hl) (aT _ _)
def KI (a:Int):UInt8:=UInt8.ofNat (IntKind.u8.wrap a).toNat
theorem WS (a:Int):AV.int .u8 (IntKind.u8.wrap a)=.int .u8 (KI a).toNat:=by
 have h:0≤IntKind.u8.wrap a∧IntKind.u8.wrap a < 256:=by
  simp only [IntKind.wrap]
  have h1:IntKind.u8.bits=8:=rfl
  have h2:IntKind.u8.signed=false:=rfl
  rw [h1,h2]
  simp
  omega
 congr 1
 unfold KI
 rw [UInt8.toNat_ofNat']
 omega
def KJ (o:iK):List UInt8:=(o.name++⟨#[40]⟩).data.toList++(o.args++[o.AS]).map KI
def oo (o:iK):ByteArray:=⟨(KJ o).toArray⟩
theorem Hv (l:List UInt8) (a:Int):bn l++[.int .u8 (IntKind.u8.wrap a)]=bn (l++[KI a]):=by
 rw [WS];simp [bn]
theorem KK (l:List UInt8):(bn l).length=l.length:=by simp [bn]
theorem WT (s:ByteArray) (φ:AV→Prop):fH 1 (.str s) φ=(s.size < 9223372036854775808∧φ (.ak 1 (bn s.data.toList))):=agK
theorem WU (o:Nat) (l:List UInt8) (φ:AV→Prop) (h:φ (.str ⟨l.toArray⟩)):kA (.ak o (bn l)) φ:=⟨l,rfl,h⟩
theorem WV (k k':IntKind) (n:Int) (φ:AV→Prop):cJ k (.int k' n) φ=φ (.int k (k.wrap n)):=agK
theorem aa3 (o:iK) (h1:o.name.size≤32) (h2:o.args.length≤8):Pure Tryz.prog 144 [o.av] (.str (oo o)):=by
 refine fun H=>Tt.calls rfl ?_
 simp only [Nb,Ts]
 have dm:(⟨#[40]⟩:ByteArray).size=1:=rfl
 have hs2:(o.name++⟨#[40]⟩:ByteArray).size=o.name.size + 1:=by rw [ByteArray.size_append,dm]
 have hln:(o.name++⟨#[40]⟩:ByteArray).data.toList.length=o.name.size + 1:=hs2
 simp +contextual only [aC,WT,dm,hs2,sZ,Nat.reduceEqDiff,Nat.reduceAdd,↓reduceIte]
 refine ⟨by omega,by omega,aF (aa2 o.args (by omega)) ?_⟩
 simp +contextual only [aC,kM,ok_int,tN,sZ,Nat.reduceEqDiff,Nat.reduceAdd,↓reduceIte]
 refine ⟨by omega,?_⟩
 generalize hv:o.args++[o.AS]=vs
 have rq:vs.length≤9:=by rw [← hv];simp;omega
 have hk:oo o=⟨((o.name++⟨#[40]⟩:ByteArray).data.toList++vs.map KI).toArray⟩:=by rw [oo,KJ,hv]
 rw [hk]
 generalize (o.name++⟨#[40]⟩:ByteArray).data.toList=nm at *
 refine aB vs.length (fun _=>True)
  (fun i=>[(3,.ak 1 (bn (nm++(vs.take i).map KI))),(16,.ak 1 (ints vs)),(17,.int .i64 vs.length),(18,.int .i64 i)]) (fun _=>H) ⟨trivial,aE (by simp) rfl⟩ fun i hi hI=>?_
 simp +contextual only [sZ,Nat.reduceEqDiff,↓reduceIte,reduceCtorEq]
 refine ⟨fun aG=>⟨aY aG,?_⟩,fun eW=>?_⟩
 ·have aG:=aY aG
  simp +contextual only [WV,kM,ok_int,Hv,KK,sZ,Nat.reduceEqDiff,Nat.reduceAdd,↓reduceIte]
  refine ⟨by simp;omega,i + 1,aG,by omega,aE ?_ rfl⟩
  rw [aq i (by omega),ade,acL,← abb]
  simp [aG]
 ·rw [Ue (bN eW)]
  refine WU 0 _ _ ?_
  simp +contextual only [sZ]
  exact aS rfl rfl
instance:LawfulBEq ByteArray where
 rfl:=by intro a;rw [Bq];simp
 eq_of_beq:=by intro a b h;rw [Bq] at h;exact of_decide_eq_true h
def qx (vs:List ByteArray):List (AV×AV):=vs.map fun v=>(.str v,.bool true)
theorem pg (n:ByteArray):∀ (vs:List ByteArray) (i:Nat),(n∈vs→∃ j,dt 1 (.str n) (qx vs) i=some (some (j,.bool true)))∧(n∉vs→dt 1 (.str n) (qx vs) i=some none)
 | [],i=>⟨fun h=>(by cases h),fun _=>rfl⟩
 | v::r,i=>by
   have ih:=pg n r (i + 1)
   simp only [qx,List.map_cons,dt,cL]
   by_cases hv:n=v
   ·subst hv
    simp
   ·simp only [OU,hv,false_or]
    exact ih
theorem sI (n:ByteArray) (vs:List ByteArray) (φ:AV→Prop):gK (some (.map (qx vs))) 1 (.bool false) (.str n) false φ=φ (.bool (decide (n∈vs))):=by
 have h:=pg n vs 0
 unfold gK
 by_cases hn:n∈vs
 ·obtain ⟨j,hj⟩:=h.1 hn
  simp [hj,hn,nz]
 ·simp [h.2 hn,hn,cL,aR,bm.aR,nz]
theorem E3 {n:ByteArray} {vs:List ByteArray} (hn:n∉vs) (id:Nat) (H:List aa) (K:List aa→Prop):fx (some (.map (qx vs))) 1 id (.str n) (.bool true) H K=K (H.set id (.map (qx (vs++[n])))):=by
 have h:=(pg n vs 0).2 hn
 unfold fx
 simp only [h]
 simp [cL,Mc,sf,wc,qx,aR,bm.aR,nz]
def nO:List ByteArray→List ByteArray→Bool
 | [],_=>true
 | s::r,seen=>if qw s=true∧¬ 0≤R9 s∧s∉seen then nO r (seen++[s]) else false
def CD (n:Int):List iK→List ByteArray→Bool
 | [],_=>true
 | o::r,seen=>if sH o n=true∧oo o∉seen then CD n r (seen++[oo o]) else false
def mG (s:Sg):Bool:=decide ((s.a9.length:Int)≤64) && decide ((s.ops.length:Int)≤256) && nO s.a9 [] && CD s.a9.length s.ops []
theorem vq {l:List ByteArray} {i:Nat} (h:i < l.length) (seen:List ByteArray):nO (l.drop i) seen=if qw (l.getD i default)=true∧¬ 0≤R9 (l.getD i default)∧l.getD i default∉seen then nO (l.drop (i + 1)) (seen++[l.getD i default]) else false:=by
 rw [aba h,nO]
 have e:l.getD i default=l[i]:=by simp [h]
 rw [e]
theorem AT {n:Int} {l:List iK} {i:Nat} (h:i < l.length) (seen:List ByteArray):CD n (l.drop i) seen=if sH (l.getD i default) n=true∧oo (l.getD i default)∉seen then CD n (l.drop (i + 1)) (seen++[oo (l.getD i default)]) else false:=by
 rw [aba h,CD]
 have e:l.getD i default=l[i]:=by simp [h]
 rw [e]
theorem Hw {o:iK} {n:Int} (h:sH o n=true):o.name.size≤32∧o.args.length≤8∧KH n o.AS=true∧∀ a∈o.args,KH n a=true:=by
 simp only [sH,qw,zB,abp,decide_eq_false_iff_not,decide_eq_true_eq] at h
 obtain ⟨⟨⟨_,h1⟩,_⟩,_,_,h2,h3,h4⟩:=h
 refine ⟨by omega,by omega,h3,fun a ha=>?_⟩
 cases hx:KH n a with
 | true=>rfl
 | false=>
   rw [ac5] at h4
   exact absurd (agq.2 ⟨a,ha,by rw [hx];rfl⟩) h4
theorem c81 (s:Sg):Pure Tryz.prog 81 [s.av] (.int .i64 (if mG s=true then 0 else 40)):=by
 refine fun H=>YZ.calls rfl ?_
 simp only [Wg,YY]
 have bad:∀ {G:List aa} {e:Bool},e=false→G.take H.length=H→mG s=e→bT H.length [RX.t 2] [(2,AV.int IntKind.i64 40)] G fun r H'=>r=AV.int IntKind.i64 (if mG s=true then 0 else 40)∧H'=H:=by
  intro G e he hG hc
  rw [hc,he]
  exact xH hG rfl rfl ⟨rfl,rfl⟩
 simp +contextual only [aC,sZ,Nat.reduceEqDiff,Nat.reduceAdd,↓reduceIte,reduceCtorEq]
 refine fun _=>⟨fun h1 _=>⟨fun h2=>?_,fun h2=>?_⟩,fun h1=>?_⟩
 ·have h2':¬ (s.ops.length:Int)≤256:=by omega
  exact bad rfl (by simp) (by rw [mG,decide_eq_false h2'];simp)
 ·refine aD s.a9.length (fun i (seen:List ByteArray)=>nO (s.a9.drop i) seen=nO s.a9 [])
   (fun i seen=>[(1,.ah s.av),(3,.map H.length),(21,.ak 0 (strs s.a9)),(22,.int .i64 s.a9.length),(23,.int .i64 i)]) (fun i seen=>H++[.map (qx seen)]) [] ⟨rfl,ax _ _ _⟩ fun i seen hi hI=>?_
  simp +contextual only [aC,sZ,Nat.reduceEqDiff,Nat.reduceAdd,↓reduceIte]
  refine ⟨fun aG=>⟨aY aG,?_⟩,fun eW=>?_⟩
  ·have aG:=aY aG
   rw [vq aG] at hI
   generalize s.a9.getD i default=x at *
   refine ae (aaY x) ?_
   cases hn:qw x with
   | false=>
     rw [hn,if_neg (by simp)] at hI
     simp +contextual only [sZ,Nat.reduceEqDiff,↓reduceIte,reduceCtorEq]
     exact bad rfl (by simp) (by simp [mG,← hI])
   | true=>
     rw [hn] at hI
     simp +contextual only [sZ,Nat.reduceEqDiff,Nat.reduceAdd,↓reduceIte]
     refine ae (aeN x) ?_
     by_cases hu:0≤R9 x
     ·rw [if_neg (fun h=>h.2.1 hu)] at hI
      simp +contextual only [hu,sZ,Nat.reduceEqDiff,↓reduceIte,reduceCtorEq]
      exact bad rfl (by simp) (by simp [mG,← hI])
     ·by_cases hm:x∈seen
      ·rw [if_neg (fun h=>h.2.2 hm)] at hI
       simp +contextual only [hu,sI,hm,sZ,Nat.reduceEqDiff,↓reduceIte,reduceCtorEq]
       exact bad rfl (by simp) (by simp [mG,← hI])
      ·rw [if_pos ⟨rfl,hu,hm⟩] at hI
       simp +contextual only [hu,sI,hm,E3 hm,sZ,Nat.reduceEqDiff,↓reduceIte]
       exact ⟨i + 1,seen++[x],⟨aG,hI⟩,by omega,aE (by rw [aq i (by omega)]) rfl⟩
  ·have hs:nO s.a9 []=true:=by
    rw [← hI,aa9 (bN eW)];rfl
   have hc:mG s=CD s.a9.length s.ops []:=by simp [mG,h1,h2,hs]
   clear hI
   simp +contextual only [sZ]
   refine fun _=>aD s.ops.length (fun i (seen2:List ByteArray)=>CD s.a9.length (s.ops.drop i) seen2=CD s.a9.length s.ops [])
    (fun i seen2=>[(1,.ah s.av),(6,.map (H.length + 1)),(44,.ak 0 (pf s.ops)),(45,.int .i64 s.ops.length),(46,.int .i64 i)]) (fun i seen2=>H++[.map (qx seen),.map (qx seen2)]) [] ⟨rfl,ax _ _ _⟩ fun i seen2 hi hI=>?_
   simp +contextual only [aC,sZ,Nat.reduceEqDiff,Nat.reduceAdd,↓reduceIte,reduceCtorEq]
   refine ⟨fun aG=>⟨aY aG,?_⟩,fun eW=>?_⟩
   ·have aG:=aY aG
    rw [AT aG] at hI
    generalize s.ops.getD i default=x at *
    refine fun _=>ae (aeR x _) ?_
    cases hg:sH x s.a9.length with
    | false=>
      rw [hg,if_neg (by simp)] at hI
      simp +contextual only [sZ,Nat.reduceEqDiff,↓reduceIte,reduceCtorEq]
      exact bad rfl (by simp) (by rw [hc,← hI])
    | true=>
      rw [hg] at hI
      have hsm:=Hw hg
      simp +contextual only [aC,sZ,Nat.reduceEqDiff,Nat.reduceAdd,↓reduceIte]
      refine ae (aa3 x hsm.1 hsm.2.1) ?_
      by_cases hm:oo x∈seen2
      ·rw [if_neg (fun h=>h.2 hm)] at hI
       simp +contextual only [sI,hm,sZ,Nat.reduceEqDiff,↓reduceIte,reduceCtorEq]
       exact bad rfl (by simp) (by rw [hc,← hI])
      ·rw [if_pos ⟨rfl,hm⟩] at hI
       simp +contextual only [aC,sI,hm,sZ,Nat.reduceEqDiff,Nat.reduceAdd,↓reduceIte]
       refine ae (aa3 x hsm.1 hsm.2.1) ?_
       simp +contextual only [E3 hm,sZ,Nat.reduceEqDiff,↓reduceIte]
       exact ⟨i + 1,seen2++[oo x],⟨aG,hI⟩,by omega,aE (by rw [aq i (by omega)]) rfl⟩
   ·rw [aa9 (bN eW)] at hI
    exact xH (by simp) rfl rfl ⟨by rw [hc,← hI];rfl,rfl⟩
 ·have h1':¬ (s.a9.length:Int)≤64:=by omega
  exact bad rfl (by simp) (by rw [mG,decide_eq_false h1'];simp)
end Go.aK
end
