/- A memory-free reading of the model's values (part 20): code that is run. -/
import Derived.Test.YtljchnfgjdjobaaGreatVad
set_option linter.unusedVariables false
set_option linter.unusedSimpArgs false
set_option linter.defProp false
set_option linter.unusedSectionVars false
namespace Go.aK
open Go
def TP:Fn→Fn→Bool
 | .func a,.func b=>a == b
 | _,_=>false
mutual
def AV.beq:AV→AV→Bool
 | .any,.any=>true
 | .bool a,.bool b=>a == b
 | .int k a,.int l b=>decide (k=l) && decide (a=b)
 | .str a,.str b=>decide (a=b)
 | .ag,.ag=>true
 | .al o xs,.al p ys=>decide (o=p) && xA xs ys
 | .aZ a b c d,.aZ e f g h=>decide (a=e) && decide (b=f) && decide (c=g) && decide (d=h)
 | .agg xs,.agg ys=>xA xs ys
 | .tuple xs,.tuple ys=>xA xs ys
 | .ptr a b,.ptr c d=>decide (a=c) && decide (b=d)
 | .ai x,.ai y=>x.beq y
 | .tg,.tg=>true
 | .map a,.map b=>decide (a=b)
 | .jN,.jN=>true
 | .fn f xs ys,.fn g us vs=>TP f g && xA xs us && xA ys vs
 | .gn,.gn=>true
 | .iface t x,.iface u y=>decide (t=u) && x.beq y
 | .yX,.yX=>true
 | _,_=>false
def xA:List AV→List AV→Bool
 | [],[]=>true
 | x::xs,y::ys=>x.beq y && xA xs ys
 | _,_=>false
end
theorem TQ {f g:Fn} (h:TP f g=true):f=g:=by
 unfold TP at h
 split at h
 ·simp at h;rw [h]
 ·cases h
mutual
theorem AV.sv:∀ {x y:AV},x.beq y=true→x=y:=by
 intro x y h
 cases x <;> cases y <;> simp only [AV.beq,Ot,decide_eq_true_eq,abO,beq_iff_eq] at h <;> first
  | rfl
  | (subst h;rfl)
  | (obtain ⟨rfl,rfl⟩:=h;rfl)
  | (obtain ⟨⟨⟨rfl,rfl⟩,rfl⟩,rfl⟩:=h;rfl)
  | (rw [tN h])
  | (rw [AV.sv h])
  | (obtain ⟨rfl,h⟩:=h;rw [tN h])
  | (obtain ⟨rfl,h⟩:=h;rw [AV.sv h])
  | (obtain ⟨⟨h1,h2⟩,h3⟩:=h;rw [TQ h1,tN h2,tN h3])
theorem tN:∀ {xs ys:List AV},xA xs ys=true→xs=ys
 | [],[],_=>rfl
 | x::xs,y::ys,h=>by
   simp only [xA,Ot] at h
   rw [AV.sv h.1,tN h.2]
 | [],_::_,h=>by simp [xA] at h
 | _::_,[],h=>by simp [xA] at h
end
def JO:List (AV×AV)→List (AV×AV)→Bool
 | [],[]=>true
 | (a,b)::xs,(c,d)::ys=>a.beq c && b.beq d && JO xs ys
 | _,_=>false
theorem LD:∀ {xs ys:List (AV×AV)},JO xs ys=true→xs=ys
 | [],[],_=>rfl
 | (a,b)::xs,(c,d)::ys,h=>by
   simp only [JO,Ot] at h
   rw [AV.sv h.1.1,AV.sv h.1.2,LD h.2]
 | [],_::_,h=>by simp [JO] at h
 | _::_,[],h=>by simp [JO] at h
def aa.beq:aa→aa→Bool
 | .dead,.dead=>true
 | .cells a,.cells b=>xA a b
 | .map a,.map b=>JO a b
 | _,_=>false
theorem aa.sv {x y:aa} (h:x.beq y=true):x=y:=by
 unfold aa.beq at h
 split at h
 ·rfl
 ·rw [tN h]
 ·rw [LD h]
 ·cases h
def DR:List aa→List aa→Bool
 | [],[]=>true
 | x::xs,y::ys=>x.beq y && DR xs ys
 | _,_=>false
theorem BW:∀ {xs ys:List aa},DR xs ys=true→xs=ys
 | [],[],_=>rfl
 | x::xs,y::ys,h=>by
   simp only [DR,Ot] at h
   rw [aa.sv h.1,BW h.2]
 | [],_::_,h=>by simp [DR] at h
 | _::_,[],h=>by simp [DR] at h
abbrev iZ:=Bool→Nat→List AV→List aa→Option (AV×List aa)
def Ij (C:iZ) (g:Nat) (args:List AV) (H:List aa):Option (AV×List aa):=
 match aj 0 args with
 | true=>match C false g args [] with
   | some (r,[])=>some (r,H)
   | _=>C false g args H
 | false=>C false g args H
def eH (H:List aa) (dst:Option Nat) (env:Env) (z:Option AV):Option (Env×List aa):=match z with | some z=>some (put dst z env,H) | none=>none
def iI (C:iZ) (o:cv) (dst:Option Nat) (env:Env) (H:List aa):Option (Env×List aa):=
 match o with
 | .set x take=>match dst with | some d=>some (vJ env d x take,H) | none=>some (env,H)
 | .pick c a b=>match aq env c with
   | .bool true=>some (put dst (aq env a).ab env,H)
   | .bool false=>some (put dst (aq env b).ab env,H)
   | _=>none
 | .bin op x y=>eH H dst env (Ie op (aq env x) (aq env y))
 | .shift op x y=>eH H dst env (wi op (aq env x) (aq env y))
 | .jd neq x y=>eH H dst env (sj neq (aq env x) (aq env y))
 | .jZ kd neq x=>eH H dst env (wj kd neq (aq env x))
 | .un op x=>eH H dst env (Pf op (aq env x))
 | .box x=>if (aq env x).val=true∧aj (H.length + 1) ((aq env x).cells.map AV.ab)=true then some (put dst (.ptr H.length 0) env,H++[.cells ((aq env x).cells.map AV.ab)]) else none
 | .mR x=>if (aq env x).val=true then some (put dst (.ai (aq env x)) env,H) else none
 | .tn m x=>if (aq env x).val=true∧(aq env x).cells.length=m∧(aq env x).cells.all AV.one=true then some (put dst (.ai (aq env x)) env,H) else none
 | .alloc z=>if aj (H.length + 1) (z.cells.map AV.ab)=true then some (put dst (.ptr H.length 0) env,H++[.cells (z.cells.map AV.ab)]) else none
 | .build z ps=>eH H dst env ((tL z.cells (ps.map fun q=>(q.1,q.2.1,aq env q.2.2))).map .agg)
 | .buildSlice own esz z len ps=>eH H dst env ((ms (List.replicate len (a7 z)) esz (ps.map fun q=>(q.1,aq env q.2))).map (.al own))
 | .load sz a=>eH H dst env (qR sz (aq env a) H)
 | .eX a=>match dst,aq env a with
   | some d,.ptr id off=>match H[id]? with
     | some (.cells es)=>if off < es.length then some ((d,es.getD off .any)::env,H.set id (.cells (es.set off (es.getD off .any).ab))) else none
     | _=>none
   | _,_=>none
 | .store m a x=>match BS m (aq env a) (aq env x) H with | some H'=>some (env,H') | none=>none
 | .oz _ _ _=>none
 | .uH sz esz a=>match qR sz (aq env a) H with
   | some z=>match BV esz z H with
     | some (v,H')=>some (put dst v env,H')
     | none=>none
   | none=>none
 | .fR a s=>match tM (aq env a) (get env s) H with | some H'=>some ((s,(get env s).ab)::env,H') | none=>none
 | .nilCheck x=>eH H dst env (nu (aq env x))
 | .fieldAddr off sz x=>eH H dst env (lA off sz (aq env x))
 | .field off sz x=>eH H dst env (wm off sz (aq env x))
 | .indexAddr esz x i=>if xp esz (aq env x)=true then eH H dst env (lB esz (aq env x) (aq env i)) else none
 | .dw x i=>eH H dst env (ns (aq env x) (aq env i))
 | .eC n x i=>eH H dst env (nr n (aq env x) (aq env i))
 | .slice esz x lo hi m=>eH H dst env (sl esz (aq env x) (gQ env lo) (gQ env hi) (gQ env m))
 | .eD x lo hi=>eH H dst env (nw (aq env x) (gQ env lo) (gQ env hi))
 | .len kd x=>if BR kd (aq env x)=true then eH H dst env (Ig (aq env x) H) else none
 | .append esz bytes s x=>match xq esz bytes (aq env s) (aq env x) with | some zs=>some (put dst (.al esz zs) (cQ env s.slot),H) | none=>none
 | .uI esz bytes z n=>match BT bytes z (aq env n) H with | some (v,H')=>some (put dst v env,H') | none=>none
 | .oA esz bytes n=>eH H dst env (wo esz bytes (aq env n))
 | .oB=>some (put dst (.map H.length) env,H++[.map []])
 | .C6 ..=>none
 | .j4 ..=>none
 | .j5 ..=>none
 | .oC ..=>none
 | .qI ..=>none
 | .lookup kd z m k ok=>eH H dst env (sm kd z (aq env m) (aq env k) ok H)
 | .lJ kd m k x=>match xt kd (aq env m) (aq env k) (aq env x) H with | some H'=>some (env,H') | none=>none
 | .fn f first cap=>some (put dst (.fn f (first.map fun x=>(aq env x).ab) (cap.map fun x=>(aq env x).ab)) env,H)
 | .extract x i=>eH H dst env (pD (aq env x) i)
 | .call f args pass=>match aq env f with
   | .fn (.func g) first cap=>match Ij C g (first.map AV.ab++aN env pass 0 args++cap.map AV.ab) H with
     | some (r,H')=>some (put dst r (cQ env (bh args pass)),H')
     | none=>none
   | .ou id=>match C true id (aN env pass 0 args) H with
     | some (r,H')=>some (put dst r (cQ env (bh args pass)),H')
     | none=>none
   | _=>none
 | .fm k x=>eH H dst env (pE k (aq env x))
 | .iA x=>eH H dst env (pF (aq env x))
 | .bytesOf x=>eH H dst env (pG 1 (aq env x))
 | .strOf x=>eH H dst env (wu (aq env x))
 | .mx big a b=>eH H dst env (Pg big (aq env a) (aq env b))
 | .copy esz d s=>match Gk esz (aq env d) (aq env s) H with | some (v,H')=>some (put dst v env,H') | none=>none
 | .Bj esz x=>match qS esz (aq env x) H with | some (v,H')=>some (put dst v env,H') | none=>none
 | .never=>none
def lU (P:Program) (C:iZ):Prop:=(∀ g args H r H',C false g args H=some (r,H')→ax P g args H fun r' H''=>r'=r∧H''=H')∧
 ∀ id args H r H',C true id args H=some (r,H')→kI P id args H fun r' H''=>r'=r∧H''=H'
theorem Ik {P:Program} {C:iZ} (hC:lU P C) {g:Nat} {args:List AV} {H H':List aa} {r:AV} (h:Ij C g args H=some (r,H')):ax P g args H fun r' H''=>r'=r∧H''=H':=by
 unfold Ij at h
 split at h
 ·rename_i hb
  split at h
  ·rename_i hr
   cases h
   exact ax.frame (R:=fun r'=>r'=r) (fun x hx=>(a9 0 _).1 hb x hx) (hC.1 _ _ _ _ _ hr) H
  ·exact hC.1 _ _ _ _ _ h
 ·exact hC.1 _ _ _ _ _ h
theorem b8:∀ xs,z5 xs xs
 | []=>trivial
 | x::xs=>⟨le_refl _,b8 xs⟩
theorem bi {H H':List aa} {dst:Option Nat} {env aL:Env} {z:Option AV} (h:eH H dst env z=some (aL,H')):∃ v,z=some v∧aL=put dst v env∧H'=H:=by
 unfold eH at h
 split at h <;> cases h
 exact ⟨_,rfl,rfl,rfl⟩
theorem LF {P:Program} {C:iZ} (hC:lU P C) {o:cv} {dst:Option Nat} {env aL:Env} {H H':List aa} {K:Env→List aa→Prop} (h:iI C o dst env H=some (aL,H')) (hK:K aL H'):bC P o dst env H K:=by
 cases o with
 | set x take=>
   simp only [iI] at h
   simp only [bC]
   split at h <;> cases h <;> exact hK
 | pick c a b=>
   simp only [iI] at h
   simp only [bC]
   split at h <;> cases h
   ·rename_i e;rw [e];exact ⟨fun _=>hK,fun e=>by cases e⟩
   ·rename_i e;rw [e];exact ⟨fun e=>(by cases e),fun _=>hK⟩
 | bin op x y=>obtain ⟨v,hv,rfl,rfl⟩:=bi h;exact Ih (φ:=fun z=>K (put dst z env) _) hv hK
 | shift op x y=>obtain ⟨v,hv,rfl,rfl⟩:=bi h;exact Ac (φ:=fun z=>K (put dst z env) _) hv hK
 | jd op x y=>obtain ⟨v,hv,rfl,rfl⟩:=bi h;exact xu (φ:=fun z=>K (put dst z env) _) hv hK
 | jZ kd neq x=>obtain ⟨v,hv,rfl,rfl⟩:=bi h;exact Ad (φ:=fun z=>K (put dst z env) _) hv hK
 | un op x=>obtain ⟨v,hv,rfl,rfl⟩:=bi h;exact LA (φ:=fun z=>K (put dst z env) _) hv hK
 | box x=>
   simp only [iI] at h
   split at h <;> cases h
   rename_i hc
   exact ⟨hc.1,hc.2,hK⟩
 | mR x=>
   simp only [iI] at h
   split at h <;> cases h
   rename_i hc
   exact ⟨hc,hK⟩
 | tn m x=>
   simp only [iI] at h
   split at h <;> cases h
   rename_i hc
   exact ⟨hc.1,hc.2.1,hc.2.2,hK⟩
 | alloc z=>
   simp only [iI] at h
   split at h <;> cases h
   rename_i hc
   exact ⟨hc,hK⟩
 | build z ps=>
   obtain ⟨v,hv,rfl,rfl⟩:=bi h
   obtain ⟨u,hu,rfl⟩:=yR.1 hv
   exact xv (φ:=fun xs=>K (put dst (.agg xs) env) H') hK hu
 | buildSlice own esz z len ps=>
   obtain ⟨v,hv,rfl,rfl⟩:=bi h
   obtain ⟨u,hu,rfl⟩:=yR.1 hv
   exact qT (φ:=fun xs=>K (put dst (.al own xs) env) H') hK hu
 | load sz a=>obtain ⟨v,hv,rfl,rfl⟩:=bi h;exact oV (φ:=fun z=>K (put dst z env) _) hv hK
 | eX a=>
   simp only [iI] at h
   simp only [bC]
   split at h <;> try cases h
   rename_i e
   simp only [e]
   split at h <;> try cases h
   rename_i bn
   simp only [bn]
   split at h <;> cases h
   exact ⟨by assumption,hK⟩
 | store m a x=>
   simp only [iI] at h
   split at h <;> cases h
   rename_i hs
   exact JJ hs hK
 | fR a s=>
   simp only [iI] at h
   split at h <;> cases h
   rename_i hs
   exact DP hs hK
 | nilCheck x=>obtain ⟨v,hv,rfl,rfl⟩:=bi h;exact sq (φ:=fun z=>K (put dst z env) _) hv hK
 | fieldAddr off sz x=>obtain ⟨v,hv,rfl,rfl⟩:=bi h;exact qw (φ:=fun z=>K (put dst z env) _) hv hK
 | field off sz x=>obtain ⟨v,hv,rfl,rfl⟩:=bi h;exact Ae (φ:=fun z=>K (put dst z env) _) hv hK
 | indexAddr esz x i=>
   simp only [iI] at h
   split at h <;> try cases h
   rename_i hl
   obtain ⟨v,hv,rfl,rfl⟩:=bi h
   exact ⟨xw hl,qx (φ:=fun z=>K (put dst z env) _) hv hK⟩
 | dw x i=>obtain ⟨v,hv,rfl,rfl⟩:=bi h;exact sn (φ:=fun z=>K (put dst z env) _) hv hK
 | eC n x i=>obtain ⟨v,hv,rfl,rfl⟩:=bi h;exact so (φ:=fun z=>K (put dst z env) _) hv hK
 | slice esz x lo hi m=>obtain ⟨v,hv,rfl,rfl⟩:=bi h;exact xy (φ:=fun z=>K (put dst z env) _) hv hK
 | eD x lo hi=>obtain ⟨v,hv,rfl,rfl⟩:=bi h;exact sr (φ:=fun z=>K (put dst z env) _) hv hK
 | len kd x=>
   simp only [iI] at h
   split at h <;> try cases h
   rename_i hl
   obtain ⟨v,hv,rfl,rfl⟩:=bi h
   exact ⟨DO hl,Ii (φ:=fun z=>K (put dst z env) _) hv hK⟩
 | append esz bytes s x=>
   simp only [iI] at h
   split at h <;> cases h
   rename_i hs
   exact Gl (φ:=fun zs=>K (put dst (.al esz zs) (cQ env s.slot)) _) hs hK
 | uI esz bytes z n=>
   simp only [iI] at h
   split at h <;> cases h
   rename_i hs
   exact JK (esz:=esz) (K:=fun v H'=>K (put dst v env) H') hs hK
 | oA esz bytes n=>obtain ⟨v,hv,rfl,rfl⟩:=bi h;exact Af (φ:=fun z=>K (put dst z env) _) hv hK
 | oB=>simp only [iI] at h;cases h;exact hK
 | oz m a x=>simp only [iI] at h;cases h
 | uH sz esz a=>
   simp only [iI] at h
   split at h <;> try cases h
   rename_i z hz
   split at h <;> cases h
   rename_i v H2 hs
   exact oV (φ:=fun z=>fY esz z H fun y H'=>K (put dst y env) H') hz (JN (K:=fun v H'=>K (put dst v env) H') hs hK)
 | C6 esz z len ps=>simp only [iI] at h;cases h
 | j4 esz bytes z s x=>simp only [iI] at h;cases h
 | j5 esz bytes z s x=>simp only [iI] at h;cases h
 | oC esz z x=>simp only [iI] at h;cases h
 | qI esz x lo hi mx=>simp only [iI] at h;cases h
 | lookup kd z m k ok=>obtain ⟨v,hv,rfl,rfl⟩:=bi h;exact xz (φ:=fun z=>K (put dst z env) _) hv hK
 | lJ kd m k x=>
   simp only [iI] at h
   split at h <;> cases h
   rename_i hs
   exact Gm hs hK
 | fn f first cap=>simp only [iI] at h;cases h;exact hK
 | extract x i=>obtain ⟨v,hv,rfl,rfl⟩:=bi h;exact vi (φ:=fun z=>K (put dst z env) _) hv hK
 | call f args pass=>
   simp only [iI] at h
   simp only [bC,qo]
   split at h <;> try cases h
   ·rename_i g first cap e
    split at h <;> cases h
    rename_i r hr
    rw [e]
    refine ⟨_,b8 _,dO.of <| (Ik hC hr).mono ?_⟩
    rintro r' H'' ⟨rfl,rfl⟩
    exact hK
   ·rename_i id e
    split at h <;> cases h
    rename_i r hr
    rw [e]
    refine ⟨_,b8 _,fV.mono (hC.2 _ _ _ _ _ hr) ?_⟩
    rintro r' H'' ⟨rfl,rfl⟩
    exact hK
 | fm k x=>obtain ⟨v,hv,rfl,rfl⟩:=bi h;exact vj (φ:=fun z=>K (put dst z env) _) hv hK
 | iA x=>obtain ⟨v,hv,rfl,rfl⟩:=bi h;exact vk (φ:=fun z=>K (put dst z env) _) hv hK
 | bytesOf x=>obtain ⟨v,hv,rfl,rfl⟩:=bi h;exact vn (φ:=fun z=>K (put dst z env) _) hv hK
 | strOf x=>obtain ⟨v,hv,rfl,rfl⟩:=bi h;exact Ah (φ:=fun z=>K (put dst z env) _) hv hK
 | mx big a b=>obtain ⟨v,hv,rfl,rfl⟩:=bi h;exact LB (φ:=fun z=>K (put dst z env) _) hv hK
 | copy esz d s=>
   simp only [iI] at h
   split at h <;> cases h
   rename_i hs
   exact LC (K:=fun v H'=>K (put dst v env) H') hs hK
 | Bj esz x=>
   simp only [iI] at h
   split at h <;> cases h
   rename_i hs
   exact xx (K:=fun v H'=>K (put dst v env) H') hs hK
 | never=>cases h
def nU (C:iZ) (o:cv) (ρ:IX→AV) (H:List aa):Option AV:=
 match o with
 | .set i false=>some (ρ i).ab
 | .pick c a b=>match ρ c with | .bool true=>some (ρ a).ab | .bool false=>some (ρ b).ab | _=>none
 | .bin op i j=>Ie op (ρ i) (ρ j)
 | .shift op i j=>wi op (ρ i) (ρ j)
 | .jd neq i j=>sj neq (ρ i) (ρ j)
 | .jZ kd neq i=>wj kd neq (ρ i)
 | .un op i=>Pf op (ρ i)
 | .mR i=>if (ρ i).val=true then some (.ai (ρ i)) else none
 | .build z ps=>(tL z.cells (ps.map fun q=>(q.1,q.2.1,ρ q.2.2))).map .agg
 | .buildSlice own esz z len ps=>(ms (List.replicate len (a7 z)) esz (ps.map fun q=>(q.1,ρ q.2))).map (.al own)
 | .load sz i=>qR sz (ρ i) H
 | .nilCheck i=>nu (ρ i)
 | .fieldAddr off sz i=>lA off sz (ρ i)
 | .field off sz i=>wm off sz (ρ i)
 | .indexAddr esz i j=>if xp esz (ρ i)=true then lB esz (ρ i) (ρ j) else none
 | .dw i j=>ns (ρ i) (ρ j)
 | .eC n i j=>nr n (ρ i) (ρ j)
 | .slice esz i lo hi m=>sl esz (ρ i) (lo.map ρ) (hi.map ρ) (m.map ρ)
 | .eD i lo hi=>nw (ρ i) (lo.map ρ) (hi.map ρ)
 | .len kd i=>if BR kd (ρ i)=true then Ig (ρ i) H else none
 | .lookup kd z m k ok=>sm kd z (ρ m) (ρ k) ok H
 | .fn f first cap=>some (.fn f (first.map fun x=>(ρ x).ab) (cap.map fun x=>(ρ x).ab))
 | .extract i k=>pD (ρ i) k
 | .call f args none=>match ρ f with
   | .fn (.func g) first cap=>match Ij C g (first.map AV.ab++(args.map fun x=>(ρ x).ab)++cap.map AV.ab) H with
     | some (r,H')=>if DR H' H=true then some r else none
     | none=>none
   | _=>none
 | .fm k i=>pE k (ρ i)
 | .iA i=>pF (ρ i)
 | .bytesOf i=>pG 1 (ρ i)
 | .oA esz bytes i=>wo esz bytes (ρ i)
 | .strOf i=>wu (ρ i)
 | .mx big i j=>Pg big (ρ i) (ρ j)
 | _=>none
theorem wv {P:Program} {C:iZ} (hC:lU P C) {o:cv} {ρ:IX→AV} {H:List aa} {v:AV} (h:nU C o ρ H=some v):dm P o ρ H v:=by
 cases o with
 | set i take=>
   cases take with
   | true=>cases h
   | false=>simp only [nU] at h;cases h;rfl
 | pick c a b=>
   simp only [nU] at h
   simp only [dm]
   split at h <;> cases h
   ·rename_i e;rw [e];exact ⟨fun _=>rfl,fun e=>by cases e⟩
   ·rename_i e;rw [e];exact ⟨fun e=>(by cases e),fun _=>rfl⟩
 | bin op x y=>exact Ih (φ:=fun z=>z=v) h rfl
 | shift op x y=>exact Ac (φ:=fun z=>z=v) h rfl
 | jd op x y=>exact xu (φ:=fun z=>z=v) h rfl
 | jZ kd neq x=>exact Ad (φ:=fun z=>z=v) h rfl
 | un op x=>exact LA (φ:=fun z=>z=v) h rfl
 | mR x=>
   simp only [nU] at h
   split at h <;> cases h
   rename_i hc
   exact ⟨hc,rfl⟩
 | build z ps=>
   obtain ⟨u,hu,rfl⟩:=yR.1 h
   exact xv (φ:=fun xs=>AV.agg xs=.agg u) rfl hu
 | buildSlice own esz z len ps=>
   obtain ⟨u,hu,rfl⟩:=yR.1 h
   exact qT (φ:=fun xs=>AV.al own xs=.al own u) rfl hu
 | load sz a=>exact oV (φ:=fun z=>z=v) h rfl
 | nilCheck x=>exact sq (φ:=fun z=>z=v) h rfl
 | fieldAddr off sz x=>exact qw (φ:=fun z=>z=v) h rfl
 | field off sz x=>exact Ae (φ:=fun z=>z=v) h rfl
 | indexAddr esz x i=>
   simp only [nU] at h
   split at h <;> try cases h
   rename_i hl
   exact ⟨xw hl,qx (φ:=fun z=>z=v) h rfl⟩
 | dw x i=>exact sn (φ:=fun z=>z=v) h rfl
 | eC n x i=>exact so (φ:=fun z=>z=v) h rfl
 | slice esz x lo hi m=>exact xy (φ:=fun z=>z=v) h rfl
 | oA esz bytes n=>exact Af (φ:=fun z=>z=v) h rfl
 | eD x lo hi=>exact sr (φ:=fun z=>z=v) h rfl
 | len kd x=>
   simp only [nU] at h
   split at h <;> try cases h
   rename_i hl
   exact ⟨DO hl,Ii (φ:=fun z=>z=v) h rfl⟩
 | lookup kd z m k ok=>exact xz (φ:=fun z=>z=v) h rfl
 | fn f first cap=>simp only [nU] at h;cases h;rfl
 | extract x i=>exact vi (φ:=fun z=>z=v) h rfl
 | call f args pass=>
   cases pass with
   | some _=>cases h
   | none=>
     simp only [nU] at h
     simp only [dm]
     split at h <;> try cases h
     rename_i g first cap e
     split at h <;> try cases h
     rename_i r H' hr
     split at h <;> cases h
     rename_i hb
     rw [e]
     refine ⟨_,b8 _,(Ik hC hr).mono ?_⟩
     rintro r' H'' ⟨rfl,rfl⟩
     exact ⟨rfl,BW hb⟩
 | fm k x=>exact vj (φ:=fun z=>z=v) h rfl
 | iA x=>exact vk (φ:=fun z=>z=v) h rfl
 | bytesOf x=>exact vn (φ:=fun z=>z=v) h rfl
 | strOf x=>exact Ah (φ:=fun z=>z=v) h rfl
 | mx big a b=>exact LB (φ:=fun z=>z=v) h rfl
 | _=>cases h
def BX (C:iZ):List bJ→Env→List aa→Option (Env×List aa)
 | [],env,H=>some (env,H)
 | o::r,env,H=>match o.g with
   | none=>match iI C o.op o.dst env H with
     | some (env,H)=>BX C r env H
     | none=>none
   | some (g,want)=>match get env g with
     | .bool b=>if b=want then (match iI C o.op o.dst ((g,.bool want)::env) H with
        | some (env,H)=>BX C r env H
        | none=>none) else BX C r (put o.dst (.tuple []) ((g,.bool (!want))::env)) H
     | .tuple []=>BX C r (put o.dst (.tuple []) env) H
     | _=>none
theorem tO {P:Program} {C:iZ} (hC:lU P C):∀ {l:List bJ} {env aL:Env} {H H':List aa} {K:Env→List aa→Prop},BX C l env H=some (aL,H')→K aL H'→kg P l env H K
 | [],env,aL,H,H',K,h,hK=>by simp only [BX] at h;cases h;exact hK
 | o::r,env,aL,H,H',K,h,hK=>by
   simp only [BX] at h
   simp only [kg,tD]
   cases hg:o.g with
   | none=>
     simp only [hg] at h ⊢
     split at h <;> try cases h
     rename_i e2 H2 h2
     exact LF (K:=fun env H=>kg P r env H K) hC h2 (tO hC h hK)
   | some p=>
     obtain ⟨g,want⟩:=p
     simp only [hg] at h ⊢
     simp only [jg]
     split at h
     rotate_left
     ·rename_i hb
      simp only [hb]
      exact tO hC h hK
     ·cases h
     rename_i b hb
     simp only [hb]
     split at h
     ·rename_i H6
      subst H6
      split at h <;> try cases h
      rename_i e2 H2 h2
      exact ⟨fun _=>LF (K:=fun env H=>kg P r env H K) hC h2 (tO hC h hK),fun e=>by cases b <;> cases e⟩
     ·rename_i H6
      exact ⟨fun e=>absurd e H6,fun _=>tO hC h hK⟩
def dvE (C:iZ) (st:Bool) (o:cv) (ρ:IX→AV) (H:List aa):Option AV:=
 match st with
 | true=>nU C o ρ H
 | false=>match o with
   | .load sz i=>(match ρ i with | .ai y=>qR sz (.ai y) [] | _=>none)
   | .call f args none=>(match ρ f with
     | .fn (.func g) first cap=>if aj 0 (first.map AV.ab++(args.map fun x=>(ρ x).ab)++cap.map AV.ab)=true then (match C false g (first.map AV.ab++(args.map fun x=>(ρ x).ab)++cap.map AV.ab) [] with
       | some (r,[])=>some r
       | _=>none) else none
     | _=>none)
   | .call _ _ _=>none
   | .len kd i=>(match ρ i with | .map _=>none | _=>nU C o ρ [])
   | .lookup kd z m k ok=>(match ρ m with | .jN=>nU C o ρ [] | _=>none)
   | o=>nU C o ρ []
theorem LG {x:AV} {H H':List aa} {φ:AV→Prop} (h:fg x H φ) (hm:∀ id,x≠.map id):fg x H' φ:=by
 unfold fg at *
 split at h <;> first | exact h | exact h.elim | exact absurd rfl (hm _)
theorem Sa {P:Program} {C:iZ} (hC:lU P C) {st:Bool} {o:cv} {ρ:IX→AV} {H:List aa} {v:AV} (h:dvE C st o ρ H=some v):dv P st o ρ H v:=by
 cases st with
 | true=>exact wv hC h
 | false=>
   intro H'
   simp only [dvE] at h
   split at h
   ·split at h <;> try cases h
    rename_i sz i y hy
    simp only [dm]
    rw [hy]
    have:=oV (φ:=fun z=>z=v) h rfl
    unfold aV at this ⊢
    exact this
   ·rename_i f args
    split at h <;> try cases h
    rename_i g first cap hf
    split at h <;> try cases h
    rename_i hb
    split at h <;> cases h
    rename_i hr
    simp only [dm,hf]
    exact ⟨_,b8 _,ax.frame (R:=fun r=>r=v) (fun x hx=>(a9 0 _).1 hb x hx) (hC.1 _ _ _ _ _ hr) H'⟩
   ·cases h
   ·rename_i kd i
    split at h
    ·cases h
    ·rename_i dJ
     have:=wv hC h
     simp only [dm] at this ⊢
     exact ⟨this.1,LG this.2 dJ⟩
   ·rename_i kd z m k ok
    split at h <;> try cases h
    rename_i hm
    have:=wv hC h
    simp only [dm,hm,cF] at this ⊢
    exact this
   ·rename_i _ h1 h0 h2 h3 h4
    have:=wv hC h
    cases o <;> first | exact this | exact (h1 _ _ rfl).elim | exact (h2 _ _ _ rfl).elim | exact (h3 _ _ rfl).elim | exact (h4 _ _ _ _ _ rfl).elim | (rename_i take;cases take <;> exact this)
def JP:Env→Env→Bool
 | [],[]=>true
 | (a,x)::r,(b,y)::s=>a == b && x.beq y && JP r s
 | _,_=>false
theorem LH:∀ {xs ys:Env},JP xs ys=true→xs=ys
 | [],[],_=>rfl
 | (a,x)::r,(b,y)::s,h=>by
   simp only [JP,Ot,beq_iff_eq] at h
   rw [h.1.1,AV.sv h.1.2,LH h.2]
 | [],_::_,h=>by simp [JP] at h
 | _::_,[],h=>by simp [JP] at h
def Ph (C:iZ) (o:bJ) (env:Env) (H:List aa):Option (Env×List aa):=BX C [o] env H
theorem LI {P:Program} {C:iZ} (hC:lU P C) {o:bJ} {env aL:Env} {H H':List aa} {K:Env→List aa→Prop} (h:Ph C o env H=some (aL,H')) (hK:K aL H'):tD P o env H K:=tO hC h hK
def LJ (C:iZ) (st:Bool) (o:bJ) (env:Env) (H:List aa):Option Env:=
 match o.g with
 | none=>match dvE C st o.op (aq env) H with
   | some x=>some (put o.dst x env)
   | none=>none
 | some (g,want)=>match get env g with
   | .bool b=>if b=want then (match dvE C st o.op (aq env) H with
      | some x=>some (put o.dst x env)
      | none=>none) else some (put o.dst (.tuple []) env)
   | .tuple []=>some (put o.dst (.tuple []) env)
   | _=>none
theorem Pj {P:Program} {C:iZ} (hC:lU P C) {st:Bool} {o:bJ} {env aL:Env} {H:List aa} {K:Env→Prop} (h:LJ C st o env H=some aL) (hK:K aL):uT P st o env H K:=by
 unfold LJ at h
 unfold uT
 cases hg:o.g with
 | none=>
   simp only [hg] at h ⊢
   split at h <;> cases h
   rename_i x hx
   exact ⟨x,Sa hC hx,hK⟩
 | some p=>
   obtain ⟨g,want⟩:=p
   simp only [hg] at h ⊢
   simp only [jg]
   split at h
   rotate_left
   ·rename_i hb
    simp only [hb]
    cases h
    exact hK
   ·cases h
   rename_i b hb
   simp only [hb]
   split at h
   ·rename_i H6
    subst H6
    split at h <;> cases h
    rename_i x hx
    exact ⟨fun _=>⟨x,Sa hC hx,hK⟩,fun e=>by cases b <;> cases e⟩
   ·rename_i H6
    cases h
    exact ⟨fun e=>absurd e H6,fun _=>hK⟩
abbrev zr:=List (Env×List aa)
def Pk (x:Env×List aa):zr→Bool
 | []=>false
 | y::r=>match JP x.1 y.1 && DR x.2 y.2 with | true=>true | false=>Pk x r
def qU (l:zr):zr→zr
 | []=>l
 | x::r=>match Pk x l with | true=>qU l r | false=>x::qU l r
theorem LK {x:Env×List aa}:∀ {l:zr},Pk x l=true→x∈l
 | [],h=>by cases h
 | y::r,h=>by
   unfold Pk at h
   split at h
   ·rename_i e
    simp only [Ot] at e
    have e1:=LH e.1
    have e2:=BW e.2
    have:x=y:=by cases x;cases y;simp only at e1 e2;rw [e1,e2]
    rw [this];exact aaW
   ·exact aaF _ (LK h)
theorem DS {l:zr}:∀ {m:zr},(∀ x∈l,x∈qU l m)∧∀ x∈m,x∈qU l m
 | []=>⟨fun x h=>h,fun x h=>by cases h⟩
 | y::r=>by
   obtain ⟨h1,h2⟩:=DS (l:=l) (m:=r)
   unfold qU
   split
   ·rename_i e
    refine ⟨h1,fun x hx=>?_⟩
    rcases aai.1 hx with rfl | hx
    ·exact h1 _ (LK e)
    ·exact h2 x hx
   ·refine ⟨fun x hx=>aaF _ (h1 x hx),fun x hx=>?_⟩
    rcases aai.1 hx with rfl | hx
    ·exact aaW
    ·exact aaF _ (h2 x hx)
def FC (C:iZ) (live:Option (List Nat)):DT→Env→List aa→Option zr
 | .done,env,H=>some [(eZ live env,H)]
 | .take st o r,env,H=>match LJ C st o env H with
   | some aL=>FC C live r aL H
   | none=>none
 | .br o t .nil,env,H=>match Ph C o env H with
   | some (aL,H')=>FC C live t aL H'
   | none=>none
 | .br o t rest,env,H=>match Ph C o env H with
   | some (aL,H')=>match FC C live t aL H',FC C live rest env H with
     | some l1,some l2=>some (qU l1 l2)
     | _,_=>none
   | none=>none
 | .nil,_,_=>none
theorem XG {P:Program} {C:iZ} (hC:lU P C) {live:Option (List Nat)}:∀ {t:DT} {env:Env} {H:List aa} {l:zr} {K:Env→List aa→Prop},FC C live t env H=some l→(∀ o∈l,K o.1 o.2)→wg P t env H fun e H=>K (eZ live e) H:=by
 intro t
 induction t with
 | done=>intro env H l K h hK;simp only [FC] at h;cases h;exact hK _ aaW
 | nil=>intro env H l K h hK;simp [FC] at h
 | take st o r ih=>
   intro env H l K h hK
   simp only [FC] at h
   split at h <;> try cases h
   rename_i e2 he
   exact Pj (K:=fun env=>wg P r env H fun e H=>K (eZ live e) H) hC he (ih h hK)
 | br o t rest Lt KO=>
   intro env H l K h hK
   have key:∀ rest',(∀ {env:Env} {H:List aa} {l:zr} {K:Env→List aa→Prop},FC C live rest' env H=some l→(∀ o∈l,K o.1 o.2)→wg P rest' env H fun e H=>K (eZ live e) H)→rest'=rest→
    ((match Ph C o env H with
    | some (aL,H')=>match FC C live t aL H',FC C live rest' env H with
      | some l1,some l2=>some (qU l1 l2)
      | _,_=>none
    | none=>none)=some l)→wg P (.br o t rest') env H fun e H=>K (eZ live e) H:=by
    intro rest' ihr' _ h
    split at h <;> try cases h
    rename_i e2 H2 h2
    split at h <;> try cases h
    rename_i l1 l2 h3 h4
    obtain ⟨u1,u2⟩:=DS (l:=l1) (m:=l2)
    exact ⟨LI (K:=fun env H=>wg P t env H fun e H=>K (eZ live e) H) hC h2 (Lt h3 fun o ho=>hK o (u1 o ho)),ihr' h4 fun o ho=>hK o (u2 o ho)⟩
   cases rest with
   | nil=>
     simp only [FC] at h
     split at h <;> try cases h
     rename_i e2 H2 h2
     exact ⟨LI (K:=fun env H=>wg P t env H fun e H=>K (eZ live e) H) hC h2 (Lt h hK),trivial⟩
   | done=>exact key _ (fun h hK=>KO h hK) rfl (by simpa only [FC] using h)
   | take st o' r=>exact key _ (fun h hK=>KO h hK) rfl (by simpa only [FC] using h)
   | br o' t' r=>exact key _ (fun h hK=>KO h hK) rfl (by simpa only [FC] using h)
end Go.aK
