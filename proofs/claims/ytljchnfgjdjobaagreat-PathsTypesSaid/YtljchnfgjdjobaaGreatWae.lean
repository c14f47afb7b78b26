/- A memory-free reading of the model's values (part 20): code that is run. -/
import Derived.Test.YtljchnfgjdjobaaGreatWad
set_option linter.unusedVariables false
set_option linter.unusedSimpArgs false
set_option linter.defProp false
set_option linter.unusedSectionVars false
namespace Go.aI
open Go
def Un:Fn→Fn→Bool
 | .func a,.func b=>a == b
 | _,_=>false
mutual
def AV.beq:AV→AV→Bool
 | .any,.any=>true
 | .bool a,.bool b=>a == b
 | .int k a,.int l b=>decide (k=l) && decide (a=b)
 | .str a,.str b=>decide (a=b)
 | .ag,.ag=>true
 | .aj o xs,.aj p ys=>decide (o=p) && xG xs ys
 | .a7 a b c d,.a7 e f g h=>decide (a=e) && decide (b=f) && decide (c=g) && decide (d=h)
 | .agg xs,.agg ys=>xG xs ys
 | .tuple xs,.tuple ys=>xG xs ys
 | .ptr a b,.ptr c d=>decide (a=c) && decide (b=d)
 | .ai x,.ai y=>x.beq y
 | .tA,.tA=>true
 | .map a,.map b=>decide (a=b)
 | .jR,.jR=>true
 | .fn f xs ys,.fn g us vs=>Un f g && xG xs us && xG ys vs
 | .gv,.gv=>true
 | .iface t x,.iface u y=>decide (t=u) && x.beq y
 | .yW,.yW=>true
 | _,_=>false
def xG:List AV→List AV→Bool
 | [],[]=>true
 | x::xs,y::ys=>x.beq y && xG xs ys
 | _,_=>false
end
theorem Uo {f g:Fn} (h:Un f g=true):f=g:=by
 unfold Un at h
 split at h
 ·simp at h;rw [h]
 ·cases h
mutual
theorem AV.sB:∀ {x y:AV},x.beq y=true→x=y:=by
 intro x y h
 cases x <;> cases y <;> simp only [AV.beq,zU,decide_eq_true_eq,acg,beq_iff_eq] at h <;> first
  | rfl
  | (subst h;rfl)
  | (obtain ⟨rfl,rfl⟩:=h;rfl)
  | (obtain ⟨⟨⟨rfl,rfl⟩,rfl⟩,rfl⟩:=h;rfl)
  | (rw [tW h])
  | (rw [AV.sB h])
  | (obtain ⟨rfl,h⟩:=h;rw [tW h])
  | (obtain ⟨rfl,h⟩:=h;rw [AV.sB h])
  | (obtain ⟨⟨h1,h2⟩,h3⟩:=h;rw [Uo h1,tW h2,tW h3])
theorem tW:∀ {xs ys:List AV},xG xs ys=true→xs=ys
 | [],[],_=>rfl
 | x::xs,y::ys,h=>by
   simp only [xG,zU] at h
   rw [AV.sB h.1,tW h.2]
 | [],_::_,h=>by simp [xG] at h
 | _::_,[],h=>by simp [xG] at h
end
def JZ:List (AV×AV)→List (AV×AV)→Bool
 | [],[]=>true
 | (a,b)::xs,(c,d)::ys=>a.beq c && b.beq d && JZ xs ys
 | _,_=>false
theorem LW:∀ {xs ys:List (AV×AV)},JZ xs ys=true→xs=ys
 | [],[],_=>rfl
 | (a,b)::xs,(c,d)::ys,h=>by
   simp only [JZ,zU] at h
   rw [AV.sB h.1.1,AV.sB h.1.2,LW h.2]
 | [],_::_,h=>by simp [JZ] at h
 | _::_,[],h=>by simp [JZ] at h
def aa.beq:aa→aa→Bool
 | .dead,.dead=>true
 | .cells a,.cells b=>xG a b
 | .map a,.map b=>JZ a b
 | _,_=>false
theorem aa.sB {x y:aa} (h:x.beq y=true):x=y:=by
 unfold aa.beq at h
 split at h
 ·rfl
 ·rw [tW h]
 ·rw [LW h]
 ·cases h
def D0:List aa→List aa→Bool
 | [],[]=>true
 | x::xs,y::ys=>x.beq y && D0 xs ys
 | _,_=>false
theorem BW:∀ {xs ys:List aa},D0 xs ys=true→xs=ys
 | [],[],_=>rfl
 | x::xs,y::ys,h=>by
   simp only [D0,zU] at h
   rw [aa.sB h.1,BW h.2]
 | [],_::_,h=>by simp [D0] at h
 | _::_,[],h=>by simp [D0] at h
abbrev jg:=Bool→Nat→List AV→List aa→Option (AV×List aa)
def Ir (C:jg) (g:Nat) (args:List AV) (H:List aa):Option (AV×List aa):=
 match al 0 args with
 | true=>match C false g args [] with
   | some (r,[])=>some (r,H)
   | _=>C false g args H
 | false=>C false g args H
def eG (H:List aa) (dst:Option Nat) (env:Env) (z:Option AV):Option (Env×List aa):=match z with | some z=>some (put dst z env,H) | none=>none
def iQ (C:jg) (o:ch) (dst:Option Nat) (env:Env) (H:List aa):Option (Env×List aa):=
 match o with
 | .set x take=>match dst with | some d=>some (vO env d x take,H) | none=>some (env,H)
 | .pick c a b=>match au env c with
   | .bool true=>some (put dst (au env a).ab env,H)
   | .bool false=>some (put dst (au env b).ab env,H)
   | _=>none
 | .bin op x y=>eG H dst env (Im op (au env x) (au env y))
 | .shift op x y=>eG H dst env (wx op (au env x) (au env y))
 | .jl neq x y=>eG H dst env (sn neq (au env x) (au env y))
 | .kg kd neq x=>eG H dst env (wy kd neq (au env x))
 | .un op x=>eG H dst env (PG op (au env x))
 | .box x=>if (au env x).val=true∧al (H.length + 1) ((au env x).cells.map AV.ab)=true then some (put dst (.ptr H.length 0) env,H++[.cells ((au env x).cells.map AV.ab)]) else none
 | .m8 x=>if (au env x).val=true then some (put dst (.ai (au env x)) env,H) else none
 | .tC m x=>if (au env x).val=true∧(au env x).cells.length=m∧(au env x).cells.all AV.one=true then some (put dst (.ai (au env x)) env,H) else none
 | .alloc z=>if al (H.length + 1) (z.cells.map AV.ab)=true then some (put dst (.ptr H.length 0) env,H++[.cells (z.cells.map AV.ab)]) else none
 | .build z ps=>eG H dst env ((tU z.cells (ps.map fun q=>(q.1,q.2.1,au env q.2.2))).map .agg)
 | .buildSlice own esz z len ps=>eG H dst env ((mB (List.replicate len (aU z)) esz (ps.map fun q=>(q.1,au env q.2))).map (.aj own))
 | .load sz a=>eG H dst env (qZ sz (au env a) H)
 | .eY a=>match dst,au env a with
   | some d,.ptr id off=>match H[id]? with
     | some (.cells es)=>if off < es.length then some ((d,es.getD off .any)::env,H.set id (.cells (es.set off (es.getD off .any).ab))) else none
     | _=>none
   | _,_=>none
 | .store m a x=>match BS m (au env a) (au env x) H with | some H'=>some (env,H') | none=>none
 | .oM _ _ _=>none
 | .uO sz esz a=>match qZ sz (au env a) H with
   | some z=>match BV esz z H with
     | some (v,H')=>some (put dst v env,H')
     | none=>none
   | none=>none
 | .fR a s=>match tV (au env a) (get env s) H with | some H'=>some ((s,(get env s).ab)::env,H') | none=>none
 | .nilCheck x=>eG H dst env (nE (au env x))
 | .fieldAddr off sz x=>eG H dst env (lC off sz (au env x))
 | .field off sz x=>eG H dst env (wz off sz (au env x))
 | .indexAddr esz x i=>if xw esz (au env x)=true then eG H dst env (lD esz (au env x) (au env i)) else none
 | .dm x i=>eG H dst env (nD (au env x) (au env i))
 | .eC n x i=>eG H dst env (nC n (au env x) (au env i))
 | .slice esz x lo hi m=>eG H dst env (sr esz (au env x) (gU env lo) (gU env hi) (gU env m))
 | .eD x lo hi=>eG H dst env (nG (au env x) (gU env lo) (gU env hi))
 | .len kd x=>if BR kd (au env x)=true then eG H dst env (Io (au env x) H) else none
 | .append esz bytes s x=>match xx esz bytes (au env s) (au env x) with | some zs=>some (put dst (.aj esz zs) (cL env s.slot),H) | none=>none
 | .uP esz bytes z n=>match BT bytes z (au env n) H with | some (v,H')=>some (put dst v env,H') | none=>none
 | .oN esz bytes n=>eG H dst env (wA esz bytes (au env n))
 | .oO=>some (put dst (.map H.length) env,H++[.map []])
 | .Dg ..=>none
 | .kj ..=>none
 | .km ..=>none
 | .oP ..=>none
 | .qP ..=>none
 | .lookup kd z m k ok=>eG H dst env (sv kd z (au env m) (au env k) ok H)
 | .lO kd m k x=>match xz kd (au env m) (au env k) (au env x) H with | some H'=>some (env,H') | none=>none
 | .fn f first cap=>some (put dst (.fn f (first.map fun x=>(au env x).ab) (cap.map fun x=>(au env x).ab)) env,H)
 | .extract x i=>eG H dst env (pO (au env x) i)
 | .call f args pass=>match au env f with
   | .fn (.func g) first cap=>match Ir C g (first.map AV.ab++aL env pass 0 args++cap.map AV.ab) H with
     | some (r,H')=>some (put dst r (cL env (bh args pass)),H')
     | none=>none
   | .oJ id=>match C true id (aL env pass 0 args) H with
     | some (r,H')=>some (put dst r (cL env (bh args pass)),H')
     | none=>none
   | _=>none
 | .fp k x=>eG H dst env (pP k (au env x))
 | .iI x=>eG H dst env (pQ (au env x))
 | .bytesOf x=>eG H dst env (pR 1 (au env x))
 | .strOf x=>eG H dst env (wB (au env x))
 | .mx big a b=>eG H dst env (PH big (au env a) (au env b))
 | .copy esz d s=>match GA esz (au env d) (au env s) H with | some (v,H')=>some (put dst v env,H') | none=>none
 | .Bi esz x=>match ra esz (au env x) H with | some (v,H')=>some (put dst v env,H') | none=>none
 | .never=>none
def lZ (P:Program) (C:jg):Prop:=(∀ g args H r H',C false g args H=some (r,H')→ax P g args H fun r' H''=>r'=r∧H''=H')∧
 ∀ id args H r H',C true id args H=some (r,H')→kP P id args H fun r' H''=>r'=r∧H''=H'
theorem Is {P:Program} {C:jg} (hC:lZ P C) {g:Nat} {args:List AV} {H H':List aa} {r:AV} (h:Ir C g args H=some (r,H')):ax P g args H fun r' H''=>r'=r∧H''=H':=by
 unfold Ir at h
 split at h
 ·rename_i hb
  split at h
  ·rename_i hr
   cases h
   exact ax.frame (R:=fun r'=>r'=r) (fun x hx=>(a9 0 _).1 hb x hx) (hC.1 _ _ _ _ _ hr) H
  ·exact hC.1 _ _ _ _ _ h
 ·exact hC.1 _ _ _ _ _ h
theorem bZ:∀ xs,ze xs xs
 | []=>trivial
 | x::xs=>⟨le_refl _,bZ xs⟩
theorem bi {H H':List aa} {dst:Option Nat} {env aK:Env} {z:Option AV} (h:eG H dst env z=some (aK,H')):∃ v,z=some v∧aK=put dst v env∧H'=H:=by
 unfold eG at h
 split at h <;> cases h
 exact ⟨_,rfl,rfl,rfl⟩
theorem LX {P:Program} {C:jg} (hC:lZ P C) {o:ch} {dst:Option Nat} {env aK:Env} {H H':List aa} {K:Env→List aa→Prop} (h:iQ C o dst env H=some (aK,H')) (hK:K aK H'):bD P o dst env H K:=by
 cases o with
 | set x take=>
   simp only [iQ] at h
   simp only [bD]
   split at h <;> cases h <;> exact hK
 | pick c a b=>
   simp only [iQ] at h
   simp only [bD]
   split at h <;> cases h
   ·rename_i e;rw [e];exact ⟨fun _=>hK,fun e=>by cases e⟩
   ·rename_i e;rw [e];exact ⟨fun e=>(by cases e),fun _=>hK⟩
 | bin op x y=>obtain ⟨v,hv,rfl,rfl⟩:=bi h;exact Ip (φ:=fun z=>K (put dst z env) _) hv hK
 | shift op x y=>obtain ⟨v,hv,rfl,rfl⟩:=bi h;exact Af (φ:=fun z=>K (put dst z env) _) hv hK
 | jl op x y=>obtain ⟨v,hv,rfl,rfl⟩:=bi h;exact xA (φ:=fun z=>K (put dst z env) _) hv hK
 | kg kd neq x=>obtain ⟨v,hv,rfl,rfl⟩:=bi h;exact Ag (φ:=fun z=>K (put dst z env) _) hv hK
 | un op x=>obtain ⟨v,hv,rfl,rfl⟩:=bi h;exact LS (φ:=fun z=>K (put dst z env) _) hv hK
 | box x=>
   simp only [iQ] at h
   split at h <;> cases h
   rename_i hc
   exact ⟨hc.1,hc.2,hK⟩
 | m8 x=>
   simp only [iQ] at h
   split at h <;> cases h
   rename_i hc
   exact ⟨hc,hK⟩
 | tC m x=>
   simp only [iQ] at h
   split at h <;> cases h
   rename_i hc
   exact ⟨hc.1,hc.2.1,hc.2.2,hK⟩
 | alloc z=>
   simp only [iQ] at h
   split at h <;> cases h
   rename_i hc
   exact ⟨hc,hK⟩
 | build z ps=>
   obtain ⟨v,hv,rfl,rfl⟩:=bi h
   obtain ⟨u,hu,rfl⟩:=zW.1 hv
   exact xB (φ:=fun xs=>K (put dst (.agg xs) env) H') hK hu
 | buildSlice own esz z len ps=>
   obtain ⟨v,hv,rfl,rfl⟩:=bi h
   obtain ⟨u,hu,rfl⟩:=zW.1 hv
   exact rb (φ:=fun xs=>K (put dst (.aj own xs) env) H') hK hu
 | load sz a=>obtain ⟨v,hv,rfl,rfl⟩:=bi h;exact pf (φ:=fun z=>K (put dst z env) _) hv hK
 | eY a=>
   simp only [iQ] at h
   simp only [bD]
   split at h <;> try cases h
   rename_i e
   simp only [e]
   split at h <;> try cases h
   rename_i bn
   simp only [bn]
   split at h <;> cases h
   exact ⟨by assumption,hK⟩
 | store m a x=>
   simp only [iQ] at h
   split at h <;> cases h
   rename_i hs
   exact JU hs hK
 | fR a s=>
   simp only [iQ] at h
   split at h <;> cases h
   rename_i hs
   exact DY hs hK
 | nilCheck x=>obtain ⟨v,hv,rfl,rfl⟩:=bi h;exact sy (φ:=fun z=>K (put dst z env) _) hv hK
 | fieldAddr off sz x=>obtain ⟨v,hv,rfl,rfl⟩:=bi h;exact qF (φ:=fun z=>K (put dst z env) _) hv hK
 | field off sz x=>obtain ⟨v,hv,rfl,rfl⟩:=bi h;exact Ah (φ:=fun z=>K (put dst z env) _) hv hK
 | indexAddr esz x i=>
   simp only [iQ] at h
   split at h <;> try cases h
   rename_i hl
   obtain ⟨v,hv,rfl,rfl⟩:=bi h
   exact ⟨xC hl,qG (φ:=fun z=>K (put dst z env) _) hv hK⟩
 | dm x i=>obtain ⟨v,hv,rfl,rfl⟩:=bi h;exact sw (φ:=fun z=>K (put dst z env) _) hv hK
 | eC n x i=>obtain ⟨v,hv,rfl,rfl⟩:=bi h;exact sx (φ:=fun z=>K (put dst z env) _) hv hK
 | slice esz x lo hi m=>obtain ⟨v,hv,rfl,rfl⟩:=bi h;exact xE (φ:=fun z=>K (put dst z env) _) hv hK
 | eD x lo hi=>obtain ⟨v,hv,rfl,rfl⟩:=bi h;exact sA (φ:=fun z=>K (put dst z env) _) hv hK
 | len kd x=>
   simp only [iQ] at h
   split at h <;> try cases h
   rename_i hl
   obtain ⟨v,hv,rfl,rfl⟩:=bi h
   exact ⟨DX hl,Iq (φ:=fun z=>K (put dst z env) _) hv hK⟩
 | append esz bytes s x=>
   simp only [iQ] at h
   split at h <;> cases h
   rename_i hs
   exact GB (φ:=fun zs=>K (put dst (.aj esz zs) (cL env s.slot)) _) hs hK
 | uP esz bytes z n=>
   simp only [iQ] at h
   split at h <;> cases h
   rename_i hs
   exact JV (esz:=esz) (K:=fun v H'=>K (put dst v env) H') hs hK
 | oN esz bytes n=>obtain ⟨v,hv,rfl,rfl⟩:=bi h;exact Ai (φ:=fun z=>K (put dst z env) _) hv hK
 | oO=>simp only [iQ] at h;cases h;exact hK
 | oM m a x=>simp only [iQ] at h;cases h
 | uO sz esz a=>
   simp only [iQ] at h
   split at h <;> try cases h
   rename_i z hz
   split at h <;> cases h
   rename_i v H2 hs
   exact pf (φ:=fun z=>gf esz z H fun y H'=>K (put dst y env) H') hz (JY (K:=fun v H'=>K (put dst v env) H') hs hK)
 | Dg esz z len ps=>simp only [iQ] at h;cases h
 | kj esz bytes z s x=>simp only [iQ] at h;cases h
 | km esz bytes z s x=>simp only [iQ] at h;cases h
 | oP esz z x=>simp only [iQ] at h;cases h
 | qP esz x lo hi mx=>simp only [iQ] at h;cases h
 | lookup kd z m k ok=>obtain ⟨v,hv,rfl,rfl⟩:=bi h;exact xF (φ:=fun z=>K (put dst z env) _) hv hK
 | lO kd m k x=>
   simp only [iQ] at h
   split at h <;> cases h
   rename_i hs
   exact GC hs hK
 | fn f first cap=>simp only [iQ] at h;cases h;exact hK
 | extract x i=>obtain ⟨v,hv,rfl,rfl⟩:=bi h;exact vv (φ:=fun z=>K (put dst z env) _) hv hK
 | call f args pass=>
   simp only [iQ] at h
   simp only [bD,qz]
   split at h <;> try cases h
   ·rename_i g first cap e
    split at h <;> cases h
    rename_i r hr
    rw [e]
    refine ⟨_,bZ _,dG.of <| (Is hC hr).mono ?_⟩
    rintro r' H'' ⟨rfl,rfl⟩
    exact hK
   ·rename_i id e
    split at h <;> cases h
    rename_i r hr
    rw [e]
    refine ⟨_,bZ _,fW.mono (hC.2 _ _ _ _ _ hr) ?_⟩
    rintro r' H'' ⟨rfl,rfl⟩
    exact hK
 | fp k x=>obtain ⟨v,hv,rfl,rfl⟩:=bi h;exact vw (φ:=fun z=>K (put dst z env) _) hv hK
 | iI x=>obtain ⟨v,hv,rfl,rfl⟩:=bi h;exact vx (φ:=fun z=>K (put dst z env) _) hv hK
 | bytesOf x=>obtain ⟨v,hv,rfl,rfl⟩:=bi h;exact vz (φ:=fun z=>K (put dst z env) _) hv hK
 | strOf x=>obtain ⟨v,hv,rfl,rfl⟩:=bi h;exact Ak (φ:=fun z=>K (put dst z env) _) hv hK
 | mx big a b=>obtain ⟨v,hv,rfl,rfl⟩:=bi h;exact LU (φ:=fun z=>K (put dst z env) _) hv hK
 | copy esz d s=>
   simp only [iQ] at h
   split at h <;> cases h
   rename_i hs
   exact LV (K:=fun v H'=>K (put dst v env) H') hs hK
 | Bi esz x=>
   simp only [iQ] at h
   split at h <;> cases h
   rename_i hs
   exact xD (K:=fun v H'=>K (put dst v env) H') hs hK
 | never=>cases h
def oh (C:jg) (o:ch) (ρ:IX→AV) (H:List aa):Option AV:=
 match o with
 | .set i false=>some (ρ i).ab
 | .pick c a b=>match ρ c with | .bool true=>some (ρ a).ab | .bool false=>some (ρ b).ab | _=>none
 | .bin op i j=>Im op (ρ i) (ρ j)
 | .shift op i j=>wx op (ρ i) (ρ j)
 | .jl neq i j=>sn neq (ρ i) (ρ j)
 | .kg kd neq i=>wy kd neq (ρ i)
 | .un op i=>PG op (ρ i)
 | .m8 i=>if (ρ i).val=true then some (.ai (ρ i)) else none
 | .build z ps=>(tU z.cells (ps.map fun q=>(q.1,q.2.1,ρ q.2.2))).map .agg
 | .buildSlice own esz z len ps=>(mB (List.replicate len (aU z)) esz (ps.map fun q=>(q.1,ρ q.2))).map (.aj own)
 | .load sz i=>qZ sz (ρ i) H
 | .nilCheck i=>nE (ρ i)
 | .fieldAddr off sz i=>lC off sz (ρ i)
 | .field off sz i=>wz off sz (ρ i)
 | .indexAddr esz i j=>if xw esz (ρ i)=true then lD esz (ρ i) (ρ j) else none
 | .dm i j=>nD (ρ i) (ρ j)
 | .eC n i j=>nC n (ρ i) (ρ j)
 | .slice esz i lo hi m=>sr esz (ρ i) (lo.map ρ) (hi.map ρ) (m.map ρ)
 | .eD i lo hi=>nG (ρ i) (lo.map ρ) (hi.map ρ)
 | .len kd i=>if BR kd (ρ i)=true then Io (ρ i) H else none
 | .lookup kd z m k ok=>sv kd z (ρ m) (ρ k) ok H
 | .fn f first cap=>some (.fn f (first.map fun x=>(ρ x).ab) (cap.map fun x=>(ρ x).ab))
 | .extract i k=>pO (ρ i) k
 | .call f args none=>match ρ f with
   | .fn (.func g) first cap=>match Ir C g (first.map AV.ab++(args.map fun x=>(ρ x).ab)++cap.map AV.ab) H with
     | some (r,H')=>if D0 H' H=true then some r else none
     | none=>none
   | _=>none
 | .fp k i=>pP k (ρ i)
 | .iI i=>pQ (ρ i)
 | .bytesOf i=>pR 1 (ρ i)
 | .oN esz bytes i=>wA esz bytes (ρ i)
 | .strOf i=>wB (ρ i)
 | .mx big i j=>PH big (ρ i) (ρ j)
 | _=>none
theorem wC {P:Program} {C:jg} (hC:lZ P C) {o:ch} {ρ:IX→AV} {H:List aa} {v:AV} (h:oh C o ρ H=some v):di P o ρ H v:=by
 cases o with
 | set i take=>
   cases take with
   | true=>cases h
   | false=>simp only [oh] at h;cases h;rfl
 | pick c a b=>
   simp only [oh] at h
   simp only [di]
   split at h <;> cases h
   ·rename_i e;rw [e];exact ⟨fun _=>rfl,fun e=>by cases e⟩
   ·rename_i e;rw [e];exact ⟨fun e=>(by cases e),fun _=>rfl⟩
 | bin op x y=>exact Ip (φ:=fun z=>z=v) h rfl
 | shift op x y=>exact Af (φ:=fun z=>z=v) h rfl
 | jl op x y=>exact xA (φ:=fun z=>z=v) h rfl
 | kg kd neq x=>exact Ag (φ:=fun z=>z=v) h rfl
 | un op x=>exact LS (φ:=fun z=>z=v) h rfl
 | m8 x=>
   simp only [oh] at h
   split at h <;> cases h
   rename_i hc
   exact ⟨hc,rfl⟩
 | build z ps=>
   obtain ⟨u,hu,rfl⟩:=zW.1 h
   exact xB (φ:=fun xs=>AV.agg xs=.agg u) rfl hu
 | buildSlice own esz z len ps=>
   obtain ⟨u,hu,rfl⟩:=zW.1 h
   exact rb (φ:=fun xs=>AV.aj own xs=.aj own u) rfl hu
 | load sz a=>exact pf (φ:=fun z=>z=v) h rfl
 | nilCheck x=>exact sy (φ:=fun z=>z=v) h rfl
 | fieldAddr off sz x=>exact qF (φ:=fun z=>z=v) h rfl
 | field off sz x=>exact Ah (φ:=fun z=>z=v) h rfl
 | indexAddr esz x i=>
   simp only [oh] at h
   split at h <;> try cases h
   rename_i hl
   exact ⟨xC hl,qG (φ:=fun z=>z=v) h rfl⟩
 | dm x i=>exact sw (φ:=fun z=>z=v) h rfl
 | eC n x i=>exact sx (φ:=fun z=>z=v) h rfl
 | slice esz x lo hi m=>exact xE (φ:=fun z=>z=v) h rfl
 | oN esz bytes n=>exact Ai (φ:=fun z=>z=v) h rfl
 | eD x lo hi=>exact sA (φ:=fun z=>z=v) h rfl
 | len kd x=>
   simp only [oh] at h
   split at h <;> try cases h
   rename_i hl
   exact ⟨DX hl,Iq (φ:=fun z=>z=v) h rfl⟩
 | lookup kd z m k ok=>exact xF (φ:=fun z=>z=v) h rfl
 | fn f first cap=>simp only [oh] at h;cases h;rfl
 | extract x i=>exact vv (φ:=fun z=>z=v) h rfl
 | call f args pass=>
   cases pass with
   | some _=>cases h
   | none=>
     simp only [oh] at h
     simp only [di]
     split at h <;> try cases h
     rename_i g first cap e
     split at h <;> try cases h
     rename_i r H' hr
     split at h <;> cases h
     rename_i hb
     rw [e]
     refine ⟨_,bZ _,(Is hC hr).mono ?_⟩
     rintro r' H'' ⟨rfl,rfl⟩
     exact ⟨rfl,BW hb⟩
 | fp k x=>exact vw (φ:=fun z=>z=v) h rfl
 | iI x=>exact vx (φ:=fun z=>z=v) h rfl
 | bytesOf x=>exact vz (φ:=fun z=>z=v) h rfl
 | strOf x=>exact Ak (φ:=fun z=>z=v) h rfl
 | mx big a b=>exact LU (φ:=fun z=>z=v) h rfl
 | _=>cases h
def BX (C:jg):List bH→Env→List aa→Option (Env×List aa)
 | [],env,H=>some (env,H)
 | o::r,env,H=>match o.g with
   | none=>match iQ C o.op o.dst env H with
     | some (env,H)=>BX C r env H
     | none=>none
   | some (g,want)=>match get env g with
     | .bool b=>if b=want then (match iQ C o.op o.dst ((g,.bool want)::env) H with
        | some (env,H)=>BX C r env H
        | none=>none) else BX C r (put o.dst (.tuple []) ((g,.bool (!want))::env)) H
     | .tuple []=>BX C r (put o.dst (.tuple []) env) H
     | _=>none
theorem tX {P:Program} {C:jg} (hC:lZ P C):∀ {l:List bH} {env aK:Env} {H H':List aa} {K:Env→List aa→Prop},BX C l env H=some (aK,H')→K aK H'→ku P l env H K
 | [],env,aK,H,H',K,h,hK=>by simp only [BX] at h;cases h;exact hK
 | o::r,env,aK,H,H',K,h,hK=>by
   simp only [BX] at h
   simp only [ku,tM]
   cases hg:o.g with
   | none=>
     simp only [hg] at h ⊢
     split at h <;> try cases h
     rename_i e2 H2 h2
     exact LX (K:=fun env H=>ku P r env H K) hC h2 (tX hC h hK)
   | some p=>
     obtain ⟨g,want⟩:=p
     simp only [hg] at h ⊢
     simp only [jo]
     split at h
     rotate_left
     ·rename_i hb
      simp only [hb]
      exact tX hC h hK
     ·cases h
     rename_i b hb
     simp only [hb]
     split at h
     ·rename_i Ig
      subst Ig
      split at h <;> try cases h
      rename_i e2 H2 h2
      exact ⟨fun _=>LX (K:=fun env H=>ku P r env H K) hC h2 (tX hC h hK),fun e=>by cases b <;> cases e⟩
     ·rename_i Ig
      exact ⟨fun e=>absurd e Ig,fun _=>tX hC h hK⟩
def dvE (C:jg) (st:Bool) (o:ch) (ρ:IX→AV) (H:List aa):Option AV:=
 match st with
 | true=>oh C o ρ H
 | false=>match o with
   | .load sz i=>(match ρ i with | .ai y=>qZ sz (.ai y) [] | _=>none)
   | .call f args none=>(match ρ f with
     | .fn (.func g) first cap=>if al 0 (first.map AV.ab++(args.map fun x=>(ρ x).ab)++cap.map AV.ab)=true then (match C false g (first.map AV.ab++(args.map fun x=>(ρ x).ab)++cap.map AV.ab) [] with
       | some (r,[])=>some r
       | _=>none) else none
     | _=>none)
   | .call _ _ _=>none
   | .len kd i=>(match ρ i with | .map _=>none | _=>oh C o ρ [])
   | .lookup kd z m k ok=>(match ρ m with | .jR=>oh C o ρ [] | _=>none)
   | o=>oh C o ρ []
theorem LY {x:AV} {H H':List aa} {φ:AV→Prop} (h:fj x H φ) (hm:∀ id,x≠.map id):fj x H' φ:=by
 unfold fj at *
 split at h <;> first | exact h | exact h.elim | exact absurd rfl (hm _)
theorem SO {P:Program} {C:jg} (hC:lZ P C) {st:Bool} {o:ch} {ρ:IX→AV} {H:List aa} {v:AV} (h:dvE C st o ρ H=some v):dv P st o ρ H v:=by
 cases st with
 | true=>exact wC hC h
 | false=>
   intro H'
   simp only [dvE] at h
   split at h
   ·split at h <;> try cases h
    rename_i sz i y hy
    simp only [di]
    rw [hy]
    have:=pf (φ:=fun z=>z=v) h rfl
    unfold aY at this ⊢
    exact this
   ·rename_i f args
    split at h <;> try cases h
    rename_i g first cap hf
    split at h <;> try cases h
    rename_i hb
    split at h <;> cases h
    rename_i hr
    simp only [di,hf]
    exact ⟨_,bZ _,ax.frame (R:=fun r=>r=v) (fun x hx=>(a9 0 _).1 hb x hx) (hC.1 _ _ _ _ _ hr) H'⟩
   ·cases h
   ·rename_i kd i
    split at h
    ·cases h
    ·rename_i dP
     have:=wC hC h
     simp only [di] at this ⊢
     exact ⟨this.1,LY this.2 dP⟩
   ·rename_i kd z m k ok
    split at h <;> try cases h
    rename_i hm
    have:=wC hC h
    simp only [di,hm,cB] at this ⊢
    exact this
   ·rename_i _ h1 h0 h2 h3 h4
    have:=wC hC h
    cases o <;> first | exact this | exact (h1 _ _ rfl).elim | exact (h2 _ _ _ rfl).elim | exact (h3 _ _ rfl).elim | exact (h4 _ _ _ _ _ rfl).elim | (rename_i take;cases take <;> exact this)
def J0:Env→Env→Bool
 | [],[]=>true
 | (a,x)::r,(b,y)::s=>a == b && x.beq y && J0 r s
 | _,_=>false
theorem LZ:∀ {xs ys:Env},J0 xs ys=true→xs=ys
 | [],[],_=>rfl
 | (a,x)::r,(b,y)::s,h=>by
   simp only [J0,zU,beq_iff_eq] at h
   rw [h.1.1,AV.sB h.1.2,LZ h.2]
 | [],_::_,h=>by simp [J0] at h
 | _::_,[],h=>by simp [J0] at h
def PI (C:jg) (o:bH) (env:Env) (H:List aa):Option (Env×List aa):=BX C [o] env H
theorem L3 {P:Program} {C:jg} (hC:lZ P C) {o:bH} {env aK:Env} {H H':List aa} {K:Env→List aa→Prop} (h:PI C o env H=some (aK,H')) (hK:K aK H'):tM P o env H K:=tX hC h hK
def L4 (C:jg) (st:Bool) (o:bH) (env:Env) (H:List aa):Option Env:=
 match o.g with
 | none=>match dvE C st o.op (au env) H with
   | some x=>some (put o.dst x env)
   | none=>none
 | some (g,want)=>match get env g with
   | .bool b=>if b=want then (match dvE C st o.op (au env) H with
      | some x=>some (put o.dst x env)
      | none=>none) else some (put o.dst (.tuple []) env)
   | .tuple []=>some (put o.dst (.tuple []) env)
   | _=>none
theorem PJ {P:Program} {C:jg} (hC:lZ P C) {st:Bool} {o:bH} {env aK:Env} {H:List aa} {K:Env→Prop} (h:L4 C st o env H=some aK) (hK:K aK):u0 P st o env H K:=by
 unfold L4 at h
 unfold u0
 cases hg:o.g with
 | none=>
   simp only [hg] at h ⊢
   split at h <;> cases h
   rename_i x hx
   exact ⟨x,SO hC hx,hK⟩
 | some p=>
   obtain ⟨g,want⟩:=p
   simp only [hg] at h ⊢
   simp only [jo]
   split at h
   rotate_left
   ·rename_i hb
    simp only [hb]
    cases h
    exact hK
   ·cases h
   rename_i b hb
   simp only [hb]
   split at h
   ·rename_i Ig
    subst Ig
    split at h <;> cases h
    rename_i x hx
    exact ⟨fun _=>⟨x,SO hC hx,hK⟩,fun e=>by cases b <;> cases e⟩
   ·rename_i Ig
    cases h
    exact ⟨fun e=>absurd e Ig,fun _=>hK⟩
abbrev zq:=List (Env×List aa)
def PK (x:Env×List aa):zq→Bool
 | []=>false
 | y::r=>match J0 x.1 y.1 && D0 x.2 y.2 with | true=>true | false=>PK x r
def rc (l:zq):zq→zq
 | []=>l
 | x::r=>match PK x l with | true=>rc l r | false=>x::rc l r
theorem L5 {x:Env×List aa}:∀ {l:zq},PK x l=true→x∈l
 | [],h=>by cases h
 | y::r,h=>by
   unfold PK at h
   split at h
   ·rename_i e
    simp only [zU] at e
    have e1:=LZ e.1
    have e2:=BW e.2
    have:x=y:=by cases x;cases y;simp only at e1 e2;rw [e1,e2]
    rw [this];exact aa2
   ·exact aaK _ (L5 h)
theorem D1 {l:zq}:∀ {m:zq},(∀ x∈l,x∈rc l m)∧∀ x∈m,x∈rc l m
 | []=>⟨fun x h=>h,fun x h=>by cases h⟩
 | y::r=>by
   obtain ⟨h1,h2⟩:=D1 (l:=l) (m:=r)
   unfold rc
   split
   ·rename_i e
    refine ⟨h1,fun x hx=>?_⟩
    rcases Xi.1 hx with rfl | hx
    ·exact h1 _ (L5 e)
    ·exact h2 x hx
   ·refine ⟨fun x hx=>aaK _ (h1 x hx),fun x hx=>?_⟩
    rcases Xi.1 hx with rfl | hx
    ·exact aa2
    ·exact aaK _ (h2 x hx)
def FP (C:jg) (live:Option (List Nat)):DT→Env→List aa→Option zq
 | .done,env,H=>some [(fa live env,H)]
 | .take st o r,env,H=>match L4 C st o env H with
   | some aK=>FP C live r aK H
   | none=>none
 | .br o t .nil,env,H=>match PI C o env H with
   | some (aK,H')=>FP C live t aK H'
   | none=>none
 | .br o t rest,env,H=>match PI C o env H with
   | some (aK,H')=>match FP C live t aK H',FP C live rest env H with
     | some l1,some l2=>some (rc l1 l2)
     | _,_=>none
   | none=>none
 | .nil,_,_=>none
theorem Yd {P:Program} {C:jg} (hC:lZ P C) {live:Option (List Nat)}:∀ {t:DT} {env:Env} {H:List aa} {l:zq} {K:Env→List aa→Prop},FP C live t env H=some l→(∀ o∈l,K o.1 o.2)→wu P t env H fun e H=>K (fa live e) H:=by
 intro t
 induction t with
 | done=>intro env H l K h hK;simp only [FP] at h;cases h;exact hK _ aa2
 | nil=>intro env H l K h hK;simp [FP] at h
 | take st o r ih=>
   intro env H l K h hK
   simp only [FP] at h
   split at h <;> try cases h
   rename_i e2 he
   exact PJ (K:=fun env=>wu P r env H fun e H=>K (fa live e) H) hC he (ih h hK)
 | br o t rest LM Ie=>
   intro env H l K h hK
   have key:∀ rest',(∀ {env:Env} {H:List aa} {l:zq} {K:Env→List aa→Prop},FP C live rest' env H=some l→(∀ o∈l,K o.1 o.2)→wu P rest' env H fun e H=>K (fa live e) H)→rest'=rest→
    ((match PI C o env H with
    | some (aK,H')=>match FP C live t aK H',FP C live rest' env H with
      | some l1,some l2=>some (rc l1 l2)
      | _,_=>none
    | none=>none)=some l)→wu P (.br o t rest') env H fun e H=>K (fa live e) H:=by
    intro rest' ihr' _ h
    split at h <;> try cases h
    rename_i e2 H2 h2
    split at h <;> try cases h
    rename_i l1 l2 h3 h4
    obtain ⟨u1,u2⟩:=D1 (l:=l1) (m:=l2)
    exact ⟨L3 (K:=fun env H=>wu P t env H fun e H=>K (fa live e) H) hC h2 (LM h3 fun o ho=>hK o (u1 o ho)),ihr' h4 fun o ho=>hK o (u2 o ho)⟩
   cases rest with
   | nil=>
     simp only [FP] at h
     split at h <;> try cases h
     rename_i e2 H2 h2
     exact ⟨L3 (K:=fun env H=>wu P t env H fun e H=>K (fa live e) H) hC h2 (LM h hK),trivial⟩
   | done=>exact key _ (fun h hK=>Ie h hK) rfl (by simpa only [FP] using h)
   | take st o' r=>exact key _ (fun h hK=>Ie h hK) rfl (by simpa only [FP] using h)
   | br o' t' r=>exact key _ (fun h hK=>Ie h hK) rfl (by simpa only [FP] using h)
end Go.aI
