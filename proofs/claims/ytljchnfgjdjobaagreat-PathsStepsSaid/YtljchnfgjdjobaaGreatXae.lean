/- A memory-free reading of the model's values (part 20): code that is run. -/
import Derived.Test.YtljchnfgjdjobaaGreatXad
set_option linter.unusedVariables false
set_option linter.unusedSimpArgs false
set_option linter.defProp false
set_option linter.unusedSectionVars false
namespace Go.aK
open Go
def UD:Fn→Fn→Bool
 | .func a,.func b=>a == b
 | _,_=>false
mutual
def AV.beq:AV→AV→Bool
 | .any,.any=>true
 | .bool a,.bool b=>a == b
 | .int k a,.int l b=>decide (k=l) && decide (a=b)
 | .str a,.str b=>decide (a=b)
 | .ag,.ag=>true
 | .ak o xs,.ak p ys=>decide (o=p) && xu xs ys
 | .ba a b c d,.ba e f g h=>decide (a=e) && decide (b=f) && decide (c=g) && decide (d=h)
 | .agg xs,.agg ys=>xu xs ys
 | .tuple xs,.tuple ys=>xu xs ys
 | .ptr a b,.ptr c d=>decide (a=c) && decide (b=d)
 | .ah x,.ah y=>x.beq y
 | .s5,.s5=>true
 | .map a,.map b=>decide (a=b)
 | .jE,.jE=>true
 | .fn f xs ys,.fn g us vs=>UD f g && xu xs us && xu ys vs
 | .gn,.gn=>true
 | .iface t x,.iface u y=>decide (t=u) && x.beq y
 | .yK,.yK=>true
 | _,_=>false
def xu:List AV→List AV→Bool
 | [],[]=>true
 | x::xs,y::ys=>x.beq y && xu xs ys
 | _,_=>false
end
theorem UE {f g:Fn} (h:UD f g=true):f=g:=by
 unfold UD at h
 split at h
 ·simp at h;rw [h]
 ·cases h
mutual
theorem AV.rZ:∀ {x y:AV},x.beq y=true→x=y:=by
 intro x y h
 cases x <;> cases y <;> simp only [AV.beq,zB,decide_eq_true_eq,acv,beq_iff_eq] at h <;> first
  | rfl
  | (subst h;rfl)
  | (obtain ⟨rfl,rfl⟩:=h;rfl)
  | (obtain ⟨⟨⟨rfl,rfl⟩,rfl⟩,rfl⟩:=h;rfl)
  | (rw [tF h])
  | (rw [AV.rZ h])
  | (obtain ⟨rfl,h⟩:=h;rw [tF h])
  | (obtain ⟨rfl,h⟩:=h;rw [AV.rZ h])
  | (obtain ⟨⟨h1,h2⟩,h3⟩:=h;rw [UE h1,tF h2,tF h3])
theorem tF:∀ {xs ys:List AV},xu xs ys=true→xs=ys
 | [],[],_=>rfl
 | x::xs,y::ys,h=>by
   simp only [xu,zB] at h
   rw [AV.rZ h.1,tF h.2]
 | [],_::_,h=>by simp [xu] at h
 | _::_,[],h=>by simp [xu] at h
end
def JR:List (AV×AV)→List (AV×AV)→Bool
 | [],[]=>true
 | (a,b)::xs,(c,d)::ys=>a.beq c && b.beq d && JR xs ys
 | _,_=>false
theorem LV:∀ {xs ys:List (AV×AV)},JR xs ys=true→xs=ys
 | [],[],_=>rfl
 | (a,b)::xs,(c,d)::ys,h=>by
   simp only [JR,zB] at h
   rw [AV.rZ h.1.1,AV.rZ h.1.2,LV h.2]
 | [],_::_,h=>by simp [JR] at h
 | _::_,[],h=>by simp [JR] at h
def aa.beq:aa→aa→Bool
 | .dead,.dead=>true
 | .cells a,.cells b=>xu a b
 | .map a,.map b=>JR a b
 | _,_=>false
theorem aa.rZ {x y:aa} (h:x.beq y=true):x=y:=by
 unfold aa.beq at h
 split at h
 ·rfl
 ·rw [tF h]
 ·rw [LV h]
 ·cases h
def DU:List aa→List aa→Bool
 | [],[]=>true
 | x::xs,y::ys=>x.beq y && DU xs ys
 | _,_=>false
theorem BR:∀ {xs ys:List aa},DU xs ys=true→xs=ys
 | [],[],_=>rfl
 | x::xs,y::ys,h=>by
   simp only [DU,zB] at h
   rw [aa.rZ h.1,BR h.2]
 | [],_::_,h=>by simp [DU] at h
 | _::_,[],h=>by simp [DU] at h
abbrev iS:=Bool→Nat→List AV→List aa→Option (AV×List aa)
def Io (C:iS) (g:Nat) (args:List AV) (H:List aa):Option (AV×List aa):=
 match aj 0 args with
 | true=>match C false g args [] with
   | some (r,[])=>some (r,H)
   | _=>C false g args H
 | false=>C false g args H
def eD (H:List aa) (dst:Option Nat) (env:Env) (z:Option AV):Option (Env×List aa):=match z with | some z=>some (put dst z env,H) | none=>none
def iM (C:iS) (o:cq) (dst:Option Nat) (env:Env) (H:List aa):Option (Env×List aa):=
 match o with
 | .set x take=>match dst with | some d=>some (vx env d x take,H) | none=>some (env,H)
 | .pick c a b=>match ap env c with
   | .bool true=>some (put dst (ap env a).ab env,H)
   | .bool false=>some (put dst (ap env b).ab env,H)
   | _=>none
 | .bin op x y=>eD H dst env (Ij op (ap env x) (ap env y))
 | .shift op x y=>eD H dst env (vU op (ap env x) (ap env y))
 | .iX neq x y=>eD H dst env (rR neq (ap env x) (ap env y))
 | .jW kd neq x=>eD H dst env (vV kd neq (ap env x))
 | .un op x=>eD H dst env (PO op (ap env x))
 | .box x=>if (ap env x).val=true∧aj (H.length + 1) ((ap env x).cells.map AV.ab)=true then some (put dst (.ptr H.length 0) env,H++[.cells ((ap env x).cells.map AV.ab)]) else none
 | .mR x=>if (ap env x).val=true then some (put dst (.ah (ap env x)) env,H) else none
 | .s7 m x=>if (ap env x).val=true∧(ap env x).cells.length=m∧(ap env x).cells.all AV.one=true then some (put dst (.ah (ap env x)) env,H) else none
 | .alloc z=>if aj (H.length + 1) (z.cells.map AV.ab)=true then some (put dst (.ptr H.length 0) env,H++[.cells (z.cells.map AV.ab)]) else none
 | .build z ps=>eD H dst env ((tD z.cells (ps.map fun q=>(q.1,q.2.1,ap env q.2.2))).map .agg)
 | .buildSlice own esz z len ps=>eD H dst env ((mn (List.replicate len (aR z)) esz (ps.map fun q=>(q.1,ap env q.2))).map (.ak own))
 | .load sz a=>eD H dst env (qL sz (ap env a) H)
 | .eU a=>match dst,ap env a with
   | some d,.ptr id off=>match H[id]? with
     | some (.cells es)=>if off < es.length then some ((d,es.getD off .any)::env,H.set id (.cells (es.set off (es.getD off .any).ab))) else none
     | _=>none
   | _,_=>none
 | .store m a x=>match BN m (ap env a) (ap env x) H with | some H'=>some (env,H') | none=>none
 | .oE _ _ _=>none
 | .uw sz esz a=>match qL sz (ap env a) H with
   | some z=>match BQ esz z H with
     | some (v,H')=>some (put dst v env,H')
     | none=>none
   | none=>none
 | .fS a s=>match tE (ap env a) (get env s) H with | some H'=>some ((s,(get env s).ab)::env,H') | none=>none
 | .nilCheck x=>eD H dst env (nr (ap env x))
 | .fieldAddr off sz x=>eD H dst env (lj off sz (ap env x))
 | .field off sz x=>eD H dst env (vW off sz (ap env x))
 | .indexAddr esz x i=>if xj esz (ap env x)=true then eD H dst env (lm esz (ap env x) (ap env i)) else none
 | .dn x i=>eD H dst env (nl (ap env x) (ap env i))
 | .eh n x i=>eD H dst env (nk n (ap env x) (ap env i))
 | .slice esz x lo hi m=>eD H dst env (rT esz (ap env x) (iz env lo) (iz env hi) (iz env m))
 | .ej x lo hi=>eD H dst env (nt (ap env x) (iz env lo) (iz env hi))
 | .len kd x=>if BM kd (ap env x)=true then eD H dst env (Ik (ap env x) H) else none
 | .append esz bytes s x=>match xk esz bytes (ap env s) (ap env x) with | some zs=>some (put dst (.ak esz zs) (cW env s.slot),H) | none=>none
 | .ux esz bytes z n=>match BO bytes z (ap env n) H with | some (v,H')=>some (put dst v env,H') | none=>none
 | .oF esz bytes n=>eD H dst env (vX esz bytes (ap env n))
 | .oG=>some (put dst (.map H.length) env,H++[.map []])
 | .Dc ..=>none
 | .jZ ..=>none
 | .oH ..=>none
 | .qB ..=>none
 | .lookup kd z m k ok=>eD H dst env (rU kd z (ap env m) (ap env k) ok H)
 | .lG kd m k x=>match xm kd (ap env m) (ap env k) (ap env x) H with | some H'=>some (env,H') | none=>none
 | .fn f first cap=>some (put dst (.fn f (first.map fun x=>(ap env x).ab) (cap.map fun x=>(ap env x).ab)) env,H)
 | .extract x i=>eD H dst env (pF (ap env x) i)
 | .call f args pass=>match ap env f with
   | .fn (.func g) first cap=>match Io C g (first.map AV.ab++aL env pass 0 args++cap.map AV.ab) H with
     | some (r,H')=>some (put dst r (cW env (bj args pass)),H')
     | none=>none
   | .oC id=>match C true id (aL env pass 0 args) H with
     | some (r,H')=>some (put dst r (cW env (bj args pass)),H')
     | none=>none
   | _=>none
 | .fq k x=>eD H dst env (pG k (ap env x))
 | .iq x=>eD H dst env (pH (ap env x))
 | .bytesOf x=>eD H dst env (pI 1 (ap env x))
 | .strOf x=>eD H dst env (vY (ap env x))
 | .mx big a b=>eD H dst env (PR big (ap env a) (ap env b))
 | .copy esz d s=>match Gz esz (ap env d) (ap env s) H with | some (v,H')=>some (put dst v env,H') | none=>none
 | .Bf esz x=>match qM esz (ap env x) H with | some (v,H')=>some (put dst v env,H') | none=>none
 | .never=>none
def lR (P:Program) (C:iS):Prop:=(∀ g args H r H',C false g args H=some (r,H')→aw P g args H fun r' H''=>r'=r∧H''=H')∧
 ∀ id args H r H',C true id args H=some (r,H')→kE P id args H fun r' H''=>r'=r∧H''=H'
theorem Ip {P:Program} {C:iS} (hC:lR P C) {g:Nat} {args:List AV} {H H':List aa} {r:AV} (h:Io C g args H=some (r,H')):aw P g args H fun r' H''=>r'=r∧H''=H':=by
 unfold Io at h
 split at h
 ·rename_i hb
  split at h
  ·rename_i hr
   cases h
   exact aw.frame (R:=fun r'=>r'=r) (fun x hx=>(bc 0 _).1 hb x hx) (hC.1 _ _ _ _ _ hr) H
  ·exact hC.1 _ _ _ _ _ h
 ·exact hC.1 _ _ _ _ _ h
theorem cp:∀ xs,yX xs xs
 | []=>trivial
 | x::xs=>⟨le_refl _,cp xs⟩
theorem bh {H H':List aa} {dst:Option Nat} {env aI:Env} {z:Option AV} (h:eD H dst env z=some (aI,H')):∃ v,z=some v∧aI=put dst v env∧H'=H:=by
 unfold eD at h
 split at h <;> cases h
 exact ⟨_,rfl,rfl,rfl⟩
theorem LW {P:Program} {C:iS} (hC:lR P C) {o:cq} {dst:Option Nat} {env aI:Env} {H H':List aa} {K:Env→List aa→Prop} (h:iM C o dst env H=some (aI,H')) (hK:K aI H'):bC P o dst env H K:=by
 cases o with
 | set x take=>
   simp only [iM] at h
   simp only [bC]
   split at h <;> cases h <;> exact hK
 | pick c a b=>
   simp only [iM] at h
   simp only [bC]
   split at h <;> cases h
   ·rename_i e;rw [e];exact ⟨fun _=>hK,fun e=>by cases e⟩
   ·rename_i e;rw [e];exact ⟨fun e=>(by cases e),fun _=>hK⟩
 | bin op x y=>obtain ⟨v,hv,rfl,rfl⟩:=bh h;exact Il (φ:=fun z=>K (put dst z env) _) hv hK
 | shift op x y=>obtain ⟨v,hv,rfl,rfl⟩:=bh h;exact z4 (φ:=fun z=>K (put dst z env) _) hv hK
 | iX op x y=>obtain ⟨v,hv,rfl,rfl⟩:=bh h;exact xn (φ:=fun z=>K (put dst z env) _) hv hK
 | jW kd neq x=>obtain ⟨v,hv,rfl,rfl⟩:=bh h;exact z5 (φ:=fun z=>K (put dst z env) _) hv hK
 | un op x=>obtain ⟨v,hv,rfl,rfl⟩:=bh h;exact LR (φ:=fun z=>K (put dst z env) _) hv hK
 | box x=>
   simp only [iM] at h
   split at h <;> cases h
   rename_i hc
   exact ⟨hc.1,hc.2,hK⟩
 | mR x=>
   simp only [iM] at h
   split at h <;> cases h
   rename_i hc
   exact ⟨hc,hK⟩
 | s7 m x=>
   simp only [iM] at h
   split at h <;> cases h
   rename_i hc
   exact ⟨hc.1,hc.2.1,hc.2.2,hK⟩
 | alloc z=>
   simp only [iM] at h
   split at h <;> cases h
   rename_i hc
   exact ⟨hc,hK⟩
 | build z ps=>
   obtain ⟨v,hv,rfl,rfl⟩:=bh h
   obtain ⟨u,hu,rfl⟩:=zF.1 hv
   exact xo (φ:=fun xs=>K (put dst (.agg xs) env) H') hK hu
 | buildSlice own esz z len ps=>
   obtain ⟨v,hv,rfl,rfl⟩:=bh h
   obtain ⟨u,hu,rfl⟩:=zF.1 hv
   exact qN (φ:=fun xs=>K (put dst (.ak own xs) env) H') hK hu
 | load sz a=>obtain ⟨v,hv,rfl,rfl⟩:=bh h;exact oZ (φ:=fun z=>K (put dst z env) _) hv hK
 | eU a=>
   simp only [iM] at h
   simp only [bC]
   split at h <;> try cases h
   rename_i e
   simp only [e]
   split at h <;> try cases h
   rename_i bu
   simp only [bu]
   split at h <;> cases h
   exact ⟨by assumption,hK⟩
 | store m a x=>
   simp only [iM] at h
   split at h <;> cases h
   rename_i hs
   exact JM hs hK
 | fS a s=>
   simp only [iM] at h
   split at h <;> cases h
   rename_i hs
   exact DR hs hK
 | nilCheck x=>obtain ⟨v,hv,rfl,rfl⟩:=bh h;exact rX (φ:=fun z=>K (put dst z env) _) hv hK
 | fieldAddr off sz x=>obtain ⟨v,hv,rfl,rfl⟩:=bh h;exact qk (φ:=fun z=>K (put dst z env) _) hv hK
 | field off sz x=>obtain ⟨v,hv,rfl,rfl⟩:=bh h;exact z6 (φ:=fun z=>K (put dst z env) _) hv hK
 | indexAddr esz x i=>
   simp only [iM] at h
   split at h <;> try cases h
   rename_i hl
   obtain ⟨v,hv,rfl,rfl⟩:=bh h
   exact ⟨xp hl,qm (φ:=fun z=>K (put dst z env) _) hv hK⟩
 | dn x i=>obtain ⟨v,hv,rfl,rfl⟩:=bh h;exact rV (φ:=fun z=>K (put dst z env) _) hv hK
 | eh n x i=>obtain ⟨v,hv,rfl,rfl⟩:=bh h;exact rW (φ:=fun z=>K (put dst z env) _) hv hK
 | slice esz x lo hi m=>obtain ⟨v,hv,rfl,rfl⟩:=bh h;exact xr (φ:=fun z=>K (put dst z env) _) hv hK
 | ej x lo hi=>obtain ⟨v,hv,rfl,rfl⟩:=bh h;exact rY (φ:=fun z=>K (put dst z env) _) hv hK
 | len kd x=>
   simp only [iM] at h
   split at h <;> try cases h
   rename_i hl
   obtain ⟨v,hv,rfl,rfl⟩:=bh h
   exact ⟨DQ hl,Im (φ:=fun z=>K (put dst z env) _) hv hK⟩
 | append esz bytes s x=>
   simp only [iM] at h
   split at h <;> cases h
   rename_i hs
   exact GA (φ:=fun zs=>K (put dst (.ak esz zs) (cW env s.slot)) _) hs hK
 | ux esz bytes z n=>
   simp only [iM] at h
   split at h <;> cases h
   rename_i hs
   exact JN (esz:=esz) (K:=fun v H'=>K (put dst v env) H') hs hK
 | oF esz bytes n=>obtain ⟨v,hv,rfl,rfl⟩:=bh h;exact z7 (φ:=fun z=>K (put dst z env) _) hv hK
 | oG=>simp only [iM] at h;cases h;exact hK
 | oE m a x=>simp only [iM] at h;cases h
 | uw sz esz a=>
   simp only [iM] at h
   split at h <;> try cases h
   rename_i z hz
   split at h <;> cases h
   rename_i v H2 hs
   exact oZ (φ:=fun z=>ft esz z H fun y H'=>K (put dst y env) H') hz (JQ (K:=fun v H'=>K (put dst v env) H') hs hK)
 | Dc esz z len ps=>simp only [iM] at h;cases h
 | jZ esz bytes z s x=>simp only [iM] at h;cases h
 | oH esz z x=>simp only [iM] at h;cases h
 | qB esz x lo hi mx=>simp only [iM] at h;cases h
 | lookup kd z m k ok=>obtain ⟨v,hv,rfl,rfl⟩:=bh h;exact xt (φ:=fun z=>K (put dst z env) _) hv hK
 | lG kd m k x=>
   simp only [iM] at h
   split at h <;> cases h
   rename_i hs
   exact GB hs hK
 | fn f first cap=>simp only [iM] at h;cases h;exact hK
 | extract x i=>obtain ⟨v,hv,rfl,rfl⟩:=bh h;exact uT (φ:=fun z=>K (put dst z env) _) hv hK
 | call f args pass=>
   simp only [iM] at h
   simp only [bC,qg]
   split at h <;> try cases h
   ·rename_i g first cap e
    split at h <;> cases h
    rename_i r hr
    rw [e]
    refine ⟨_,cp _,eC.of <| (Ip hC hr).mono ?_⟩
    rintro r' H'' ⟨rfl,rfl⟩
    exact hK
   ·rename_i id e
    split at h <;> cases h
    rename_i r hr
    rw [e]
    refine ⟨_,cp _,fX.mono (hC.2 _ _ _ _ _ hr) ?_⟩
    rintro r' H'' ⟨rfl,rfl⟩
    exact hK
 | fq k x=>obtain ⟨v,hv,rfl,rfl⟩:=bh h;exact uU (φ:=fun z=>K (put dst z env) _) hv hK
 | iq x=>obtain ⟨v,hv,rfl,rfl⟩:=bh h;exact uV (φ:=fun z=>K (put dst z env) _) hv hK
 | bytesOf x=>obtain ⟨v,hv,rfl,rfl⟩:=bh h;exact uW (φ:=fun z=>K (put dst z env) _) hv hK
 | strOf x=>obtain ⟨v,hv,rfl,rfl⟩:=bh h;exact z9 (φ:=fun z=>K (put dst z env) _) hv hK
 | mx big a b=>obtain ⟨v,hv,rfl,rfl⟩:=bh h;exact LS (φ:=fun z=>K (put dst z env) _) hv hK
 | copy esz d s=>
   simp only [iM] at h
   split at h <;> cases h
   rename_i hs
   exact LU (K:=fun v H'=>K (put dst v env) H') hs hK
 | Bf esz x=>
   simp only [iM] at h
   split at h <;> cases h
   rename_i hs
   exact xq (K:=fun v H'=>K (put dst v env) H') hs hK
 | never=>cases h
def n8 (C:iS) (o:cq) (ρ:IX→AV) (H:List aa):Option AV:=
 match o with
 | .set i false=>some (ρ i).ab
 | .pick c a b=>match ρ c with | .bool true=>some (ρ a).ab | .bool false=>some (ρ b).ab | _=>none
 | .bin op i j=>Ij op (ρ i) (ρ j)
 | .shift op i j=>vU op (ρ i) (ρ j)
 | .iX neq i j=>rR neq (ρ i) (ρ j)
 | .jW kd neq i=>vV kd neq (ρ i)
 | .un op i=>PO op (ρ i)
 | .mR i=>if (ρ i).val=true then some (.ah (ρ i)) else none
 | .build z ps=>(tD z.cells (ps.map fun q=>(q.1,q.2.1,ρ q.2.2))).map .agg
 | .buildSlice own esz z len ps=>(mn (List.replicate len (aR z)) esz (ps.map fun q=>(q.1,ρ q.2))).map (.ak own)
 | .load sz i=>qL sz (ρ i) H
 | .nilCheck i=>nr (ρ i)
 | .fieldAddr off sz i=>lj off sz (ρ i)
 | .field off sz i=>vW off sz (ρ i)
 | .indexAddr esz i j=>if xj esz (ρ i)=true then lm esz (ρ i) (ρ j) else none
 | .dn i j=>nl (ρ i) (ρ j)
 | .eh n i j=>nk n (ρ i) (ρ j)
 | .slice esz i lo hi m=>rT esz (ρ i) (lo.map ρ) (hi.map ρ) (m.map ρ)
 | .ej i lo hi=>nt (ρ i) (lo.map ρ) (hi.map ρ)
 | .len kd i=>if BM kd (ρ i)=true then Ik (ρ i) H else none
 | .lookup kd z m k ok=>rU kd z (ρ m) (ρ k) ok H
 | .fn f first cap=>some (.fn f (first.map fun x=>(ρ x).ab) (cap.map fun x=>(ρ x).ab))
 | .extract i k=>pF (ρ i) k
 | .call f args none=>match ρ f with
   | .fn (.func g) first cap=>match Io C g (first.map AV.ab++(args.map fun x=>(ρ x).ab)++cap.map AV.ab) H with
     | some (r,H')=>if DU H' H=true then some r else none
     | none=>none
   | _=>none
 | .fq k i=>pG k (ρ i)
 | .iq i=>pH (ρ i)
 | .bytesOf i=>pI 1 (ρ i)
 | .oF esz bytes i=>vX esz bytes (ρ i)
 | .strOf i=>vY (ρ i)
 | .mx big i j=>PR big (ρ i) (ρ j)
 | _=>none
theorem vZ {P:Program} {C:iS} (hC:lR P C) {o:cq} {ρ:IX→AV} {H:List aa} {v:AV} (h:n8 C o ρ H=some v):dh P o ρ H v:=by
 cases o with
 | set i take=>
   cases take with
   | true=>cases h
   | false=>simp only [n8] at h;cases h;rfl
 | pick c a b=>
   simp only [n8] at h
   simp only [dh]
   split at h <;> cases h
   ·rename_i e;rw [e];exact ⟨fun _=>rfl,fun e=>by cases e⟩
   ·rename_i e;rw [e];exact ⟨fun e=>(by cases e),fun _=>rfl⟩
 | bin op x y=>exact Il (φ:=fun z=>z=v) h rfl
 | shift op x y=>exact z4 (φ:=fun z=>z=v) h rfl
 | iX op x y=>exact xn (φ:=fun z=>z=v) h rfl
 | jW kd neq x=>exact z5 (φ:=fun z=>z=v) h rfl
 | un op x=>exact LR (φ:=fun z=>z=v) h rfl
 | mR x=>
   simp only [n8] at h
   split at h <;> cases h
   rename_i hc
   exact ⟨hc,rfl⟩
 | build z ps=>
   obtain ⟨u,hu,rfl⟩:=zF.1 h
   exact xo (φ:=fun xs=>AV.agg xs=.agg u) rfl hu
 | buildSlice own esz z len ps=>
   obtain ⟨u,hu,rfl⟩:=zF.1 h
   exact qN (φ:=fun xs=>AV.ak own xs=.ak own u) rfl hu
 | load sz a=>exact oZ (φ:=fun z=>z=v) h rfl
 | nilCheck x=>exact rX (φ:=fun z=>z=v) h rfl
 | fieldAddr off sz x=>exact qk (φ:=fun z=>z=v) h rfl
 | field off sz x=>exact z6 (φ:=fun z=>z=v) h rfl
 | indexAddr esz x i=>
   simp only [n8] at h
   split at h <;> try cases h
   rename_i hl
   exact ⟨xp hl,qm (φ:=fun z=>z=v) h rfl⟩
 | dn x i=>exact rV (φ:=fun z=>z=v) h rfl
 | eh n x i=>exact rW (φ:=fun z=>z=v) h rfl
 | slice esz x lo hi m=>exact xr (φ:=fun z=>z=v) h rfl
 | oF esz bytes n=>exact z7 (φ:=fun z=>z=v) h rfl
 | ej x lo hi=>exact rY (φ:=fun z=>z=v) h rfl
 | len kd x=>
   simp only [n8] at h
   split at h <;> try cases h
   rename_i hl
   exact ⟨DQ hl,Im (φ:=fun z=>z=v) h rfl⟩
 | lookup kd z m k ok=>exact xt (φ:=fun z=>z=v) h rfl
 | fn f first cap=>simp only [n8] at h;cases h;rfl
 | extract x i=>exact uT (φ:=fun z=>z=v) h rfl
 | call f args pass=>
   cases pass with
   | some _=>cases h
   | none=>
     simp only [n8] at h
     simp only [dh]
     split at h <;> try cases h
     rename_i g first cap e
     split at h <;> try cases h
     rename_i r H' hr
     split at h <;> cases h
     rename_i hb
     rw [e]
     refine ⟨_,cp _,(Ip hC hr).mono ?_⟩
     rintro r' H'' ⟨rfl,rfl⟩
     exact ⟨rfl,BR hb⟩
 | fq k x=>exact uU (φ:=fun z=>z=v) h rfl
 | iq x=>exact uV (φ:=fun z=>z=v) h rfl
 | bytesOf x=>exact uW (φ:=fun z=>z=v) h rfl
 | strOf x=>exact z9 (φ:=fun z=>z=v) h rfl
 | mx big a b=>exact LS (φ:=fun z=>z=v) h rfl
 | _=>cases h
def BS (C:iS):List bE→Env→List aa→Option (Env×List aa)
 | [],env,H=>some (env,H)
 | o::r,env,H=>match o.g with
   | none=>match iM C o.op o.dst env H with
     | some (env,H)=>BS C r env H
     | none=>none
   | some (g,want)=>match get env g with
     | .bool b=>if b=want then (match iM C o.op o.dst ((g,.bool want)::env) H with
        | some (env,H)=>BS C r env H
        | none=>none) else BS C r (put o.dst (.tuple []) ((g,.bool (!want))::env)) H
     | .tuple []=>BS C r (put o.dst (.tuple []) env) H
     | _=>none
theorem tG {P:Program} {C:iS} (hC:lR P C):∀ {l:List bE} {env aI:Env} {H H':List aa} {K:Env→List aa→Prop},BS C l env H=some (aI,H')→K aI H'→kc P l env H K
 | [],env,aI,H,H',K,h,hK=>by simp only [BS] at h;cases h;exact hK
 | o::r,env,aI,H,H',K,h,hK=>by
   simp only [BS] at h
   simp only [kc,tu]
   cases hg:o.g with
   | none=>
     simp only [hg] at h ⊢
     split at h <;> try cases h
     rename_i e2 H2 h2
     exact LW (K:=fun env H=>kc P r env H K) hC h2 (tG hC h hK)
   | some p=>
     obtain ⟨g,want⟩:=p
     simp only [hg] at h ⊢
     simp only [ja]
     split at h
     rotate_left
     ·rename_i hb
      simp only [hb]
      exact tG hC h hK
     ·cases h
     rename_i b hb
     simp only [hb]
     split at h
     ·rename_i Ib
      subst Ib
      split at h <;> try cases h
      rename_i e2 H2 h2
      exact ⟨fun _=>LW (K:=fun env H=>kc P r env H K) hC h2 (tG hC h hK),fun e=>by cases b <;> cases e⟩
     ·rename_i Ib
      exact ⟨fun e=>absurd e Ib,fun _=>tG hC h hK⟩
def dvE (C:iS) (st:Bool) (o:cq) (ρ:IX→AV) (H:List aa):Option AV:=
 match st with
 | true=>n8 C o ρ H
 | false=>match o with
   | .load sz i=>(match ρ i with | .ah y=>qL sz (.ah y) [] | _=>none)
   | .call f args none=>(match ρ f with
     | .fn (.func g) first cap=>if aj 0 (first.map AV.ab++(args.map fun x=>(ρ x).ab)++cap.map AV.ab)=true then (match C false g (first.map AV.ab++(args.map fun x=>(ρ x).ab)++cap.map AV.ab) [] with
       | some (r,[])=>some r
       | _=>none) else none
     | _=>none)
   | .call _ _ _=>none
   | .len kd i=>(match ρ i with | .map _=>none | _=>n8 C o ρ [])
   | .lookup kd z m k ok=>(match ρ m with | .jE=>n8 C o ρ [] | _=>none)
   | o=>n8 C o ρ []
theorem LX {x:AV} {H H':List aa} {φ:AV→Prop} (h:fT x H φ) (hm:∀ id,x≠.map id):fT x H' φ:=by
 unfold fT at *
 split at h <;> first | exact h | exact h.elim | exact absurd rfl (hm _)
theorem S3 {P:Program} {C:iS} (hC:lR P C) {st:Bool} {o:cq} {ρ:IX→AV} {H:List aa} {v:AV} (h:dvE C st o ρ H=some v):dv P st o ρ H v:=by
 cases st with
 | true=>exact vZ hC h
 | false=>
   intro H'
   simp only [dvE] at h
   split at h
   ·split at h <;> try cases h
    rename_i sz i y hy
    simp only [dh]
    rw [hy]
    have:=oZ (φ:=fun z=>z=v) h rfl
    unfold aU at this ⊢
    exact this
   ·rename_i f args
    split at h <;> try cases h
    rename_i g first cap hf
    split at h <;> try cases h
    rename_i hb
    split at h <;> cases h
    rename_i hr
    simp only [dh,hf]
    exact ⟨_,cp _,aw.frame (R:=fun r=>r=v) (fun x hx=>(bc 0 _).1 hb x hx) (hC.1 _ _ _ _ _ hr) H'⟩
   ·cases h
   ·rename_i kd i
    split at h
    ·cases h
    ·rename_i eS
     have:=vZ hC h
     simp only [dh] at this ⊢
     exact ⟨this.1,LX this.2 eS⟩
   ·rename_i kd z m k ok
    split at h <;> try cases h
    rename_i hm
    have:=vZ hC h
    simp only [dh,hm,cB] at this ⊢
    exact this
   ·rename_i _ h1 h0 h2 h3 h4
    have:=vZ hC h
    cases o <;> first | exact this | exact (h1 _ _ rfl).elim | exact (h2 _ _ _ rfl).elim | exact (h3 _ _ rfl).elim | exact (h4 _ _ _ _ _ rfl).elim | (rename_i take;cases take <;> exact this)
def JS:Env→Env→Bool
 | [],[]=>true
 | (a,x)::r,(b,y)::s=>a == b && x.beq y && JS r s
 | _,_=>false
theorem LY:∀ {xs ys:Env},JS xs ys=true→xs=ys
 | [],[],_=>rfl
 | (a,x)::r,(b,y)::s,h=>by
   simp only [JS,zB,beq_iff_eq] at h
   rw [h.1.1,AV.rZ h.1.2,LY h.2]
 | [],_::_,h=>by simp [JS] at h
 | _::_,[],h=>by simp [JS] at h
def PT (C:iS) (o:bE) (env:Env) (H:List aa):Option (Env×List aa):=BS C [o] env H
theorem LZ {P:Program} {C:iS} (hC:lR P C) {o:bE} {env aI:Env} {H H':List aa} {K:Env→List aa→Prop} (h:PT C o env H=some (aI,H')) (hK:K aI H'):tu P o env H K:=tG hC h hK
def L3 (C:iS) (st:Bool) (o:bE) (env:Env) (H:List aa):Option Env:=
 match o.g with
 | none=>match dvE C st o.op (ap env) H with
   | some x=>some (put o.dst x env)
   | none=>none
 | some (g,want)=>match get env g with
   | .bool b=>if b=want then (match dvE C st o.op (ap env) H with
      | some x=>some (put o.dst x env)
      | none=>none) else some (put o.dst (.tuple []) env)
   | .tuple []=>some (put o.dst (.tuple []) env)
   | _=>none
theorem PU {P:Program} {C:iS} (hC:lR P C) {st:Bool} {o:bE} {env aI:Env} {H:List aa} {K:Env→Prop} (h:L3 C st o env H=some aI) (hK:K aI):uK P st o env H K:=by
 unfold L3 at h
 unfold uK
 cases hg:o.g with
 | none=>
   simp only [hg] at h ⊢
   split at h <;> cases h
   rename_i x hx
   exact ⟨x,S3 hC hx,hK⟩
 | some p=>
   obtain ⟨g,want⟩:=p
   simp only [hg] at h ⊢
   simp only [ja]
   split at h
   rotate_left
   ·rename_i hb
    simp only [hb]
    cases h
    exact hK
   ·cases h
   rename_i b hb
   simp only [hb]
   split at h
   ·rename_i Ib
    subst Ib
    split at h <;> cases h
    rename_i x hx
    exact ⟨fun _=>⟨x,S3 hC hx,hK⟩,fun e=>by cases b <;> cases e⟩
   ·rename_i Ib
    cases h
    exact ⟨fun e=>absurd e Ib,fun _=>hK⟩
abbrev za:=List (Env×List aa)
def PV (x:Env×List aa):za→Bool
 | []=>false
 | y::r=>match JS x.1 y.1 && DU x.2 y.2 with | true=>true | false=>PV x r
def qO (l:za):za→za
 | []=>l
 | x::r=>match PV x l with | true=>qO l r | false=>x::qO l r
theorem L4 {x:Env×List aa}:∀ {l:za},PV x l=true→x∈l
 | [],h=>by cases h
 | y::r,h=>by
   unfold PV at h
   split at h
   ·rename_i e
    simp only [zB] at e
    have e1:=LY e.1
    have e2:=BR e.2
    have:x=y:=by cases x;cases y;simp only at e1 e2;rw [e1,e2]
    rw [this];exact abn
   ·exact aa6 _ (L4 h)
theorem DV {l:za}:∀ {m:za},(∀ x∈l,x∈qO l m)∧∀ x∈m,x∈qO l m
 | []=>⟨fun x h=>h,fun x h=>by cases h⟩
 | y::r=>by
   obtain ⟨h1,h2⟩:=DV (l:=l) (m:=r)
   unfold qO
   split
   ·rename_i e
    refine ⟨h1,fun x hx=>?_⟩
    rcases OU.1 hx with rfl | hx
    ·exact h1 _ (L4 e)
    ·exact h2 x hx
   ·refine ⟨fun x hx=>aa6 _ (h1 x hx),fun x hx=>?_⟩
    rcases OU.1 hx with rfl | hx
    ·exact abn
    ·exact aa6 _ (h2 x hx)
def FM (C:iS) (live:Option (List Nat)):DT→Env→List aa→Option za
 | .done,env,H=>some [(eX live env,H)]
 | .take st o r,env,H=>match L3 C st o env H with
   | some aI=>FM C live r aI H
   | none=>none
 | .br o t .nil,env,H=>match PT C o env H with
   | some (aI,H')=>FM C live t aI H'
   | none=>none
 | .br o t rest,env,H=>match PT C o env H with
   | some (aI,H')=>match FM C live t aI H',FM C live rest env H with
     | some l1,some l2=>some (qO l1 l2)
     | _,_=>none
   | none=>none
 | .nil,_,_=>none
theorem Yx {P:Program} {C:iS} (hC:lR P C) {live:Option (List Nat)}:∀ {t:DT} {env:Env} {H:List aa} {l:za} {K:Env→List aa→Prop},FM C live t env H=some l→(∀ o∈l,K o.1 o.2)→vR P t env H fun e H=>K (eX live e) H:=by
 intro t
 induction t with
 | done=>intro env H l K h hK;simp only [FM] at h;cases h;exact hK _ abn
 | nil=>intro env H l K h hK;simp [FM] at h
 | take st o r ih=>
   intro env H l K h hK
   simp only [FM] at h
   split at h <;> try cases h
   rename_i e2 he
   exact PU (K:=fun env=>vR P r env H fun e H=>K (eX live e) H) hC he (ih h hK)
 | br o t rest LM FL=>
   intro env H l K h hK
   have key:∀ rest',(∀ {env:Env} {H:List aa} {l:za} {K:Env→List aa→Prop},FM C live rest' env H=some l→(∀ o∈l,K o.1 o.2)→vR P rest' env H fun e H=>K (eX live e) H)→rest'=rest→
    ((match PT C o env H with
    | some (aI,H')=>match FM C live t aI H',FM C live rest' env H with
      | some l1,some l2=>some (qO l1 l2)
      | _,_=>none
    | none=>none)=some l)→vR P (.br o t rest') env H fun e H=>K (eX live e) H:=by
    intro rest' ihr' _ h
    split at h <;> try cases h
    rename_i e2 H2 h2
    split at h <;> try cases h
    rename_i l1 l2 h3 h4
    obtain ⟨u1,u2⟩:=DV (l:=l1) (m:=l2)
    exact ⟨LZ (K:=fun env H=>vR P t env H fun e H=>K (eX live e) H) hC h2 (LM h3 fun o ho=>hK o (u1 o ho)),ihr' h4 fun o ho=>hK o (u2 o ho)⟩
   cases rest with
   | nil=>
     simp only [FM] at h
     split at h <;> try cases h
     rename_i e2 H2 h2
     exact ⟨LZ (K:=fun env H=>vR P t env H fun e H=>K (eX live e) H) hC h2 (LM h hK),trivial⟩
   | done=>exact key _ (fun h hK=>FL h hK) rfl (by simpa only [FM] using h)
   | take st o' r=>exact key _ (fun h hK=>FL h hK) rfl (by simpa only [FM] using h)
   | br o' t' r=>exact key _ (fun h hK=>FL h hK) rfl (by simpa only [FM] using h)
end Go.aK
