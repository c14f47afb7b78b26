/- A memory-free reading of the model's values (part 20): code that is run. -/
import Derived.Test.YtljchnfgjdjobaaGreatUad
set_option linter.unusedVariables false
set_option linter.unusedSimpArgs false
set_option linter.defProp false
set_option linter.unusedSectionVars false
namespace Go.aI
open Go
def SU:Fn→Fn→Bool
 | .func a,.func b=>a == b
 | _,_=>false
mutual
def AV.beq:AV→AV→Bool
 | .any,.any=>true
 | .bool a,.bool b=>a == b
 | .int k a,.int l b=>decide (k=l) && decide (a=b)
 | .str a,.str b=>decide (a=b)
 | .ag,.ag=>true
 | .ap o xs,.ap p ys=>decide (o=p) && wS xs ys
 | .aW a b c d,.aW e f g h=>decide (a=e) && decide (b=f) && decide (c=g) && decide (d=h)
 | .agg xs,.agg ys=>wS xs ys
 | .tuple xs,.tuple ys=>wS xs ys
 | .ptr a b,.ptr c d=>decide (a=c) && decide (b=d)
 | .ai x,.ai y=>x.beq y
 | .sv,.sv=>true
 | .map a,.map b=>decide (a=b)
 | .ju,.ju=>true
 | .fn f xs ys,.fn g us vs=>SU f g && wS xs us && wS ys vs
 | .fT,.fT=>true
 | .iface t x,.iface u y=>decide (t=u) && x.beq y
 | .x8,.x8=>true
 | _,_=>false
def wS:List AV→List AV→Bool
 | [],[]=>true
 | x::xs,y::ys=>x.beq y && wS xs ys
 | _,_=>false
end
theorem SV {f g:Fn} (h:SU f g=true):f=g:=by
 unfold SU at h
 split at h
 ·simp at h;rw [h]
 ·cases h
mutual
theorem AV.rI:∀ {x y:AV},x.beq y=true→x=y:=by
 intro x y h
 cases x <;> cases y <;> simp only [AV.beq,Sr,decide_eq_true_eq,aaT,beq_iff_eq] at h <;> first
  | rfl
  | (subst h;rfl)
  | (obtain ⟨rfl,rfl⟩:=h;rfl)
  | (obtain ⟨⟨⟨rfl,rfl⟩,rfl⟩,rfl⟩:=h;rfl)
  | (rw [sQ h])
  | (rw [AV.rI h])
  | (obtain ⟨rfl,h⟩:=h;rw [sQ h])
  | (obtain ⟨rfl,h⟩:=h;rw [AV.rI h])
  | (obtain ⟨⟨h1,h2⟩,h3⟩:=h;rw [SV h1,sQ h2,sQ h3])
theorem sQ:∀ {xs ys:List AV},wS xs ys=true→xs=ys
 | [],[],_=>rfl
 | x::xs,y::ys,h=>by
   simp only [wS,Sr] at h
   rw [AV.rI h.1,sQ h.2]
 | [],_::_,h=>by simp [wS] at h
 | _::_,[],h=>by simp [wS] at h
end
def IU:List (AV×AV)→List (AV×AV)→Bool
 | [],[]=>true
 | (a,b)::xs,(c,d)::ys=>a.beq c && b.beq d && IU xs ys
 | _,_=>false
theorem KE:∀ {xs ys:List (AV×AV)},IU xs ys=true→xs=ys
 | [],[],_=>rfl
 | (a,b)::xs,(c,d)::ys,h=>by
   simp only [IU,Sr] at h
   rw [AV.rI h.1.1,AV.rI h.1.2,KE h.2]
 | [],_::_,h=>by simp [IU] at h
 | _::_,[],h=>by simp [IU] at h
def aa.beq:aa→aa→Bool
 | .dead,.dead=>true
 | .cells a,.cells b=>wS a b
 | .map a,.map b=>IU a b
 | _,_=>false
theorem aa.rI {x y:aa} (h:x.beq y=true):x=y:=by
 unfold aa.beq at h
 split at h
 ·rfl
 ·rw [sQ h]
 ·rw [KE h]
 ·cases h
def C3:List aa→List aa→Bool
 | [],[]=>true
 | x::xs,y::ys=>x.beq y && C3 xs ys
 | _,_=>false
theorem A8:∀ {xs ys:List aa},C3 xs ys=true→xs=ys
 | [],[],_=>rfl
 | x::xs,y::ys,h=>by
   simp only [C3,Sr] at h
   rw [aa.rI h.1,A8 h.2]
 | [],_::_,h=>by simp [C3] at h
 | _::_,[],h=>by simp [C3] at h
abbrev iN:=Bool→Nat→List AV→List aa→Option (AV×List aa)
def Hi (C:iN) (g:Nat) (args:List AV) (H:List aa):Option (AV×List aa):=
 match aj 0 args with
 | true=>match C false g args [] with
   | some (r,[])=>some (r,H)
   | _=>C false g args H
 | false=>C false g args H
def ee (H:List aa) (dst:Option Nat) (env:Env) (z:Option AV):Option (Env×List aa):=match z with | some z=>some (put dst z env,H) | none=>none
def iv (C:iN) (o:cb) (dst:Option Nat) (env:Env) (H:List aa):Option (Env×List aa):=
 match o with
 | .set x take=>match dst with | some d=>some (uL env d x take,H) | none=>some (env,H)
 | .pick c a b=>match aq env c with
   | .bool true=>some (put dst (aq env a).ab env,H)
   | .bool false=>some (put dst (aq env b).ab env,H)
   | _=>none
 | .bin op x y=>ee H dst env (He op (aq env x) (aq env y))
 | .shift op x y=>ee H dst env (vu op (aq env x) (aq env y))
 | .iR neq x y=>ee H dst env (rA neq (aq env x) (aq env y))
 | .jI kd neq x=>ee H dst env (vv kd neq (aq env x))
 | .un op x=>ee H dst env (Of op (aq env x))
 | .box x=>if (aq env x).val=true∧aj (H.length + 1) ((aq env x).cells.map AV.ab)=true then some (put dst (.ptr H.length 0) env,H++[.cells ((aq env x).cells.map AV.ab)]) else none
 | .ms x=>if (aq env x).val=true then some (put dst (.ai (aq env x)) env,H) else none
 | .sx m x=>if (aq env x).val=true∧(aq env x).cells.length=m∧(aq env x).cells.all AV.one=true then some (put dst (.ai (aq env x)) env,H) else none
 | .alloc z=>if aj (H.length + 1) (z.cells.map AV.ab)=true then some (put dst (.ptr H.length 0) env,H++[.cells (z.cells.map AV.ab)]) else none
 | .build z ps=>ee H dst env ((sO z.cells (ps.map fun q=>(q.1,q.2.1,aq env q.2.2))).map .agg)
 | .buildSlice own esz z len ps=>ee H dst env ((lS (List.replicate len (aV z)) esz (ps.map fun q=>(q.1,aq env q.2))).map (.ap own))
 | .load sz a=>ee H dst env (qj sz (aq env a) H)
 | .eK a=>match dst,aq env a with
   | some d,.ptr id off=>match H[id]? with
     | some (.cells es)=>if off < es.length then some ((d,es.getD off .any)::env,H.set id (.cells (es.set off (es.getD off .any).ab))) else none
     | _=>none
   | _,_=>none
 | .store m a x=>match A4 m (aq env a) (aq env x) H with | some H'=>some (env,H') | none=>none
 | .nQ _ _ _=>none
 | .tQ sz esz a=>match qj sz (aq env a) H with
   | some z=>match A7 esz z H with
     | some (v,H')=>some (put dst v env,H')
     | none=>none
   | none=>none
 | .fA a s=>match sP (aq env a) (get env s) H with | some H'=>some ((s,(get env s).ab)::env,H') | none=>none
 | .nilCheck x=>ee H dst env (mO (aq env x))
 | .fieldAddr off sz x=>ee H dst env (kR off sz (aq env x))
 | .field off sz x=>ee H dst env (vw off sz (aq env x))
 | .indexAddr esz x i=>if wI esz (aq env x)=true then ee H dst env (kS esz (aq env x) (aq env i)) else none
 | .di x i=>ee H dst env (mN (aq env x) (aq env i))
 | .dV n x i=>ee H dst env (mM n (aq env x) (aq env i))
 | .slice esz x lo hi m=>ee H dst env (rC esz (aq env x) (gE env lo) (gE env hi) (gE env m))
 | .dW x lo hi=>ee H dst env (mQ (aq env x) (gE env lo) (gE env hi))
 | .len kd x=>if A0 kd (aq env x)=true then ee H dst env (Hf (aq env x) H) else none
 | .append esz bytes s x=>match wJ esz bytes (aq env s) (aq env x) with | some zs=>some (put dst (.ap esz zs) (cG env s.slot),H) | none=>none
 | .tS esz bytes z n=>match A5 bytes z (aq env n) H with | some (v,H')=>some (put dst v env,H') | none=>none
 | .nR esz bytes n=>ee H dst env (vx esz bytes (aq env n))
 | .nS=>some (put dst (.map H.length) env,H++[.map []])
 | .Cg ..=>none
 | .jK ..=>none
 | .jL ..=>none
 | .nT ..=>none
 | .pY ..=>none
 | .lookup kd z m k ok=>ee H dst env (rD kd z (aq env m) (aq env k) ok H)
 | .k7 kd m k x=>match wL kd (aq env m) (aq env k) (aq env x) H with | some H'=>some (env,H') | none=>none
 | .fn f first cap=>some (put dst (.fn f (first.map fun x=>(aq env x).ab) (cap.map fun x=>(aq env x).ab)) env,H)
 | .extract x i=>ee H dst env (o7 (aq env x) i)
 | .call f args pass=>match aq env f with
   | .fn (.func g) first cap=>match Hi C g (first.map AV.ab++aK env pass 0 args++cap.map AV.ab) H with
     | some (r,H')=>some (put dst r (cG env (bh args pass)),H')
     | none=>none
   | .nN id=>match C true id (aK env pass 0 args) H with
     | some (r,H')=>some (put dst r (cG env (bh args pass)),H')
     | none=>none
   | _=>none
 | .eX k x=>ee H dst env (o8 k (aq env x))
 | .gY x=>ee H dst env (o9 (aq env x))
 | .bytesOf x=>ee H dst env (pc 1 (aq env x))
 | .strOf x=>ee H dst env (vz (aq env x))
 | .mx big a b=>ee H dst env (Og big (aq env a) (aq env b))
 | .copy esz d s=>match Fp esz (aq env d) (aq env s) H with | some (v,H')=>some (put dst v env,H') | none=>none
 | .Aq esz x=>match qk esz (aq env x) H with | some (v,H')=>some (put dst v env,H') | none=>none
 | .never=>none
def lA (P:Program) (C:iN):Prop:=(∀ g args H r H',C false g args H=some (r,H')→aw P g args H fun r' H''=>r'=r∧H''=H')∧
 ∀ id args H r H',C true id args H=some (r,H')→ko P id args H fun r' H''=>r'=r∧H''=H'
theorem Hj {P:Program} {C:iN} (hC:lA P C) {g:Nat} {args:List AV} {H H':List aa} {r:AV} (h:Hi C g args H=some (r,H')):aw P g args H fun r' H''=>r'=r∧H''=H':=by
 unfold Hi at h
 split at h
 ·rename_i hb
  split at h
  ·rename_i hr
   cases h
   exact aw.frame (R:=fun r'=>r'=r) (fun x hx=>(aY 0 _).1 hb x hx) (hC.1 _ _ _ _ _ hr) H
  ·exact hC.1 _ _ _ _ _ h
 ·exact hC.1 _ _ _ _ _ h
theorem bW:∀ xs,yY xs xs
 | []=>trivial
 | x::xs=>⟨le_refl _,bW xs⟩
theorem bi {H H':List aa} {dst:Option Nat} {env aH:Env} {z:Option AV} (h:ee H dst env z=some (aH,H')):∃ v,z=some v∧aH=put dst v env∧H'=H:=by
 unfold ee at h
 split at h <;> cases h
 exact ⟨_,rfl,rfl,rfl⟩
theorem KF {P:Program} {C:iN} (hC:lA P C) {o:cb} {dst:Option Nat} {env aH:Env} {H H':List aa} {K:Env→List aa→Prop} (h:iv C o dst env H=some (aH,H')) (hK:K aH H'):bB P o dst env H K:=by
 cases o with
 | set x take=>
   simp only [iv] at h
   simp only [bB]
   split at h <;> cases h <;> exact hK
 | pick c a b=>
   simp only [iv] at h
   simp only [bB]
   split at h <;> cases h
   ·rename_i e;rw [e];exact ⟨fun _=>hK,fun e=>by cases e⟩
   ·rename_i e;rw [e];exact ⟨fun e=>(by cases e),fun _=>hK⟩
 | bin op x y=>obtain ⟨v,hv,rfl,rfl⟩:=bi h;exact Hg (φ:=fun z=>K (put dst z env) _) hv hK
 | shift op x y=>obtain ⟨v,hv,rfl,rfl⟩:=bi h;exact zd (φ:=fun z=>K (put dst z env) _) hv hK
 | iR op x y=>obtain ⟨v,hv,rfl,rfl⟩:=bi h;exact wM (φ:=fun z=>K (put dst z env) _) hv hK
 | jI kd neq x=>obtain ⟨v,hv,rfl,rfl⟩:=bi h;exact ze (φ:=fun z=>K (put dst z env) _) hv hK
 | un op x=>obtain ⟨v,hv,rfl,rfl⟩:=bi h;exact KB (φ:=fun z=>K (put dst z env) _) hv hK
 | box x=>
   simp only [iv] at h
   split at h <;> cases h
   rename_i hc
   exact ⟨hc.1,hc.2,hK⟩
 | ms x=>
   simp only [iv] at h
   split at h <;> cases h
   rename_i hc
   exact ⟨hc,hK⟩
 | sx m x=>
   simp only [iv] at h
   split at h <;> cases h
   rename_i hc
   exact ⟨hc.1,hc.2.1,hc.2.2,hK⟩
 | alloc z=>
   simp only [iv] at h
   split at h <;> cases h
   rename_i hc
   exact ⟨hc,hK⟩
 | build z ps=>
   obtain ⟨v,hv,rfl,rfl⟩:=bi h
   obtain ⟨u,hu,rfl⟩:=tM.1 hv
   exact wN (φ:=fun xs=>K (put dst (.agg xs) env) H') hK hu
 | buildSlice own esz z len ps=>
   obtain ⟨v,hv,rfl,rfl⟩:=bi h
   obtain ⟨u,hu,rfl⟩:=tM.1 hv
   exact qm (φ:=fun xs=>K (put dst (.ap own xs) env) H') hK hu
 | load sz a=>obtain ⟨v,hv,rfl,rfl⟩:=bi h;exact ou (φ:=fun z=>K (put dst z env) _) hv hK
 | eK a=>
   simp only [iv] at h
   simp only [bB]
   split at h <;> try cases h
   rename_i e
   simp only [e]
   split at h <;> try cases h
   rename_i bm
   simp only [bm]
   split at h <;> cases h
   exact ⟨by assumption,hK⟩
 | store m a x=>
   simp only [iv] at h
   split at h <;> cases h
   rename_i hs
   exact IN hs hK
 | fA a s=>
   simp only [iv] at h
   split at h <;> cases h
   rename_i hs
   exact C1 hs hK
 | nilCheck x=>obtain ⟨v,hv,rfl,rfl⟩:=bi h;exact rG (φ:=fun z=>K (put dst z env) _) hv hK
 | fieldAddr off sz x=>obtain ⟨v,hv,rfl,rfl⟩:=bi h;exact pO (φ:=fun z=>K (put dst z env) _) hv hK
 | field off sz x=>obtain ⟨v,hv,rfl,rfl⟩:=bi h;exact zg (φ:=fun z=>K (put dst z env) _) hv hK
 | indexAddr esz x i=>
   simp only [iv] at h
   split at h <;> try cases h
   rename_i hl
   obtain ⟨v,hv,rfl,rfl⟩:=bi h
   exact ⟨wO hl,pP (φ:=fun z=>K (put dst z env) _) hv hK⟩
 | di x i=>obtain ⟨v,hv,rfl,rfl⟩:=bi h;exact rE (φ:=fun z=>K (put dst z env) _) hv hK
 | dV n x i=>obtain ⟨v,hv,rfl,rfl⟩:=bi h;exact rF (φ:=fun z=>K (put dst z env) _) hv hK
 | slice esz x lo hi m=>obtain ⟨v,hv,rfl,rfl⟩:=bi h;exact wQ (φ:=fun z=>K (put dst z env) _) hv hK
 | dW x lo hi=>obtain ⟨v,hv,rfl,rfl⟩:=bi h;exact rH (φ:=fun z=>K (put dst z env) _) hv hK
 | len kd x=>
   simp only [iv] at h
   split at h <;> try cases h
   rename_i hl
   obtain ⟨v,hv,rfl,rfl⟩:=bi h
   exact ⟨C0 hl,Hh (φ:=fun z=>K (put dst z env) _) hv hK⟩
 | append esz bytes s x=>
   simp only [iv] at h
   split at h <;> cases h
   rename_i hs
   exact Fq (φ:=fun zs=>K (put dst (.ap esz zs) (cG env s.slot)) _) hs hK
 | tS esz bytes z n=>
   simp only [iv] at h
   split at h <;> cases h
   rename_i hs
   exact IP (esz:=esz) (K:=fun v H'=>K (put dst v env) H') hs hK
 | nR esz bytes n=>obtain ⟨v,hv,rfl,rfl⟩:=bi h;exact zh (φ:=fun z=>K (put dst z env) _) hv hK
 | nS=>simp only [iv] at h;cases h;exact hK
 | nQ m a x=>simp only [iv] at h;cases h
 | tQ sz esz a=>
   simp only [iv] at h
   split at h <;> try cases h
   rename_i z hz
   split at h <;> cases h
   rename_i v H2 hs
   exact ou (φ:=fun z=>fL esz z H fun y H'=>K (put dst y env) H') hz (IT (K:=fun v H'=>K (put dst v env) H') hs hK)
 | Cg esz z len ps=>simp only [iv] at h;cases h
 | jK esz bytes z s x=>simp only [iv] at h;cases h
 | jL esz bytes z s x=>simp only [iv] at h;cases h
 | nT esz z x=>simp only [iv] at h;cases h
 | pY esz x lo hi mx=>simp only [iv] at h;cases h
 | lookup kd z m k ok=>obtain ⟨v,hv,rfl,rfl⟩:=bi h;exact wR (φ:=fun z=>K (put dst z env) _) hv hK
 | k7 kd m k x=>
   simp only [iv] at h
   split at h <;> cases h
   rename_i hs
   exact Ft hs hK
 | fn f first cap=>simp only [iv] at h;cases h;exact hK
 | extract x i=>obtain ⟨v,hv,rfl,rfl⟩:=bi h;exact uo (φ:=fun z=>K (put dst z env) _) hv hK
 | call f args pass=>
   simp only [iv] at h
   simp only [bB,pK]
   split at h <;> try cases h
   ·rename_i g first cap e
    split at h <;> cases h
    rename_i r hr
    rw [e]
    refine ⟨_,bW _,dD.of <| (Hj hC hr).mono ?_⟩
    rintro r' H'' ⟨rfl,rfl⟩
    exact hK
   ·rename_i id e
    split at h <;> cases h
    rename_i r hr
    rw [e]
    refine ⟨_,bW _,fF.mono (hC.2 _ _ _ _ _ hr) ?_⟩
    rintro r' H'' ⟨rfl,rfl⟩
    exact hK
 | eX k x=>obtain ⟨v,hv,rfl,rfl⟩:=bi h;exact uq (φ:=fun z=>K (put dst z env) _) hv hK
 | gY x=>obtain ⟨v,hv,rfl,rfl⟩:=bi h;exact ur (φ:=fun z=>K (put dst z env) _) hv hK
 | bytesOf x=>obtain ⟨v,hv,rfl,rfl⟩:=bi h;exact uv (φ:=fun z=>K (put dst z env) _) hv hK
 | strOf x=>obtain ⟨v,hv,rfl,rfl⟩:=bi h;exact zj (φ:=fun z=>K (put dst z env) _) hv hK
 | mx big a b=>obtain ⟨v,hv,rfl,rfl⟩:=bi h;exact KC (φ:=fun z=>K (put dst z env) _) hv hK
 | copy esz d s=>
   simp only [iv] at h
   split at h <;> cases h
   rename_i hs
   exact KD (K:=fun v H'=>K (put dst v env) H') hs hK
 | Aq esz x=>
   simp only [iv] at h
   split at h <;> cases h
   rename_i hs
   exact wP (K:=fun v H'=>K (put dst v env) H') hs hK
 | never=>cases h
def nv (C:iN) (o:cb) (ρ:IX→AV) (H:List aa):Option AV:=
 match o with
 | .set i false=>some (ρ i).ab
 | .pick c a b=>match ρ c with | .bool true=>some (ρ a).ab | .bool false=>some (ρ b).ab | _=>none
 | .bin op i j=>He op (ρ i) (ρ j)
 | .shift op i j=>vu op (ρ i) (ρ j)
 | .iR neq i j=>rA neq (ρ i) (ρ j)
 | .jI kd neq i=>vv kd neq (ρ i)
 | .un op i=>Of op (ρ i)
 | .ms i=>if (ρ i).val=true then some (.ai (ρ i)) else none
 | .build z ps=>(sO z.cells (ps.map fun q=>(q.1,q.2.1,ρ q.2.2))).map .agg
 | .buildSlice own esz z len ps=>(lS (List.replicate len (aV z)) esz (ps.map fun q=>(q.1,ρ q.2))).map (.ap own)
 | .load sz i=>qj sz (ρ i) H
 | .nilCheck i=>mO (ρ i)
 | .fieldAddr off sz i=>kR off sz (ρ i)
 | .field off sz i=>vw off sz (ρ i)
 | .indexAddr esz i j=>if wI esz (ρ i)=true then kS esz (ρ i) (ρ j) else none
 | .di i j=>mN (ρ i) (ρ j)
 | .dV n i j=>mM n (ρ i) (ρ j)
 | .slice esz i lo hi m=>rC esz (ρ i) (lo.map ρ) (hi.map ρ) (m.map ρ)
 | .dW i lo hi=>mQ (ρ i) (lo.map ρ) (hi.map ρ)
 | .len kd i=>if A0 kd (ρ i)=true then Hf (ρ i) H else none
 | .lookup kd z m k ok=>rD kd z (ρ m) (ρ k) ok H
 | .fn f first cap=>some (.fn f (first.map fun x=>(ρ x).ab) (cap.map fun x=>(ρ x).ab))
 | .extract i k=>o7 (ρ i) k
 | .call f args none=>match ρ f with
   | .fn (.func g) first cap=>match Hi C g (first.map AV.ab++(args.map fun x=>(ρ x).ab)++cap.map AV.ab) H with
     | some (r,H')=>if C3 H' H=true then some r else none
     | none=>none
   | _=>none
 | .eX k i=>o8 k (ρ i)
 | .gY i=>o9 (ρ i)
 | .bytesOf i=>pc 1 (ρ i)
 | .nR esz bytes i=>vx esz bytes (ρ i)
 | .strOf i=>vz (ρ i)
 | .mx big i j=>Og big (ρ i) (ρ j)
 | _=>none
theorem vA {P:Program} {C:iN} (hC:lA P C) {o:cb} {ρ:IX→AV} {H:List aa} {v:AV} (h:nv C o ρ H=some v):df P o ρ H v:=by
 cases o with
 | set i take=>
   cases take with
   | true=>cases h
   | false=>simp only [nv] at h;cases h;rfl
 | pick c a b=>
   simp only [nv] at h
   simp only [df]
   split at h <;> cases h
   ·rename_i e;rw [e];exact ⟨fun _=>rfl,fun e=>by cases e⟩
   ·rename_i e;rw [e];exact ⟨fun e=>(by cases e),fun _=>rfl⟩
 | bin op x y=>exact Hg (φ:=fun z=>z=v) h rfl
 | shift op x y=>exact zd (φ:=fun z=>z=v) h rfl
 | iR op x y=>exact wM (φ:=fun z=>z=v) h rfl
 | jI kd neq x=>exact ze (φ:=fun z=>z=v) h rfl
 | un op x=>exact KB (φ:=fun z=>z=v) h rfl
 | ms x=>
   simp only [nv] at h
   split at h <;> cases h
   rename_i hc
   exact ⟨hc,rfl⟩
 | build z ps=>
   obtain ⟨u,hu,rfl⟩:=tM.1 h
   exact wN (φ:=fun xs=>AV.agg xs=.agg u) rfl hu
 | buildSlice own esz z len ps=>
   obtain ⟨u,hu,rfl⟩:=tM.1 h
   exact qm (φ:=fun xs=>AV.ap own xs=.ap own u) rfl hu
 | load sz a=>exact ou (φ:=fun z=>z=v) h rfl
 | nilCheck x=>exact rG (φ:=fun z=>z=v) h rfl
 | fieldAddr off sz x=>exact pO (φ:=fun z=>z=v) h rfl
 | field off sz x=>exact zg (φ:=fun z=>z=v) h rfl
 | indexAddr esz x i=>
   simp only [nv] at h
   split at h <;> try cases h
   rename_i hl
   exact ⟨wO hl,pP (φ:=fun z=>z=v) h rfl⟩
 | di x i=>exact rE (φ:=fun z=>z=v) h rfl
 | dV n x i=>exact rF (φ:=fun z=>z=v) h rfl
 | slice esz x lo hi m=>exact wQ (φ:=fun z=>z=v) h rfl
 | nR esz bytes n=>exact zh (φ:=fun z=>z=v) h rfl
 | dW x lo hi=>exact rH (φ:=fun z=>z=v) h rfl
 | len kd x=>
   simp only [nv] at h
   split at h <;> try cases h
   rename_i hl
   exact ⟨C0 hl,Hh (φ:=fun z=>z=v) h rfl⟩
 | lookup kd z m k ok=>exact wR (φ:=fun z=>z=v) h rfl
 | fn f first cap=>simp only [nv] at h;cases h;rfl
 | extract x i=>exact uo (φ:=fun z=>z=v) h rfl
 | call f args pass=>
   cases pass with
   | some _=>cases h
   | none=>
     simp only [nv] at h
     simp only [df]
     split at h <;> try cases h
     rename_i g first cap e
     split at h <;> try cases h
     rename_i r H' hr
     split at h <;> cases h
     rename_i hb
     rw [e]
     refine ⟨_,bW _,(Hj hC hr).mono ?_⟩
     rintro r' H'' ⟨rfl,rfl⟩
     exact ⟨rfl,A8 hb⟩
 | eX k x=>exact uq (φ:=fun z=>z=v) h rfl
 | gY x=>exact ur (φ:=fun z=>z=v) h rfl
 | bytesOf x=>exact uv (φ:=fun z=>z=v) h rfl
 | strOf x=>exact zj (φ:=fun z=>z=v) h rfl
 | mx big a b=>exact KC (φ:=fun z=>z=v) h rfl
 | _=>cases h
def A9 (C:iN):List bH→Env→List aa→Option (Env×List aa)
 | [],env,H=>some (env,H)
 | o::r,env,H=>match o.g with
   | none=>match iv C o.op o.dst env H with
     | some (env,H)=>A9 C r env H
     | none=>none
   | some (g,want)=>match get env g with
     | .bool b=>if b=want then (match iv C o.op o.dst ((g,.bool want)::env) H with
        | some (env,H)=>A9 C r env H
        | none=>none) else A9 C r (put o.dst (.tuple []) ((g,.bool (!want))::env)) H
     | .tuple []=>A9 C r (put o.dst (.tuple []) env) H
     | _=>none
theorem sR {P:Program} {C:iN} (hC:lA P C):∀ {l:List bH} {env aH:Env} {H H':List aa} {K:Env→List aa→Prop},A9 C l env H=some (aH,H')→K aH H'→jP P l env H K
 | [],env,aH,H,H',K,h,hK=>by simp only [A9] at h;cases h;exact hK
 | o::r,env,aH,H,H',K,h,hK=>by
   simp only [A9] at h
   simp only [jP,sH]
   cases hg:o.g with
   | none=>
     simp only [hg] at h ⊢
     split at h <;> try cases h
     rename_i e2 H2 h2
     exact KF (K:=fun env H=>jP P r env H K) hC h2 (sR hC h hK)
   | some p=>
     obtain ⟨g,want⟩:=p
     simp only [hg] at h ⊢
     simp only [iU]
     split at h
     rotate_left
     ·rename_i hb
      simp only [hb]
      exact sR hC h hK
     ·cases h
     rename_i b hb
     simp only [hb]
     split at h
     ·rename_i G8
      subst G8
      split at h <;> try cases h
      rename_i e2 H2 h2
      exact ⟨fun _=>KF (K:=fun env H=>jP P r env H K) hC h2 (sR hC h hK),fun e=>by cases b <;> cases e⟩
     ·rename_i G8
      exact ⟨fun e=>absurd e G8,fun _=>sR hC h hK⟩
def dvE (C:iN) (st:Bool) (o:cb) (ρ:IX→AV) (H:List aa):Option AV:=
 match st with
 | true=>nv C o ρ H
 | false=>match o with
   | .load sz i=>(match ρ i with | .ai y=>qj sz (.ai y) [] | _=>none)
   | .call f args none=>(match ρ f with
     | .fn (.func g) first cap=>if aj 0 (first.map AV.ab++(args.map fun x=>(ρ x).ab)++cap.map AV.ab)=true then (match C false g (first.map AV.ab++(args.map fun x=>(ρ x).ab)++cap.map AV.ab) [] with
       | some (r,[])=>some r
       | _=>none) else none
     | _=>none)
   | .call _ _ _=>none
   | .len kd i=>(match ρ i with | .map _=>none | _=>nv C o ρ [])
   | .lookup kd z m k ok=>(match ρ m with | .ju=>nv C o ρ [] | _=>none)
   | o=>nv C o ρ []
theorem KG {x:AV} {H H':List aa} {φ:AV→Prop} (h:eU x H φ) (hm:∀ id,x≠.map id):eU x H' φ:=by
 unfold eU at *
 split at h <;> first | exact h | exact h.elim | exact absurd rfl (hm _)
theorem Q8 {P:Program} {C:iN} (hC:lA P C) {st:Bool} {o:cb} {ρ:IX→AV} {H:List aa} {v:AV} (h:dvE C st o ρ H=some v):dv P st o ρ H v:=by
 cases st with
 | true=>exact vA hC h
 | false=>
   intro H'
   simp only [dvE] at h
   split at h
   ·split at h <;> try cases h
    rename_i sz i y hy
    simp only [df]
    rw [hy]
    have:=ou (φ:=fun z=>z=v) h rfl
    unfold aU at this ⊢
    exact this
   ·rename_i f args
    split at h <;> try cases h
    rename_i g first cap hf
    split at h <;> try cases h
    rename_i hb
    split at h <;> cases h
    rename_i hr
    simp only [df,hf]
    exact ⟨_,bW _,aw.frame (R:=fun r=>r=v) (fun x hx=>(aY 0 _).1 hb x hx) (hC.1 _ _ _ _ _ hr) H'⟩
   ·cases h
   ·rename_i kd i
    split at h
    ·cases h
    ·rename_i dG
     have:=vA hC h
     simp only [df] at this ⊢
     exact ⟨this.1,KG this.2 dG⟩
   ·rename_i kd z m k ok
    split at h <;> try cases h
    rename_i hm
    have:=vA hC h
    simp only [df,hm,cu] at this ⊢
    exact this
   ·rename_i _ h1 h0 h2 h3 h4
    have:=vA hC h
    cases o <;> first | exact this | exact (h1 _ _ rfl).elim | exact (h2 _ _ _ rfl).elim | exact (h3 _ _ rfl).elim | exact (h4 _ _ _ _ _ rfl).elim | (rename_i take;cases take <;> exact this)
def IV:Env→Env→Bool
 | [],[]=>true
 | (a,x)::r,(b,y)::s=>a == b && x.beq y && IV r s
 | _,_=>false
theorem KH:∀ {xs ys:Env},IV xs ys=true→xs=ys
 | [],[],_=>rfl
 | (a,x)::r,(b,y)::s,h=>by
   simp only [IV,Sr,beq_iff_eq] at h
   rw [h.1.1,AV.rI h.1.2,KH h.2]
 | [],_::_,h=>by simp [IV] at h
 | _::_,[],h=>by simp [IV] at h
def Oh (C:iN) (o:bH) (env:Env) (H:List aa):Option (Env×List aa):=A9 C [o] env H
theorem KI {P:Program} {C:iN} (hC:lA P C) {o:bH} {env aH:Env} {H H':List aa} {K:Env→List aa→Prop} (h:Oh C o env H=some (aH,H')) (hK:K aH H'):sH P o env H K:=sR hC h hK
def KJ (C:iN) (st:Bool) (o:bH) (env:Env) (H:List aa):Option Env:=
 match o.g with
 | none=>match dvE C st o.op (aq env) H with
   | some x=>some (put o.dst x env)
   | none=>none
 | some (g,want)=>match get env g with
   | .bool b=>if b=want then (match dvE C st o.op (aq env) H with
      | some x=>some (put o.dst x env)
      | none=>none) else some (put o.dst (.tuple []) env)
   | .tuple []=>some (put o.dst (.tuple []) env)
   | _=>none
theorem Oi {P:Program} {C:iN} (hC:lA P C) {st:Bool} {o:bH} {env aH:Env} {H:List aa} {K:Env→Prop} (h:KJ C st o env H=some aH) (hK:K aH):ud P st o env H K:=by
 unfold KJ at h
 unfold ud
 cases hg:o.g with
 | none=>
   simp only [hg] at h ⊢
   split at h <;> cases h
   rename_i x hx
   exact ⟨x,Q8 hC hx,hK⟩
 | some p=>
   obtain ⟨g,want⟩:=p
   simp only [hg] at h ⊢
   simp only [iU]
   split at h
   rotate_left
   ·rename_i hb
    simp only [hb]
    cases h
    exact hK
   ·cases h
   rename_i b hb
   simp only [hb]
   split at h
   ·rename_i G8
    subst G8
    split at h <;> cases h
    rename_i x hx
    exact ⟨fun _=>⟨x,Q8 hC hx,hK⟩,fun e=>by cases b <;> cases e⟩
   ·rename_i G8
    cases h
    exact ⟨fun e=>absurd e G8,fun _=>hK⟩
abbrev yu:=List (Env×List aa)
def Oj (x:Env×List aa):yu→Bool
 | []=>false
 | y::r=>match IV x.1 y.1 && C3 x.2 y.2 with | true=>true | false=>Oj x r
def qn (l:yu):yu→yu
 | []=>l
 | x::r=>match Oj x l with | true=>qn l r | false=>x::qn l r
theorem KK {x:Env×List aa}:∀ {l:yu},Oj x l=true→x∈l
 | [],h=>by cases h
 | y::r,h=>by
   unfold Oj at h
   split at h
   ·rename_i e
    simp only [Sr] at e
    have e1:=KH e.1
    have e2:=A8 e.2
    have:x=y:=by cases x;cases y;simp only at e1 e2;rw [e1,e2]
    rw [this];exact aaB
   ·exact aay _ (KK h)
theorem C4 {l:yu}:∀ {m:yu},(∀ x∈l,x∈qn l m)∧∀ x∈m,x∈qn l m
 | []=>⟨fun x h=>h,fun x h=>by cases h⟩
 | y::r=>by
   obtain ⟨h1,h2⟩:=C4 (l:=l) (m:=r)
   unfold qn
   split
   ·rename_i e
    refine ⟨h1,fun x hx=>?_⟩
    rcases aan.1 hx with rfl | hx
    ·exact h1 _ (KK e)
    ·exact h2 x hx
   ·refine ⟨fun x hx=>aay _ (h1 x hx),fun x hx=>?_⟩
    rcases aan.1 hx with rfl | hx
    ·exact aaB
    ·exact aay _ (h2 x hx)
def EH (C:iN) (live:Option (List Nat)):DT→Env→List aa→Option yu
 | .done,env,H=>some [(eM live env,H)]
 | .take st o r,env,H=>match KJ C st o env H with
   | some aH=>EH C live r aH H
   | none=>none
 | .br o t .nil,env,H=>match Oh C o env H with
   | some (aH,H')=>EH C live t aH H'
   | none=>none
 | .br o t rest,env,H=>match Oh C o env H with
   | some (aH,H')=>match EH C live t aH H',EH C live rest env H with
     | some l1,some l2=>some (qn l1 l2)
     | _,_=>none
   | none=>none
 | .nil,_,_=>none
theorem WJ {P:Program} {C:iN} (hC:lA P C) {live:Option (List Nat)}:∀ {t:DT} {env:Env} {H:List aa} {l:yu} {K:Env→List aa→Prop},EH C live t env H=some l→(∀ o∈l,K o.1 o.2)→vr P t env H fun e H=>K (eM live e) H:=by
 intro t
 induction t with
 | done=>intro env H l K h hK;simp only [EH] at h;cases h;exact hK _ aaB
 | nil=>intro env H l K h hK;simp [EH] at h
 | take st o r ih=>
   intro env H l K h hK
   simp only [EH] at h
   split at h <;> try cases h
   rename_i e2 he
   exact Oi (K:=fun env=>vr P r env H fun e H=>K (eM live e) H) hC he (ih h hK)
 | br o t rest Kv JV=>
   intro env H l K h hK
   have key:∀ rest',(∀ {env:Env} {H:List aa} {l:yu} {K:Env→List aa→Prop},EH C live rest' env H=some l→(∀ o∈l,K o.1 o.2)→vr P rest' env H fun e H=>K (eM live e) H)→rest'=rest→
    ((match Oh C o env H with
    | some (aH,H')=>match EH C live t aH H',EH C live rest' env H with
      | some l1,some l2=>some (qn l1 l2)
      | _,_=>none
    | none=>none)=some l)→vr P (.br o t rest') env H fun e H=>K (eM live e) H:=by
    intro rest' ihr' _ h
    split at h <;> try cases h
    rename_i e2 H2 h2
    split at h <;> try cases h
    rename_i l1 l2 h3 h4
    obtain ⟨u1,u2⟩:=C4 (l:=l1) (m:=l2)
    exact ⟨KI (K:=fun env H=>vr P t env H fun e H=>K (eM live e) H) hC h2 (Kv h3 fun o ho=>hK o (u1 o ho)),ihr' h4 fun o ho=>hK o (u2 o ho)⟩
   cases rest with
   | nil=>
     simp only [EH] at h
     split at h <;> try cases h
     rename_i e2 H2 h2
     exact ⟨KI (K:=fun env H=>vr P t env H fun e H=>K (eM live e) H) hC h2 (Kv h hK),trivial⟩
   | done=>exact key _ (fun h hK=>JV h hK) rfl (by simpa only [EH] using h)
   | take st o' r=>exact key _ (fun h hK=>JV h hK) rfl (by simpa only [EH] using h)
   | br o' t' r=>exact key _ (fun h hK=>JV h hK) rfl (by simpa only [EH] using h)
end Go.aI
