/- A memory-free reading of the model's values (part 20): code that is run. -/
import Derived.Test.YtljchnfgjdjobaaGreatVad
set_option linter.unusedVariables false
set_option linter.unusedSimpArgs false
set_option linter.defProp false
set_option linter.unusedSectionVars false
namespace Go.aL
open Go
def SP:Fn→Fn→Bool
 | .func a,.func b=>a == b
 | _,_=>false
mutual
def AV.beq:AV→AV→Bool
 | .any,.any=>true
 | .bool a,.bool b=>a == b
 | .int k a,.int l b=>decide (k=l) && decide (a=b)
 | .str a,.str b=>decide (a=b)
 | .ah,.ah=>true
 | .al o xs,.al p ys=>decide (o=p) && wo xs ys
 | .bc a b c d,.bc e f g h=>decide (a=e) && decide (b=f) && decide (c=g) && decide (d=h)
 | .agg xs,.agg ys=>wo xs ys
 | .tuple xs,.tuple ys=>wo xs ys
 | .ptr a b,.ptr c d=>decide (a=c) && decide (b=d)
 | .ai x,.ai y=>x.beq y
 | .sd,.sd=>true
 | .map a,.map b=>decide (a=b)
 | .jd,.jd=>true
 | .fn f xs ys,.fn g us vs=>SP f g && wo xs us && wo ys vs
 | .fQ,.fQ=>true
 | .iface t x,.iface u y=>decide (t=u) && x.beq y
 | .xL,.xL=>true
 | _,_=>false
def wo:List AV→List AV→Bool
 | [],[]=>true
 | x::xs,y::ys=>x.beq y && wo xs ys
 | _,_=>false
end
theorem SQ {f g:Fn} (h:SP f g=true):f=g:=by
 unfold SP at h
 split at h
 ·simp at h;rw [h]
 ·cases h
mutual
theorem AV.rb:∀ {x y:AV},x.beq y=true→x=y:=by
 intro x y h
 cases x <;> cases y <;> simp only [AV.beq,Bool.and_eq_true,decide_eq_true_eq,Bool.false_eq_true,beq_iff_eq] at h <;> first
  | rfl
  | (subst h;rfl)
  | (obtain ⟨rfl,rfl⟩:=h;rfl)
  | (obtain ⟨⟨⟨rfl,rfl⟩,rfl⟩,rfl⟩:=h;rfl)
  | (rw [sF h])
  | (rw [AV.rb h])
  | (obtain ⟨rfl,h⟩:=h;rw [sF h])
  | (obtain ⟨rfl,h⟩:=h;rw [AV.rb h])
  | (obtain ⟨⟨h1,h2⟩,h3⟩:=h;rw [SQ h1,sF h2,sF h3])
theorem sF:∀ {xs ys:List AV},wo xs ys=true→xs=ys
 | [],[],_=>rfl
 | x::xs,y::ys,h=>by
   simp only [wo,Bool.and_eq_true] at h
   rw [AV.rb h.1,sF h.2]
 | [],_::_,h=>by simp [wo] at h
 | _::_,[],h=>by simp [wo] at h
end
def Iz:List (AV×AV)→List (AV×AV)→Bool
 | [],[]=>true
 | (a,b)::xs,(c,d)::ys=>a.beq c && b.beq d && Iz xs ys
 | _,_=>false
theorem Ks:∀ {xs ys:List (AV×AV)},Iz xs ys=true→xs=ys
 | [],[],_=>rfl
 | (a,b)::xs,(c,d)::ys,h=>by
   simp only [Iz,Bool.and_eq_true] at h
   rw [AV.rb h.1.1,AV.rb h.1.2,Ks h.2]
 | [],_::_,h=>by simp [Iz] at h
 | _::_,[],h=>by simp [Iz] at h
def aa.beq:aa→aa→Bool
 | .dead,.dead=>true
 | .cells a,.cells b=>wo a b
 | .map a,.map b=>Iz a b
 | _,_=>false
theorem aa.rb {x y:aa} (h:x.beq y=true):x=y:=by
 unfold aa.beq at h
 split at h
 ·rfl
 ·rw [sF h]
 ·rw [Ks h]
 ·cases h
def CV:List aa→List aa→Bool
 | [],[]=>true
 | x::xs,y::ys=>x.beq y && CV xs ys
 | _,_=>false
theorem AS:∀ {xs ys:List aa},CV xs ys=true→xs=ys
 | [],[],_=>rfl
 | x::xs,y::ys,h=>by
   simp only [CV,Bool.and_eq_true] at h
   rw [aa.rb h.1,AS h.2]
 | [],_::_,h=>by simp [CV] at h
 | _::_,[],h=>by simp [CV] at h
abbrev iv:=Bool→Nat→List AV→List aa→Option (AV×List aa)
def GW (C:iv) (g:Nat) (args:List AV) (H:List aa):Option (AV×List aa):=
 match aj 0 args with
 | true=>match C false g args [] with
   | some (r,[])=>some (r,H)
   | _=>C false g args H
 | false=>C false g args H
def eu (H:List aa) (dst:Option Nat) (env:Env) (z:Option AV):Option (Env×List aa):=match z with | some z=>some (put dst z env,H) | none=>none
def ig (C:iv) (o:ca) (dst:Option Nat) (env:Env) (H:List aa):Option (Env×List aa):=
 match o with
 | .set x take=>match dst with | some d=>some (si env d x take,H) | none=>some (env,H)
 | .pick c a b=>match ap env c with
   | .bool true=>some (put dst (ap env a).ab env,H)
   | .bool false=>some (put dst (ap env b).ab env,H)
   | _=>none
 | .bin op x y=>eu H dst env (GR op (ap env x) (ap env y))
 | .shift op x y=>eu H dst env (uN op (ap env x) (ap env y))
 | .iC neq x y=>eu H dst env (qT neq (ap env x) (ap env y))
 | .jw kd neq x=>eu H dst env (uO kd neq (ap env x))
 | .un op x=>eu H dst env (N5 op (ap env x))
 | .box x=>if (ap env x).val=true∧aj (H.length + 1) ((ap env x).cells.map AV.ab)=true then some (put dst (.ptr H.length 0) env,H++[.cells ((ap env x).cells.map AV.ab)]) else none
 | .l7 x=>if (ap env x).val=true then some (put dst (.ai (ap env x)) env,H) else none
 | .sg m x=>if (ap env x).val=true∧(ap env x).cells.length=m∧(ap env x).cells.all AV.one=true then some (put dst (.ai (ap env x)) env,H) else none
 | .alloc z=>if aj (H.length + 1) (z.cells.map AV.ab)=true then some (put dst (.ptr H.length 0) env,H++[.cells (z.cells.map AV.ab)]) else none
 | .build z ps=>eu H dst env ((sD z.cells (ps.map fun q=>(q.1,q.2.1,ap env q.2.2))).map .agg)
 | .buildSlice own esz z len ps=>eu H dst env ((lF (List.replicate len (aT z)) esz (ps.map fun q=>(q.1,ap env q.2))).map (.al own))
 | .load sz a=>eu H dst env (pU sz (ap env a) H)
 | .eH a=>match dst,ap env a with
   | some d,.ptr id off=>match H[id]? with
     | some (.cells es)=>if off < es.length then some ((d,es.getD off .any)::env,H.set id (.cells (es.set off (es.getD off .any).ab))) else none
     | _=>none
   | _,_=>none
 | .store m a x=>match AO m (ap env a) (ap env x) H with | some H'=>some (env,H') | none=>none
 | .nJ _ _ _=>none
 | .tw sz esz a=>match pU sz (ap env a) H with
   | some z=>match AR esz z H with
     | some (v,H')=>some (put dst v env,H')
     | none=>none
   | none=>none
 | .fw a s=>match sE (ap env a) (get env s) H with | some H'=>some ((s,(get env s).ab)::env,H') | none=>none
 | .nilCheck x=>eu H dst env (mC (ap env x))
 | .fieldAddr off sz x=>eu H dst env (kI off sz (ap env x))
 | .field off sz x=>eu H dst env (uP off sz (ap env x))
 | .indexAddr esz x i=>if v9 esz (ap env x)=true then eu H dst env (kJ esz (ap env x) (ap env i)) else none
 | .di x i=>eu H dst env (mB (ap env x) (ap env i))
 | .dX n x i=>eu H dst env (mA n (ap env x) (ap env i))
 | .slice esz x lo hi m=>eu H dst env (qV esz (ap env x) (gR env lo) (gR env hi) (gR env m))
 | .dY x lo hi=>eu H dst env (mE (ap env x) (gR env lo) (gR env hi))
 | .len kd x=>if AN kd (ap env x)=true then eu H dst env (GS (ap env x) H) else none
 | .append esz bytes s x=>match wa esz bytes (ap env s) (ap env x) with | some zs=>some (put dst (.al esz zs) (cQ env s.slot),H) | none=>none
 | .tx esz bytes z n=>match AP bytes z (ap env n) H with | some (v,H')=>some (put dst v env,H') | none=>none
 | .nK esz bytes n=>eu H dst env (uQ esz bytes (ap env n))
 | .nL=>some (put dst (.map H.length) env,H++[.map []])
 | .Cc ..=>none
 | .jB ..=>none
 | .nM ..=>none
 | .pJ ..=>none
 | .lookup kd z m k ok=>eu H dst env (qW kd z (ap env m) (ap env k) ok H)
 | .kP kd m k x=>match wc kd (ap env m) (ap env k) (ap env x) H with | some H'=>some (env,H') | none=>none
 | .fn f first cap=>some (put dst (.fn f (first.map fun x=>(ap env x).ab) (cap.map fun x=>(ap env x).ab)) env,H)
 | .extract x i=>eu H dst env (oP (ap env x) i)
 | .call f args pass=>match ap env f with
   | .fn (.func g) first cap=>match GW C g (first.map AV.ab++aI env pass 0 args++cap.map AV.ab) H with
     | some (r,H')=>some (put dst r (cQ env (bh args pass)),H')
     | none=>none
   | .nH id=>match C true id (aI env pass 0 args) H with
     | some (r,H')=>some (put dst r (cQ env (bh args pass)),H')
     | none=>none
   | _=>none
 | .eU k x=>eu H dst env (oQ k (ap env x))
 | .gN x=>eu H dst env (oR (ap env x))
 | .bytesOf x=>eu H dst env (oS 1 (ap env x))
 | .strOf x=>eu H dst env (uR (ap env x))
 | .mx big a b=>eu H dst env (N6 big (ap env a) (ap env b))
 | .copy esz d s=>match E9 esz (ap env d) (ap env s) H with | some (v,H')=>some (put dst v env,H') | none=>none
 | .Ae esz x=>match pV esz (ap env x) H with | some (v,H')=>some (put dst v env,H') | none=>none
 | .never=>none
def k7 (P:Program) (C:iv):Prop:=(∀ g args H r H',C false g args H=some (r,H')→aq P g args H fun r' H''=>r'=r∧H''=H')∧
 ∀ id args H r H',C true id args H=some (r,H')→jZ P id args H fun r' H''=>r'=r∧H''=H'
theorem GX {P:Program} {C:iv} (hC:k7 P C) {g:Nat} {args:List AV} {H H':List aa} {r:AV} (h:GW C g args H=some (r,H')):aq P g args H fun r' H''=>r'=r∧H''=H':=by
 unfold GW at h
 split at h
 ·rename_i hb
  split at h
  ·rename_i hr
   cases h
   exact aq.frame (R:=fun r'=>r'=r) (fun x hx=>(a8 0 _).1 hb x hx) (hC.1 _ _ _ _ _ hr) H
  ·exact hC.1 _ _ _ _ _ h
 ·exact hC.1 _ _ _ _ _ h
theorem b8:∀ xs,xY xs xs
 | []=>trivial
 | x::xs=>⟨le_refl _,b8 xs⟩
theorem bf {H H':List aa} {dst:Option Nat} {env aG:Env} {z:Option AV} (h:eu H dst env z=some (aG,H')):∃ v,z=some v∧aG=put dst v env∧H'=H:=by
 unfold eu at h
 split at h <;> cases h
 exact ⟨_,rfl,rfl,rfl⟩
theorem Kt {P:Program} {C:iv} (hC:k7 P C) {o:ca} {dst:Option Nat} {env aG:Env} {H H':List aa} {K:Env→List aa→Prop} (h:ig C o dst env H=some (aG,H')) (hK:K aG H'):bA P o dst env H K:=by
 cases o with
 | set x take=>
   simp only [ig] at h
   simp only [bA]
   split at h <;> cases h <;> exact hK
 | pick c a b=>
   simp only [ig] at h
   simp only [bA]
   split at h <;> cases h
   ·rename_i e;rw [e];exact ⟨fun _=>hK,fun e=>by cases e⟩
   ·rename_i e;rw [e];exact ⟨fun e=>(by cases e),fun _=>hK⟩
 | bin op x y=>obtain ⟨v,hv,rfl,rfl⟩:=bf h;exact GU (φ:=fun z=>K (put dst z env) _) hv hK
 | shift op x y=>obtain ⟨v,hv,rfl,rfl⟩:=bf h;exact yR (φ:=fun z=>K (put dst z env) _) hv hK
 | iC op x y=>obtain ⟨v,hv,rfl,rfl⟩:=bf h;exact we (φ:=fun z=>K (put dst z env) _) hv hK
 | jw kd neq x=>obtain ⟨v,hv,rfl,rfl⟩:=bf h;exact yS (φ:=fun z=>K (put dst z env) _) hv hK
 | un op x=>obtain ⟨v,hv,rfl,rfl⟩:=bf h;exact Kp (φ:=fun z=>K (put dst z env) _) hv hK
 | box x=>
   simp only [ig] at h
   split at h <;> cases h
   rename_i hc
   exact ⟨hc.1,hc.2,hK⟩
 | l7 x=>
   simp only [ig] at h
   split at h <;> cases h
   rename_i hc
   exact ⟨hc,hK⟩
 | sg m x=>
   simp only [ig] at h
   split at h <;> cases h
   rename_i hc
   exact ⟨hc.1,hc.2.1,hc.2.2,hK⟩
 | alloc z=>
   simp only [ig] at h
   split at h <;> cases h
   rename_i hc
   exact ⟨hc,hK⟩
 | build z ps=>
   obtain ⟨v,hv,rfl,rfl⟩:=bf h
   obtain ⟨u,hu,rfl⟩:=Option.map_eq_some_iff.1 hv
   exact wg (φ:=fun xs=>K (put dst (.agg xs) env) H') hK hu
 | buildSlice own esz z len ps=>
   obtain ⟨v,hv,rfl,rfl⟩:=bf h
   obtain ⟨u,hu,rfl⟩:=Option.map_eq_some_iff.1 hv
   exact pW (φ:=fun xs=>K (put dst (.al own xs) env) H') hK hu
 | load sz a=>obtain ⟨v,hv,rfl,rfl⟩:=bf h;exact n9 (φ:=fun z=>K (put dst z env) _) hv hK
 | eH a=>
   simp only [ig] at h
   simp only [bA]
   split at h <;> try cases h
   rename_i e
   simp only [e]
   split at h <;> try cases h
   rename_i bp
   simp only [bp]
   split at h <;> cases h
   exact ⟨by assumption,hK⟩
 | store m a x=>
   simp only [ig] at h
   split at h <;> cases h
   rename_i hs
   exact Iu hs hK
 | fw a s=>
   simp only [ig] at h
   split at h <;> cases h
   rename_i hs
   exact CR hs hK
 | nilCheck x=>obtain ⟨v,hv,rfl,rfl⟩:=bf h;exact qZ (φ:=fun z=>K (put dst z env) _) hv hK
 | fieldAddr off sz x=>obtain ⟨v,hv,rfl,rfl⟩:=bf h;exact px (φ:=fun z=>K (put dst z env) _) hv hK
 | field off sz x=>obtain ⟨v,hv,rfl,rfl⟩:=bf h;exact yT (φ:=fun z=>K (put dst z env) _) hv hK
 | indexAddr esz x i=>
   simp only [ig] at h
   split at h <;> try cases h
   rename_i hl
   obtain ⟨v,hv,rfl,rfl⟩:=bf h
   exact ⟨wh hl,py (φ:=fun z=>K (put dst z env) _) hv hK⟩
 | di x i=>obtain ⟨v,hv,rfl,rfl⟩:=bf h;exact qX (φ:=fun z=>K (put dst z env) _) hv hK
 | dX n x i=>obtain ⟨v,hv,rfl,rfl⟩:=bf h;exact qY (φ:=fun z=>K (put dst z env) _) hv hK
 | slice esz x lo hi m=>obtain ⟨v,hv,rfl,rfl⟩:=bf h;exact wj (φ:=fun z=>K (put dst z env) _) hv hK
 | dY x lo hi=>obtain ⟨v,hv,rfl,rfl⟩:=bf h;exact ra (φ:=fun z=>K (put dst z env) _) hv hK
 | len kd x=>
   simp only [ig] at h
   split at h <;> try cases h
   rename_i hl
   obtain ⟨v,hv,rfl,rfl⟩:=bf h
   exact ⟨CQ hl,GV (φ:=fun z=>K (put dst z env) _) hv hK⟩
 | append esz bytes s x=>
   simp only [ig] at h
   split at h <;> cases h
   rename_i hs
   exact Fa (φ:=fun zs=>K (put dst (.al esz zs) (cQ env s.slot)) _) hs hK
 | tx esz bytes z n=>
   simp only [ig] at h
   split at h <;> cases h
   rename_i hs
   exact Iv (esz:=esz) (K:=fun v H'=>K (put dst v env) H') hs hK
 | nK esz bytes n=>obtain ⟨v,hv,rfl,rfl⟩:=bf h;exact yU (φ:=fun z=>K (put dst z env) _) hv hK
 | nL=>simp only [ig] at h;cases h;exact hK
 | nJ m a x=>simp only [ig] at h;cases h
 | tw sz esz a=>
   simp only [ig] at h
   split at h <;> try cases h
   rename_i z hz
   split at h <;> cases h
   rename_i v H2 hs
   exact n9 (φ:=fun z=>fF esz z H fun y H'=>K (put dst y env) H') hz (Iy (K:=fun v H'=>K (put dst v env) H') hs hK)
 | Cc esz z len ps=>simp only [ig] at h;cases h
 | jB esz bytes z s x=>simp only [ig] at h;cases h
 | nM esz z x=>simp only [ig] at h;cases h
 | pJ esz x lo hi mx=>simp only [ig] at h;cases h
 | lookup kd z m k ok=>obtain ⟨v,hv,rfl,rfl⟩:=bf h;exact wm (φ:=fun z=>K (put dst z env) _) hv hK
 | kP kd m k x=>
   simp only [ig] at h
   split at h <;> cases h
   rename_i hs
   exact Fb hs hK
 | fn f first cap=>simp only [ig] at h;cases h;exact hK
 | extract x i=>obtain ⟨v,hv,rfl,rfl⟩:=bf h;exact tV (φ:=fun z=>K (put dst z env) _) hv hK
 | call f args pass=>
   simp only [ig] at h
   simp only [bA,pq]
   split at h <;> try cases h
   ·rename_i g first cap e
    split at h <;> cases h
    rename_i r hr
    rw [e]
    refine ⟨_,b8 _,ej.of <| (GX hC hr).mono ?_⟩
    rintro r' H'' ⟨rfl,rfl⟩
    exact hK
   ·rename_i id e
    split at h <;> cases h
    rename_i r hr
    rw [e]
    refine ⟨_,b8 _,fD.mono (hC.2 _ _ _ _ _ hr) ?_⟩
    rintro r' H'' ⟨rfl,rfl⟩
    exact hK
 | eU k x=>obtain ⟨v,hv,rfl,rfl⟩:=bf h;exact tW (φ:=fun z=>K (put dst z env) _) hv hK
 | gN x=>obtain ⟨v,hv,rfl,rfl⟩:=bf h;exact tX (φ:=fun z=>K (put dst z env) _) hv hK
 | bytesOf x=>obtain ⟨v,hv,rfl,rfl⟩:=bf h;exact tY (φ:=fun z=>K (put dst z env) _) hv hK
 | strOf x=>obtain ⟨v,hv,rfl,rfl⟩:=bf h;exact yW (φ:=fun z=>K (put dst z env) _) hv hK
 | mx big a b=>obtain ⟨v,hv,rfl,rfl⟩:=bf h;exact Kq (φ:=fun z=>K (put dst z env) _) hv hK
 | copy esz d s=>
   simp only [ig] at h
   split at h <;> cases h
   rename_i hs
   exact Kr (K:=fun v H'=>K (put dst v env) H') hs hK
 | Ae esz x=>
   simp only [ig] at h
   split at h <;> cases h
   rename_i hs
   exact wi (K:=fun v H'=>K (put dst v env) H') hs hK
 | never=>cases h
def ni (C:iv) (o:ca) (ρ:IX→AV) (H:List aa):Option AV:=
 match o with
 | .set i false=>some (ρ i).ab
 | .pick c a b=>match ρ c with | .bool true=>some (ρ a).ab | .bool false=>some (ρ b).ab | _=>none
 | .bin op i j=>GR op (ρ i) (ρ j)
 | .shift op i j=>uN op (ρ i) (ρ j)
 | .iC neq i j=>qT neq (ρ i) (ρ j)
 | .jw kd neq i=>uO kd neq (ρ i)
 | .un op i=>N5 op (ρ i)
 | .l7 i=>if (ρ i).val=true then some (.ai (ρ i)) else none
 | .build z ps=>(sD z.cells (ps.map fun q=>(q.1,q.2.1,ρ q.2.2))).map .agg
 | .buildSlice own esz z len ps=>(lF (List.replicate len (aT z)) esz (ps.map fun q=>(q.1,ρ q.2))).map (.al own)
 | .load sz i=>pU sz (ρ i) H
 | .nilCheck i=>mC (ρ i)
 | .fieldAddr off sz i=>kI off sz (ρ i)
 | .field off sz i=>uP off sz (ρ i)
 | .indexAddr esz i j=>if v9 esz (ρ i)=true then kJ esz (ρ i) (ρ j) else none
 | .di i j=>mB (ρ i) (ρ j)
 | .dX n i j=>mA n (ρ i) (ρ j)
 | .slice esz i lo hi m=>qV esz (ρ i) (lo.map ρ) (hi.map ρ) (m.map ρ)
 | .dY i lo hi=>mE (ρ i) (lo.map ρ) (hi.map ρ)
 | .len kd i=>if AN kd (ρ i)=true then GS (ρ i) H else none
 | .lookup kd z m k ok=>qW kd z (ρ m) (ρ k) ok H
 | .fn f first cap=>some (.fn f (first.map fun x=>(ρ x).ab) (cap.map fun x=>(ρ x).ab))
 | .extract i k=>oP (ρ i) k
 | .call f args none=>match ρ f with
   | .fn (.func g) first cap=>match GW C g (first.map AV.ab++(args.map fun x=>(ρ x).ab)++cap.map AV.ab) H with
     | some (r,H')=>if CV H' H=true then some r else none
     | none=>none
   | _=>none
 | .eU k i=>oQ k (ρ i)
 | .gN i=>oR (ρ i)
 | .bytesOf i=>oS 1 (ρ i)
 | .nK esz bytes i=>uQ esz bytes (ρ i)
 | .strOf i=>uR (ρ i)
 | .mx big i j=>N6 big (ρ i) (ρ j)
 | _=>none
theorem uS {P:Program} {C:iv} (hC:k7 P C) {o:ca} {ρ:IX→AV} {H:List aa} {v:AV} (h:ni C o ρ H=some v):db P o ρ H v:=by
 cases o with
 | set i take=>
   cases take with
   | true=>cases h
   | false=>simp only [ni] at h;cases h;rfl
 | pick c a b=>
   simp only [ni] at h
   simp only [db]
   split at h <;> cases h
   ·rename_i e;rw [e];exact ⟨fun _=>rfl,fun e=>by cases e⟩
   ·rename_i e;rw [e];exact ⟨fun e=>(by cases e),fun _=>rfl⟩
 | bin op x y=>exact GU (φ:=fun z=>z=v) h rfl
 | shift op x y=>exact yR (φ:=fun z=>z=v) h rfl
 | iC op x y=>exact we (φ:=fun z=>z=v) h rfl
 | jw kd neq x=>exact yS (φ:=fun z=>z=v) h rfl
 | un op x=>exact Kp (φ:=fun z=>z=v) h rfl
 | l7 x=>
   simp only [ni] at h
   split at h <;> cases h
   rename_i hc
   exact ⟨hc,rfl⟩
 | build z ps=>
   obtain ⟨u,hu,rfl⟩:=Option.map_eq_some_iff.1 h
   exact wg (φ:=fun xs=>AV.agg xs=.agg u) rfl hu
 | buildSlice own esz z len ps=>
   obtain ⟨u,hu,rfl⟩:=Option.map_eq_some_iff.1 h
   exact pW (φ:=fun xs=>AV.al own xs=.al own u) rfl hu
 | load sz a=>exact n9 (φ:=fun z=>z=v) h rfl
 | nilCheck x=>exact qZ (φ:=fun z=>z=v) h rfl
 | fieldAddr off sz x=>exact px (φ:=fun z=>z=v) h rfl
 | field off sz x=>exact yT (φ:=fun z=>z=v) h rfl
 | indexAddr esz x i=>
   simp only [ni] at h
   split at h <;> try cases h
   rename_i hl
   exact ⟨wh hl,py (φ:=fun z=>z=v) h rfl⟩
 | di x i=>exact qX (φ:=fun z=>z=v) h rfl
 | dX n x i=>exact qY (φ:=fun z=>z=v) h rfl
 | slice esz x lo hi m=>exact wj (φ:=fun z=>z=v) h rfl
 | nK esz bytes n=>exact yU (φ:=fun z=>z=v) h rfl
 | dY x lo hi=>exact ra (φ:=fun z=>z=v) h rfl
 | len kd x=>
   simp only [ni] at h
   split at h <;> try cases h
   rename_i hl
   exact ⟨CQ hl,GV (φ:=fun z=>z=v) h rfl⟩
 | lookup kd z m k ok=>exact wm (φ:=fun z=>z=v) h rfl
 | fn f first cap=>simp only [ni] at h;cases h;rfl
 | extract x i=>exact tV (φ:=fun z=>z=v) h rfl
 | call f args pass=>
   cases pass with
   | some _=>cases h
   | none=>
     simp only [ni] at h
     simp only [db]
     split at h <;> try cases h
     rename_i g first cap e
     split at h <;> try cases h
     rename_i r H' hr
     split at h <;> cases h
     rename_i hb
     rw [e]
     refine ⟨_,b8 _,(GX hC hr).mono ?_⟩
     rintro r' H'' ⟨rfl,rfl⟩
     exact ⟨rfl,AS hb⟩
 | eU k x=>exact tW (φ:=fun z=>z=v) h rfl
 | gN x=>exact tX (φ:=fun z=>z=v) h rfl
 | bytesOf x=>exact tY (φ:=fun z=>z=v) h rfl
 | strOf x=>exact yW (φ:=fun z=>z=v) h rfl
 | mx big a b=>exact Kq (φ:=fun z=>z=v) h rfl
 | _=>cases h
def AT (C:iv):List bB→Env→List aa→Option (Env×List aa)
 | [],env,H=>some (env,H)
 | o::r,env,H=>match o.g with
   | none=>match ig C o.op o.dst env H with
     | some (env,H)=>AT C r env H
     | none=>none
   | some (g,want)=>match get env g with
     | .bool b=>if b=want then (match ig C o.op o.dst ((g,.bool want)::env) H with
        | some (env,H)=>AT C r env H
        | none=>none) else AT C r (put o.dst (.tuple []) ((g,.bool (!want))::env)) H
     | .tuple []=>AT C r (put o.dst (.tuple []) env) H
     | _=>none
theorem sG {P:Program} {C:iv} (hC:k7 P C):∀ {l:List bB} {env aG:Env} {H H':List aa} {K:Env→List aa→Prop},AT C l env H=some (aG,H')→K aG H'→jl P l env H K
 | [],env,aG,H,H',K,h,hK=>by simp only [AT] at h;cases h;exact hK
 | o::r,env,aG,H,H',K,h,hK=>by
   simp only [AT] at h
   simp only [jl,rZ]
   cases hg:o.g with
   | none=>
     simp only [hg] at h ⊢
     split at h <;> try cases h
     rename_i e2 H2 h2
     exact Kt (K:=fun env H=>jl P r env H K) hC h2 (sG hC h hK)
   | some p=>
     obtain ⟨g,want⟩:=p
     simp only [hg] at h ⊢
     simp only [iF]
     split at h
     rotate_left
     ·rename_i hb
      simp only [hb]
      exact sG hC h hK
     ·cases h
     rename_i b hb
     simp only [hb]
     split at h
     ·rename_i GL
      subst GL
      split at h <;> try cases h
      rename_i e2 H2 h2
      exact ⟨fun _=>Kt (K:=fun env H=>jl P r env H K) hC h2 (sG hC h hK),fun e=>by cases b <;> cases e⟩
     ·rename_i GL
      exact ⟨fun e=>absurd e GL,fun _=>sG hC h hK⟩
def dvE (C:iv) (st:Bool) (o:ca) (ρ:IX→AV) (H:List aa):Option AV:=
 match st with
 | true=>ni C o ρ H
 | false=>match o with
   | .load sz i=>(match ρ i with | .ai y=>pU sz (.ai y) [] | _=>none)
   | .call f args none=>(match ρ f with
     | .fn (.func g) first cap=>if aj 0 (first.map AV.ab++(args.map fun x=>(ρ x).ab)++cap.map AV.ab)=true then (match C false g (first.map AV.ab++(args.map fun x=>(ρ x).ab)++cap.map AV.ab) [] with
       | some (r,[])=>some r
       | _=>none) else none
     | _=>none)
   | .call _ _ _=>none
   | .len kd i=>(match ρ i with | .map _=>none | _=>ni C o ρ [])
   | .lookup kd z m k ok=>(match ρ m with | .jd=>ni C o ρ [] | _=>none)
   | o=>ni C o ρ []
theorem Ku {x:AV} {H H':List aa} {φ:AV→Prop} (h:fx x H φ) (hm:∀ id,x≠.map id):fx x H' φ:=by
 unfold fx at *
 split at h <;> first | exact h | exact h.elim | exact absurd rfl (hm _)
theorem Q4 {P:Program} {C:iv} (hC:k7 P C) {st:Bool} {o:ca} {ρ:IX→AV} {H:List aa} {v:AV} (h:dvE C st o ρ H=some v):dv P st o ρ H v:=by
 cases st with
 | true=>exact uS hC h
 | false=>
   intro H'
   simp only [dvE] at h
   split at h
   ·split at h <;> try cases h
    rename_i sz i y hy
    simp only [db]
    rw [hy]
    have:=n9 (φ:=fun z=>z=v) h rfl
    unfold aQ at this ⊢
    exact this
   ·rename_i f args
    split at h <;> try cases h
    rename_i g first cap hf
    split at h <;> try cases h
    rename_i hb
    split at h <;> cases h
    rename_i hr
    simp only [db,hf]
    exact ⟨_,b8 _,aq.frame (R:=fun r=>r=v) (fun x hx=>(a8 0 _).1 hb x hx) (hC.1 _ _ _ _ _ hr) H'⟩
   ·cases h
   ·rename_i kd i
    split at h
    ·cases h
    ·rename_i dW
     have:=uS hC h
     simp only [db] at this ⊢
     exact ⟨this.1,Ku this.2 dW⟩
   ·rename_i kd z m k ok
    split at h <;> try cases h
    rename_i hm
    have:=uS hC h
    simp only [db,hm,cv] at this ⊢
    exact this
   ·rename_i _ h1 h0 h2 h3 h4
    have:=uS hC h
    cases o <;> first | exact this | exact (h1 _ _ rfl).elim | exact (h2 _ _ _ rfl).elim | exact (h3 _ _ rfl).elim | exact (h4 _ _ _ _ _ rfl).elim | (rename_i take;cases take <;> exact this)
def IA:Env→Env→Bool
 | [],[]=>true
 | (a,x)::r,(b,y)::s=>a == b && x.beq y && IA r s
 | _,_=>false
theorem Kv:∀ {xs ys:Env},IA xs ys=true→xs=ys
 | [],[],_=>rfl
 | (a,x)::r,(b,y)::s,h=>by
   simp only [IA,Bool.and_eq_true,beq_iff_eq] at h
   rw [h.1.1,AV.rb h.1.2,Kv h.2]
 | [],_::_,h=>by simp [IA] at h
 | _::_,[],h=>by simp [IA] at h
def N7 (C:iv) (o:bB) (env:Env) (H:List aa):Option (Env×List aa):=AT C [o] env H
theorem Kw {P:Program} {C:iv} (hC:k7 P C) {o:bB} {env aG:Env} {H H':List aa} {K:Env→List aa→Prop} (h:N7 C o env H=some (aG,H')) (hK:K aG H'):rZ P o env H K:=sG hC h hK
def Kx (C:iv) (st:Bool) (o:bB) (env:Env) (H:List aa):Option Env:=
 match o.g with
 | none=>match dvE C st o.op (ap env) H with
   | some x=>some (put o.dst x env)
   | none=>none
 | some (g,want)=>match get env g with
   | .bool b=>if b=want then (match dvE C st o.op (ap env) H with
      | some x=>some (put o.dst x env)
      | none=>none) else some (put o.dst (.tuple []) env)
   | .tuple []=>some (put o.dst (.tuple []) env)
   | _=>none
theorem N8 {P:Program} {C:iv} (hC:k7 P C) {st:Bool} {o:bB} {env aG:Env} {H:List aa} {K:Env→Prop} (h:Kx C st o env H=some aG) (hK:K aG):tM P st o env H K:=by
 unfold Kx at h
 unfold tM
 cases hg:o.g with
 | none=>
   simp only [hg] at h ⊢
   split at h <;> cases h
   rename_i x hx
   exact ⟨x,Q4 hC hx,hK⟩
 | some p=>
   obtain ⟨g,want⟩:=p
   simp only [hg] at h ⊢
   simp only [iF]
   split at h
   rotate_left
   ·rename_i hb
    simp only [hb]
    cases h
    exact hK
   ·cases h
   rename_i b hb
   simp only [hb]
   split at h
   ·rename_i GL
    subst GL
    split at h <;> cases h
    rename_i x hx
    exact ⟨fun _=>⟨x,Q4 hC hx,hK⟩,fun e=>by cases b <;> cases e⟩
   ·rename_i GL
    cases h
    exact ⟨fun e=>absurd e GL,fun _=>hK⟩
abbrev yd:=List (Env×List aa)
def N9 (x:Env×List aa):yd→Bool
 | []=>false
 | y::r=>match IA x.1 y.1 && CV x.2 y.2 with | true=>true | false=>N9 x r
def pX (l:yd):yd→yd
 | []=>l
 | x::r=>match N9 x l with | true=>pX l r | false=>x::pX l r
theorem Ky {x:Env×List aa}:∀ {l:yd},N9 x l=true→x∈l
 | [],h=>by cases h
 | y::r,h=>by
   unfold N9 at h
   split at h
   ·rename_i e
    simp only [Bool.and_eq_true] at e
    have e1:=Kv e.1
    have e2:=AS e.2
    have:x=y:=by cases x;cases y;simp only at e1 e2;rw [e1,e2]
    rw [this];exact List.mem_cons_self
   ·exact List.mem_cons_of_mem _ (Ky h)
theorem CW {l:yd}:∀ {m:yd},(∀ x∈l,x∈pX l m)∧∀ x∈m,x∈pX l m
 | []=>⟨fun x h=>h,fun x h=>by cases h⟩
 | y::r=>by
   obtain ⟨h1,h2⟩:=CW (l:=l) (m:=r)
   unfold pX
   split
   ·rename_i e
    refine ⟨h1,fun x hx=>?_⟩
    rcases List.mem_cons.1 hx with rfl | hx
    ·exact h1 _ (Ky e)
    ·exact h2 x hx
   ·refine ⟨fun x hx=>List.mem_cons_of_mem _ (h1 x hx),fun x hx=>?_⟩
    rcases List.mem_cons.1 hx with rfl | hx
    ·exact List.mem_cons_self
    ·exact List.mem_cons_of_mem _ (h2 x hx)
def Eu (C:iv) (live:Option (List Nat)):DT→Env→List aa→Option yd
 | .done,env,H=>some [(eD live env,H)]
 | .take st o r,env,H=>match Kx C st o env H with
   | some aG=>Eu C live r aG H
   | none=>none
 | .br o t .nil,env,H=>match N7 C o env H with
   | some (aG,H')=>Eu C live t aG H'
   | none=>none
 | .br o t rest,env,H=>match N7 C o env H with
   | some (aG,H')=>match Eu C live t aG H',Eu C live rest env H with
     | some l1,some l2=>some (pX l1 l2)
     | _,_=>none
   | none=>none
 | .nil,_,_=>none
theorem WH {P:Program} {C:iv} (hC:k7 P C) {live:Option (List Nat)}:∀ {t:DT} {env:Env} {H:List aa} {l:yd} {K:Env→List aa→Prop},Eu C live t env H=some l→(∀ o∈l,K o.1 o.2)→uL P t env H fun e H=>K (eD live e) H:=by
 intro t
 induction t with
 | done=>intro env H l K h hK;simp only [Eu] at h;cases h;exact hK _ List.mem_cons_self
 | nil=>intro env H l K h hK;simp [Eu] at h
 | take st o r ih=>
   intro env H l K h hK
   simp only [Eu] at h
   split at h <;> try cases h
   rename_i e2 he
   exact N8 (K:=fun env=>uL P r env H fun e H=>K (eD live e) H) hC he (ih h hK)
 | br o t rest Kk JH=>
   intro env H l K h hK
   have key:∀ rest',(∀ {env:Env} {H:List aa} {l:yd} {K:Env→List aa→Prop},Eu C live rest' env H=some l→(∀ o∈l,K o.1 o.2)→uL P rest' env H fun e H=>K (eD live e) H)→rest'=rest→
    ((match N7 C o env H with
    | some (aG,H')=>match Eu C live t aG H',Eu C live rest' env H with
      | some l1,some l2=>some (pX l1 l2)
      | _,_=>none
    | none=>none)=some l)→uL P (.br o t rest') env H fun e H=>K (eD live e) H:=by
    intro rest' ihr' _ h
    split at h <;> try cases h
    rename_i e2 H2 h2
    split at h <;> try cases h
    rename_i l1 l2 h3 h4
    obtain ⟨u1,u2⟩:=CW (l:=l1) (m:=l2)
    exact ⟨Kw (K:=fun env H=>uL P t env H fun e H=>K (eD live e) H) hC h2 (Kk h3 fun o ho=>hK o (u1 o ho)),ihr' h4 fun o ho=>hK o (u2 o ho)⟩
   cases rest with
   | nil=>
     simp only [Eu] at h
     split at h <;> try cases h
     rename_i e2 H2 h2
     exact ⟨Kw (K:=fun env H=>uL P t env H fun e H=>K (eD live e) H) hC h2 (Kk h hK),trivial⟩
   | done=>exact key _ (fun h hK=>JH h hK) rfl (by simpa only [Eu] using h)
   | take st o' r=>exact key _ (fun h hK=>JH h hK) rfl (by simpa only [Eu] using h)
   | br o' t' r=>exact key _ (fun h hK=>JH h hK) rfl (by simpa only [Eu] using h)
end Go.aL
