/- A memory-free reading of the model's values (part 20): code that is run. -/
import Derived.Test.YtljchnfgjdjobaaGreatYad
set_option linter.unusedVariables false
set_option linter.unusedSimpArgs false
set_option linter.defProp false
set_option linter.unusedSectionVars false
namespace Go.aJ
open Go
def RZ:Fn→Fn→Bool
 | .func a,.func b=>a == b
 | _,_=>false
mutual
def AV.beq:AV→AV→Bool
 | .any,.any=>true
 | .bool a,.bool b=>a == b
 | .int k a,.int l b=>decide (k=l) && decide (a=b)
 | .str a,.str b=>decide (a=b)
 | .ah,.ah=>true
 | .al o xs,.al p ys=>decide (o=p) && wD xs ys
 | .aU a b c d,.aU e f g h=>decide (a=e) && decide (b=f) && decide (c=g) && decide (d=h)
 | .agg xs,.agg ys=>wD xs ys
 | .tuple xs,.tuple ys=>wD xs ys
 | .ptr a b,.ptr c d=>decide (a=c) && decide (b=d)
 | .aj x,.aj y=>x.beq y
 | .si,.si=>true
 | .map a,.map b=>decide (a=b)
 | .jf,.jf=>true
 | .fn f xs ys,.fn g us vs=>RZ f g && wD xs us && wD ys vs
 | .fP,.fP=>true
 | .iface t x,.iface u y=>decide (t=u) && x.beq y
 | .xE,.xE=>true
 | _,_=>false
def wD:List AV→List AV→Bool
 | [],[]=>true
 | x::xs,y::ys=>x.beq y && wD xs ys
 | _,_=>false
end
theorem R0 {f g:Fn} (h:RZ f g=true):f=g:=by
 unfold RZ at h
 split at h
 ·simp at h;rw [h]
 ·cases h
mutual
theorem AV.qZ:∀ {x y:AV},x.beq y=true→x=y:=by
 intro x y h
 cases x <;> cases y <;> simp only [AV.beq,yu,decide_eq_true_eq,abv,beq_iff_eq] at h <;> first
  | rfl
  | (subst h;rfl)
  | (obtain ⟨rfl,rfl⟩:=h;rfl)
  | (obtain ⟨⟨⟨rfl,rfl⟩,rfl⟩,rfl⟩:=h;rfl)
  | (rw [sI h])
  | (rw [AV.qZ h])
  | (obtain ⟨rfl,h⟩:=h;rw [sI h])
  | (obtain ⟨rfl,h⟩:=h;rw [AV.qZ h])
  | (obtain ⟨⟨h1,h2⟩,h3⟩:=h;rw [R0 h1,sI h2,sI h3])
theorem sI:∀ {xs ys:List AV},wD xs ys=true→xs=ys
 | [],[],_=>rfl
 | x::xs,y::ys,h=>by
   simp only [wD,yu] at h
   rw [AV.qZ h.1,sI h.2]
 | [],_::_,h=>by simp [wD] at h
 | _::_,[],h=>by simp [wD] at h
end
def Il:List (AV×AV)→List (AV×AV)→Bool
 | [],[]=>true
 | (a,b)::xs,(c,d)::ys=>a.beq c && b.beq d && Il xs ys
 | _,_=>false
theorem Kb:∀ {xs ys:List (AV×AV)},Il xs ys=true→xs=ys
 | [],[],_=>rfl
 | (a,b)::xs,(c,d)::ys,h=>by
   simp only [Il,yu] at h
   rw [AV.qZ h.1.1,AV.qZ h.1.2,Kb h.2]
 | [],_::_,h=>by simp [Il] at h
 | _::_,[],h=>by simp [Il] at h
def aa.beq:aa→aa→Bool
 | .dead,.dead=>true
 | .cells a,.cells b=>wD a b
 | .map a,.map b=>Il a b
 | _,_=>false
theorem aa.qZ {x y:aa} (h:x.beq y=true):x=y:=by
 unfold aa.beq at h
 split at h
 ·rfl
 ·rw [sI h]
 ·rw [Kb h]
 ·cases h
def CD:List aa→List aa→Bool
 | [],[]=>true
 | x::xs,y::ys=>x.beq y && CD xs ys
 | _,_=>false
theorem AE:∀ {xs ys:List aa},CD xs ys=true→xs=ys
 | [],[],_=>rfl
 | x::xs,y::ys,h=>by
   simp only [CD,yu] at h
   rw [aa.qZ h.1,AE h.2]
 | [],_::_,h=>by simp [CD] at h
 | _::_,[],h=>by simp [CD] at h
abbrev iv:=Bool→Nat→List AV→List aa→Option (AV×List aa)
def GI (C:iv) (g:Nat) (args:List AV) (H:List aa):Option (AV×List aa):=
 match ak 0 args with
 | true=>match C false g args [] with
   | some (r,[])=>some (r,H)
   | _=>C false g args H
 | false=>C false g args H
def dX (H:List aa) (dst:Option Nat) (env:Env) (z:Option AV):Option (Env×List aa):=match z with | some z=>some (put dst z env,H) | none=>none
def gV (C:iv) (o:bZ) (dst:Option Nat) (env:Env) (H:List aa):Option (Env×List aa):=
 match o with
 | .set x take=>match dst with | some d=>some (uB env d x take,H) | none=>some (env,H)
 | .pick c a b=>match au env c with
   | .bool true=>some (put dst (au env a).ae env,H)
   | .bool false=>some (put dst (au env b).ae env,H)
   | _=>none
 | .bin op x y=>dX H dst env (GD op (au env x) (au env y))
 | .shift op x y=>dX H dst env (uT op (au env x) (au env y))
 | .iB neq x y=>dX H dst env (qR neq (au env x) (au env y))
 | .ju kd neq x=>dX H dst env (uU kd neq (au env x))
 | .un op x=>dX H dst env (Ny op (au env x))
 | .box x=>if (au env x).val=true∧ak (H.length + 1) ((au env x).cells.map AV.ae)=true then some (put dst (.ptr H.length 0) env,H++[.cells ((au env x).cells.map AV.ae)]) else none
 | .lY x=>if (au env x).val=true then some (put dst (.aj (au env x)) env,H) else none
 | .sk m x=>if (au env x).val=true∧(au env x).cells.length=m∧(au env x).cells.all AV.one=true then some (put dst (.aj (au env x)) env,H) else none
 | .alloc z=>if ak (H.length + 1) (z.cells.map AV.ae)=true then some (put dst (.ptr H.length 0) env,H++[.cells (z.cells.map AV.ae)]) else none
 | .build z ps=>dX H dst env ((sG z.cells (ps.map fun q=>(q.1,q.2.1,au env q.2.2))).map .agg)
 | .buildSlice own esz z len ps=>dX H dst env ((lE (List.replicate len (aP z)) esz (ps.map fun q=>(q.1,au env q.2))).map (.al own))
 | .load sz a=>dX H dst env (pU sz (au env a) H)
 | .eH a=>match dst,au env a with
   | some d,.ptr id off=>match H[id]? with
     | some (.cells es)=>if off < es.length then some ((d,es.getD off .any)::env,H.set id (.cells (es.set off (es.getD off .any).ae))) else none
     | _=>none
   | _,_=>none
 | .store m a x=>match Az m (au env a) (au env x) H with | some H'=>some (env,H') | none=>none
 | .nI _ _ _=>none
 | .tG sz esz a=>match pU sz (au env a) H with
   | some z=>match AD esz z H with
     | some (v,H')=>some (put dst v env,H')
     | none=>none
   | none=>none
 | .fy a s=>match sH (au env a) (get env s) H with | some H'=>some ((s,(get env s).ae)::env,H') | none=>none
 | .nilCheck x=>dX H dst env (mv (au env x))
 | .fieldAddr off sz x=>dX H dst env (kz off sz (au env x))
 | .field off sz x=>dX H dst env (uV off sz (au env x))
 | .indexAddr esz x i=>if wm esz (au env x)=true then dX H dst env (kA esz (au env x) (au env i)) else none
 | .dj x i=>dX H dst env (ms (au env x) (au env i))
 | .dR n x i=>dX H dst env (mr n (au env x) (au env i))
 | .slice esz x lo hi m=>dX H dst env (qT esz (au env x) (gS env lo) (gS env hi) (gS env m))
 | .dS x lo hi=>dX H dst env (mA (au env x) (gS env lo) (gS env hi))
 | .len kd x=>if Ay kd (au env x)=true then dX H dst env (GF (au env x) H) else none
 | .append esz bytes s x=>match wo esz bytes (au env s) (au env x) with | some zs=>some (put dst (.al esz zs) (cP env s.slot),H) | none=>none
 | .tH esz bytes z n=>match AA bytes z (au env n) H with | some (v,H')=>some (put dst v env,H') | none=>none
 | .nJ esz bytes n=>dX H dst env (uW esz bytes (au env n))
 | .nK=>some (put dst (.map H.length) env,H++[.map []])
 | .BT ..=>none
 | .jy ..=>none
 | .kr ..=>none
 | .nL ..=>none
 | .pL ..=>none
 | .lookup kd z m k ok=>dX H dst env (qU kd z (au env m) (au env k) ok H)
 | .kL kd m k x=>match wv kd (au env m) (au env k) (au env x) H with | some H'=>some (env,H') | none=>none
 | .fn f first cap=>some (put dst (.fn f (first.map fun x=>(au env x).ae) (cap.map fun x=>(au env x).ae)) env,H)
 | .extract x i=>dX H dst env (oO (au env x) i)
 | .call f args pass=>match au env f with
   | .fn (.func g) first cap=>match GI C g (first.map AV.ae++aH env pass 0 args++cap.map AV.ae) H with
     | some (r,H')=>some (put dst r (cP env (bh args pass)),H')
     | none=>none
   | .nF id=>match C true id (aH env pass 0 args) H with
     | some (r,H')=>some (put dst r (cP env (bh args pass)),H')
     | none=>none
   | _=>none
 | .eV k x=>dX H dst env (oP k (au env x))
 | .gO x=>dX H dst env (oQ (au env x))
 | .bytesOf x=>dX H dst env (oR 1 (au env x))
 | .strOf x=>dX H dst env (uX (au env x))
 | .mx big a b=>dX H dst env (Nz big (au env a) (au env b))
 | .copy esz d s=>match E1 esz (au env d) (au env s) H with | some (v,H')=>some (put dst v env,H') | none=>none
 | .zX esz x=>match pV esz (au env x) H with | some (v,H')=>some (put dst v env,H') | none=>none
 | .never=>none
def kW (P:Program) (C:iv):Prop:=(∀ g args H r H',C false g args H=some (r,H')→aw P g args H fun r' H''=>r'=r∧H''=H')∧
 ∀ id args H r H',C true id args H=some (r,H')→jS P id args H fun r' H''=>r'=r∧H''=H'
theorem GJ {P:Program} {C:iv} (hC:kW P C) {g:Nat} {args:List AV} {H H':List aa} {r:AV} (h:GI C g args H=some (r,H')):aw P g args H fun r' H''=>r'=r∧H''=H':=by
 unfold GI at h
 split at h
 ·rename_i hb
  split at h
  ·rename_i hr
   cases h
   exact aw.frame (R:=fun r'=>r'=r) (fun x hx=>(bb 0 _).1 hb x hx) (hC.1 _ _ _ _ _ hr) H
  ·exact hC.1 _ _ _ _ _ h
 ·exact hC.1 _ _ _ _ _ h
theorem b9:∀ xs,xP xs xs
 | []=>trivial
 | x::xs=>⟨le_refl _,b9 xs⟩
theorem bc {H H':List aa} {dst:Option Nat} {env aF:Env} {z:Option AV} (h:dX H dst env z=some (aF,H')):∃ v,z=some v∧aF=put dst v env∧H'=H:=by
 unfold dX at h
 split at h <;> cases h
 exact ⟨_,rfl,rfl,rfl⟩
theorem Kc {P:Program} {C:iv} (hC:kW P C) {o:bZ} {dst:Option Nat} {env aF:Env} {H H':List aa} {K:Env→List aa→Prop} (h:gV C o dst env H=some (aF,H')) (hK:K aF H'):bp P o dst env H K:=by
 cases o with
 | set x take=>
   simp only [gV] at h
   simp only [bp]
   split at h <;> cases h <;> exact hK
 | pick c a b=>
   simp only [gV] at h
   simp only [bp]
   split at h <;> cases h
   ·rename_i e;rw [e];exact ⟨fun _=>hK,fun e=>by cases e⟩
   ·rename_i e;rw [e];exact ⟨fun e=>(by cases e),fun _=>hK⟩
 | bin op x y=>obtain ⟨v,hv,rfl,rfl⟩:=bc h;exact GG (φ:=fun z=>K (put dst z env) _) hv hK
 | shift op x y=>obtain ⟨v,hv,rfl,rfl⟩:=bc h;exact yN (φ:=fun z=>K (put dst z env) _) hv hK
 | iB op x y=>obtain ⟨v,hv,rfl,rfl⟩:=bc h;exact wx (φ:=fun z=>K (put dst z env) _) hv hK
 | ju kd neq x=>obtain ⟨v,hv,rfl,rfl⟩:=bc h;exact yO (φ:=fun z=>K (put dst z env) _) hv hK
 | un op x=>obtain ⟨v,hv,rfl,rfl⟩:=bc h;exact J8 (φ:=fun z=>K (put dst z env) _) hv hK
 | box x=>
   simp only [gV] at h
   split at h <;> cases h
   rename_i hc
   exact ⟨hc.1,hc.2,hK⟩
 | lY x=>
   simp only [gV] at h
   split at h <;> cases h
   rename_i hc
   exact ⟨hc,hK⟩
 | sk m x=>
   simp only [gV] at h
   split at h <;> cases h
   rename_i hc
   exact ⟨hc.1,hc.2.1,hc.2.2,hK⟩
 | alloc z=>
   simp only [gV] at h
   split at h <;> cases h
   rename_i hc
   exact ⟨hc,hK⟩
 | build z ps=>
   obtain ⟨v,hv,rfl,rfl⟩:=bc h
   obtain ⟨u,hu,rfl⟩:=yr.1 hv
   exact wy (φ:=fun xs=>K (put dst (.agg xs) env) H') hK hu
 | buildSlice own esz z len ps=>
   obtain ⟨v,hv,rfl,rfl⟩:=bc h
   obtain ⟨u,hu,rfl⟩:=yr.1 hv
   exact pW (φ:=fun xs=>K (put dst (.al own xs) env) H') hK hu
 | load sz a=>obtain ⟨v,hv,rfl,rfl⟩:=bc h;exact n9 (φ:=fun z=>K (put dst z env) _) hv hK
 | eH a=>
   simp only [gV] at h
   simp only [bp]
   split at h <;> try cases h
   rename_i e
   simp only [e]
   split at h <;> try cases h
   rename_i bm
   simp only [bm]
   split at h <;> cases h
   exact ⟨by assumption,hK⟩
 | store m a x=>
   simp only [gV] at h
   split at h <;> cases h
   rename_i hs
   exact Ig hs hK
 | fy a s=>
   simp only [gV] at h
   split at h <;> cases h
   rename_i hs
   exact CB hs hK
 | nilCheck x=>obtain ⟨v,hv,rfl,rfl⟩:=bc h;exact qX (φ:=fun z=>K (put dst z env) _) hv hK
 | fieldAddr off sz x=>obtain ⟨v,hv,rfl,rfl⟩:=bc h;exact pC (φ:=fun z=>K (put dst z env) _) hv hK
 | field off sz x=>obtain ⟨v,hv,rfl,rfl⟩:=bc h;exact yP (φ:=fun z=>K (put dst z env) _) hv hK
 | indexAddr esz x i=>
   simp only [gV] at h
   split at h <;> try cases h
   rename_i hl
   obtain ⟨v,hv,rfl,rfl⟩:=bc h
   exact ⟨wz hl,pD (φ:=fun z=>K (put dst z env) _) hv hK⟩
 | dj x i=>obtain ⟨v,hv,rfl,rfl⟩:=bc h;exact qV (φ:=fun z=>K (put dst z env) _) hv hK
 | dR n x i=>obtain ⟨v,hv,rfl,rfl⟩:=bc h;exact qW (φ:=fun z=>K (put dst z env) _) hv hK
 | slice esz x lo hi m=>obtain ⟨v,hv,rfl,rfl⟩:=bc h;exact wB (φ:=fun z=>K (put dst z env) _) hv hK
 | dS x lo hi=>obtain ⟨v,hv,rfl,rfl⟩:=bc h;exact qY (φ:=fun z=>K (put dst z env) _) hv hK
 | len kd x=>
   simp only [gV] at h
   split at h <;> try cases h
   rename_i hl
   obtain ⟨v,hv,rfl,rfl⟩:=bc h
   exact ⟨CA hl,GH (φ:=fun z=>K (put dst z env) _) hv hK⟩
 | append esz bytes s x=>
   simp only [gV] at h
   split at h <;> cases h
   rename_i hs
   exact E2 (φ:=fun zs=>K (put dst (.al esz zs) (cP env s.slot)) _) hs hK
 | tH esz bytes z n=>
   simp only [gV] at h
   split at h <;> cases h
   rename_i hs
   exact Ih (esz:=esz) (K:=fun v H'=>K (put dst v env) H') hs hK
 | nJ esz bytes n=>obtain ⟨v,hv,rfl,rfl⟩:=bc h;exact yQ (φ:=fun z=>K (put dst z env) _) hv hK
 | nK=>simp only [gV] at h;cases h;exact hK
 | nI m a x=>simp only [gV] at h;cases h
 | tG sz esz a=>
   simp only [gV] at h
   split at h <;> try cases h
   rename_i z hz
   split at h <;> cases h
   rename_i v H2 hs
   exact n9 (φ:=fun z=>fH esz z H fun y H'=>K (put dst y env) H') hz (Ik (K:=fun v H'=>K (put dst v env) H') hs hK)
 | BT esz z len ps=>simp only [gV] at h;cases h
 | jy esz bytes z s x=>simp only [gV] at h;cases h
 | kr esz bytes z s x=>simp only [gV] at h;cases h
 | nL esz z x=>simp only [gV] at h;cases h
 | pL esz x lo hi mx=>simp only [gV] at h;cases h
 | lookup kd z m k ok=>obtain ⟨v,hv,rfl,rfl⟩:=bc h;exact wC (φ:=fun z=>K (put dst z env) _) hv hK
 | kL kd m k x=>
   simp only [gV] at h
   split at h <;> cases h
   rename_i hs
   exact E3 hs hK
 | fn f first cap=>simp only [gV] at h;cases h;exact hK
 | extract x i=>obtain ⟨v,hv,rfl,rfl⟩:=bc h;exact uc (φ:=fun z=>K (put dst z env) _) hv hK
 | call f args pass=>
   simp only [gV] at h
   simp only [bp,pw]
   split at h <;> try cases h
   ·rename_i g first cap e
    split at h <;> cases h
    rename_i r hr
    rw [e]
    refine ⟨_,b9 _,dW.of <| (GJ hC hr).mono ?_⟩
    rintro r' H'' ⟨rfl,rfl⟩
    exact hK
   ·rename_i id e
    split at h <;> cases h
    rename_i r hr
    rw [e]
    refine ⟨_,b9 _,fE.mono (hC.2 _ _ _ _ _ hr) ?_⟩
    rintro r' H'' ⟨rfl,rfl⟩
    exact hK
 | eV k x=>obtain ⟨v,hv,rfl,rfl⟩:=bc h;exact ud (φ:=fun z=>K (put dst z env) _) hv hK
 | gO x=>obtain ⟨v,hv,rfl,rfl⟩:=bc h;exact ue (φ:=fun z=>K (put dst z env) _) hv hK
 | bytesOf x=>obtain ⟨v,hv,rfl,rfl⟩:=bc h;exact uf (φ:=fun z=>K (put dst z env) _) hv hK
 | strOf x=>obtain ⟨v,hv,rfl,rfl⟩:=bc h;exact yS (φ:=fun z=>K (put dst z env) _) hv hK
 | mx big a b=>obtain ⟨v,hv,rfl,rfl⟩:=bc h;exact J9 (φ:=fun z=>K (put dst z env) _) hv hK
 | copy esz d s=>
   simp only [gV] at h
   split at h <;> cases h
   rename_i hs
   exact Ka (K:=fun v H'=>K (put dst v env) H') hs hK
 | zX esz x=>
   simp only [gV] at h
   split at h <;> cases h
   rename_i hs
   exact wA (K:=fun v H'=>K (put dst v env) H') hs hK
 | never=>cases h
def nh (C:iv) (o:bZ) (ρ:IX→AV) (H:List aa):Option AV:=
 match o with
 | .set i false=>some (ρ i).ae
 | .pick c a b=>match ρ c with | .bool true=>some (ρ a).ae | .bool false=>some (ρ b).ae | _=>none
 | .bin op i j=>GD op (ρ i) (ρ j)
 | .shift op i j=>uT op (ρ i) (ρ j)
 | .iB neq i j=>qR neq (ρ i) (ρ j)
 | .ju kd neq i=>uU kd neq (ρ i)
 | .un op i=>Ny op (ρ i)
 | .lY i=>if (ρ i).val=true then some (.aj (ρ i)) else none
 | .build z ps=>(sG z.cells (ps.map fun q=>(q.1,q.2.1,ρ q.2.2))).map .agg
 | .buildSlice own esz z len ps=>(lE (List.replicate len (aP z)) esz (ps.map fun q=>(q.1,ρ q.2))).map (.al own)
 | .load sz i=>pU sz (ρ i) H
 | .nilCheck i=>mv (ρ i)
 | .fieldAddr off sz i=>kz off sz (ρ i)
 | .field off sz i=>uV off sz (ρ i)
 | .indexAddr esz i j=>if wm esz (ρ i)=true then kA esz (ρ i) (ρ j) else none
 | .dj i j=>ms (ρ i) (ρ j)
 | .dR n i j=>mr n (ρ i) (ρ j)
 | .slice esz i lo hi m=>qT esz (ρ i) (lo.map ρ) (hi.map ρ) (m.map ρ)
 | .dS i lo hi=>mA (ρ i) (lo.map ρ) (hi.map ρ)
 | .len kd i=>if Ay kd (ρ i)=true then GF (ρ i) H else none
 | .lookup kd z m k ok=>qU kd z (ρ m) (ρ k) ok H
 | .fn f first cap=>some (.fn f (first.map fun x=>(ρ x).ae) (cap.map fun x=>(ρ x).ae))
 | .extract i k=>oO (ρ i) k
 | .call f args none=>match ρ f with
   | .fn (.func g) first cap=>match GI C g (first.map AV.ae++(args.map fun x=>(ρ x).ae)++cap.map AV.ae) H with
     | some (r,H')=>if CD H' H=true then some r else none
     | none=>none
   | _=>none
 | .eV k i=>oP k (ρ i)
 | .gO i=>oQ (ρ i)
 | .bytesOf i=>oR 1 (ρ i)
 | .nJ esz bytes i=>uW esz bytes (ρ i)
 | .strOf i=>uX (ρ i)
 | .mx big i j=>Nz big (ρ i) (ρ j)
 | _=>none
theorem uY {P:Program} {C:iv} (hC:kW P C) {o:bZ} {ρ:IX→AV} {H:List aa} {v:AV} (h:nh C o ρ H=some v):de P o ρ H v:=by
 cases o with
 | set i take=>
   cases take with
   | true=>cases h
   | false=>simp only [nh] at h;cases h;rfl
 | pick c a b=>
   simp only [nh] at h
   simp only [de]
   split at h <;> cases h
   ·rename_i e;rw [e];exact ⟨fun _=>rfl,fun e=>by cases e⟩
   ·rename_i e;rw [e];exact ⟨fun e=>(by cases e),fun _=>rfl⟩
 | bin op x y=>exact GG (φ:=fun z=>z=v) h rfl
 | shift op x y=>exact yN (φ:=fun z=>z=v) h rfl
 | iB op x y=>exact wx (φ:=fun z=>z=v) h rfl
 | ju kd neq x=>exact yO (φ:=fun z=>z=v) h rfl
 | un op x=>exact J8 (φ:=fun z=>z=v) h rfl
 | lY x=>
   simp only [nh] at h
   split at h <;> cases h
   rename_i hc
   exact ⟨hc,rfl⟩
 | build z ps=>
   obtain ⟨u,hu,rfl⟩:=yr.1 h
   exact wy (φ:=fun xs=>AV.agg xs=.agg u) rfl hu
 | buildSlice own esz z len ps=>
   obtain ⟨u,hu,rfl⟩:=yr.1 h
   exact pW (φ:=fun xs=>AV.al own xs=.al own u) rfl hu
 | load sz a=>exact n9 (φ:=fun z=>z=v) h rfl
 | nilCheck x=>exact qX (φ:=fun z=>z=v) h rfl
 | fieldAddr off sz x=>exact pC (φ:=fun z=>z=v) h rfl
 | field off sz x=>exact yP (φ:=fun z=>z=v) h rfl
 | indexAddr esz x i=>
   simp only [nh] at h
   split at h <;> try cases h
   rename_i hl
   exact ⟨wz hl,pD (φ:=fun z=>z=v) h rfl⟩
 | dj x i=>exact qV (φ:=fun z=>z=v) h rfl
 | dR n x i=>exact qW (φ:=fun z=>z=v) h rfl
 | slice esz x lo hi m=>exact wB (φ:=fun z=>z=v) h rfl
 | nJ esz bytes n=>exact yQ (φ:=fun z=>z=v) h rfl
 | dS x lo hi=>exact qY (φ:=fun z=>z=v) h rfl
 | len kd x=>
   simp only [nh] at h
   split at h <;> try cases h
   rename_i hl
   exact ⟨CA hl,GH (φ:=fun z=>z=v) h rfl⟩
 | lookup kd z m k ok=>exact wC (φ:=fun z=>z=v) h rfl
 | fn f first cap=>simp only [nh] at h;cases h;rfl
 | extract x i=>exact uc (φ:=fun z=>z=v) h rfl
 | call f args pass=>
   cases pass with
   | some _=>cases h
   | none=>
     simp only [nh] at h
     simp only [de]
     split at h <;> try cases h
     rename_i g first cap e
     split at h <;> try cases h
     rename_i r H' hr
     split at h <;> cases h
     rename_i hb
     rw [e]
     refine ⟨_,b9 _,(GJ hC hr).mono ?_⟩
     rintro r' H'' ⟨rfl,rfl⟩
     exact ⟨rfl,AE hb⟩
 | eV k x=>exact ud (φ:=fun z=>z=v) h rfl
 | gO x=>exact ue (φ:=fun z=>z=v) h rfl
 | bytesOf x=>exact uf (φ:=fun z=>z=v) h rfl
 | strOf x=>exact yS (φ:=fun z=>z=v) h rfl
 | mx big a b=>exact J9 (φ:=fun z=>z=v) h rfl
 | _=>cases h
def AF (C:iv):List bA→Env→List aa→Option (Env×List aa)
 | [],env,H=>some (env,H)
 | o::r,env,H=>match o.g with
   | none=>match gV C o.op o.dst env H with
     | some (env,H)=>AF C r env H
     | none=>none
   | some (g,want)=>match get env g with
     | .bool b=>if b=want then (match gV C o.op o.dst ((g,.bool want)::env) H with
        | some (env,H)=>AF C r env H
        | none=>none) else AF C r (put o.dst (.tuple []) ((g,.bool (!want))::env)) H
     | .tuple []=>AF C r (put o.dst (.tuple []) env) H
     | _=>none
theorem sJ {P:Program} {C:iv} (hC:kW P C):∀ {l:List bA} {env aF:Env} {H H':List aa} {K:Env→List aa→Prop},AF C l env H=some (aF,H')→K aF H'→jB P l env H K
 | [],env,aF,H,H',K,h,hK=>by simp only [AF] at h;cases h;exact hK
 | o::r,env,aF,H,H',K,h,hK=>by
   simp only [AF] at h
   simp only [jB,sy]
   cases hg:o.g with
   | none=>
     simp only [hg] at h ⊢
     split at h <;> try cases h
     rename_i e2 H2 h2
     exact Kc (K:=fun env H=>jB P r env H K) hC h2 (sJ hC h hK)
   | some p=>
     obtain ⟨g,want⟩:=p
     simp only [hg] at h ⊢
     simp only [iE]
     split at h
     rotate_left
     ·rename_i hb
      simp only [hb]
      exact sJ hC h hK
     ·cases h
     rename_i b hb
     simp only [hb]
     split at h
     ·rename_i Gy
      subst Gy
      split at h <;> try cases h
      rename_i e2 H2 h2
      exact ⟨fun _=>Kc (K:=fun env H=>jB P r env H K) hC h2 (sJ hC h hK),fun e=>by cases b <;> cases e⟩
     ·rename_i Gy
      exact ⟨fun e=>absurd e Gy,fun _=>sJ hC h hK⟩
def Zu (C:iv) (st:Bool) (o:bZ) (ρ:IX→AV) (H:List aa):Option AV:=
 match st with
 | true=>nh C o ρ H
 | false=>match o with
   | .load sz i=>(match ρ i with | .aj y=>pU sz (.aj y) [] | _=>none)
   | .call f args none=>(match ρ f with
     | .fn (.func g) first cap=>if ak 0 (first.map AV.ae++(args.map fun x=>(ρ x).ae)++cap.map AV.ae)=true then (match C false g (first.map AV.ae++(args.map fun x=>(ρ x).ae)++cap.map AV.ae) [] with
       | some (r,[])=>some r
       | _=>none) else none
     | _=>none)
   | .call _ _ _=>none
   | .len kd i=>(match ρ i with | .map _=>none | _=>nh C o ρ [])
   | .lookup kd z m k ok=>(match ρ m with | .jf=>nh C o ρ [] | _=>none)
   | o=>nh C o ρ []
theorem Kd {x:AV} {H H':List aa} {φ:AV→Prop} (h:fz x H φ) (hm:∀ id,x≠.map id):fz x H' φ:=by
 unfold fz at *
 split at h <;> first | exact h | exact h.elim | exact absurd rfl (hm _)
theorem Qr {P:Program} {C:iv} (hC:kW P C) {st:Bool} {o:bZ} {ρ:IX→AV} {H:List aa} {v:AV} (h:Zu C st o ρ H=some v):dv P st o ρ H v:=by
 cases st with
 | true=>exact uY hC h
 | false=>
   intro H'
   simp only [Zu] at h
   split at h
   ·split at h <;> try cases h
    rename_i sz i y hy
    simp only [de]
    rw [hy]
    have:=n9 (φ:=fun z=>z=v) h rfl
    unfold aV at this ⊢
    exact this
   ·rename_i f args
    split at h <;> try cases h
    rename_i g first cap hf
    split at h <;> try cases h
    rename_i hb
    split at h <;> cases h
    rename_i hr
    simp only [de,hf]
    exact ⟨_,b9 _,aw.frame (R:=fun r=>r=v) (fun x hx=>(bb 0 _).1 hb x hx) (hC.1 _ _ _ _ _ hr) H'⟩
   ·cases h
   ·rename_i kd i
    split at h
    ·cases h
    ·rename_i eU
     have:=uY hC h
     simp only [de] at this ⊢
     exact ⟨this.1,Kd this.2 eU⟩
   ·rename_i kd z m k ok
    split at h <;> try cases h
    rename_i hm
    have:=uY hC h
    simp only [de,hm,ct] at this ⊢
    exact this
   ·rename_i _ h1 h0 h2 h3 h4
    have:=uY hC h
    cases o <;> first | exact this | exact (h1 _ _ rfl).elim | exact (h2 _ _ _ rfl).elim | exact (h3 _ _ rfl).elim | exact (h4 _ _ _ _ _ rfl).elim | (rename_i take;cases take <;> exact this)
def Im:Env→Env→Bool
 | [],[]=>true
 | (a,x)::r,(b,y)::s=>a == b && x.beq y && Im r s
 | _,_=>false
theorem Ke:∀ {xs ys:Env},Im xs ys=true→xs=ys
 | [],[],_=>rfl
 | (a,x)::r,(b,y)::s,h=>by
   simp only [Im,yu,beq_iff_eq] at h
   rw [h.1.1,AV.qZ h.1.2,Ke h.2]
 | [],_::_,h=>by simp [Im] at h
 | _::_,[],h=>by simp [Im] at h
def NA (C:iv) (o:bA) (env:Env) (H:List aa):Option (Env×List aa):=AF C [o] env H
theorem Kf {P:Program} {C:iv} (hC:kW P C) {o:bA} {env aF:Env} {H H':List aa} {K:Env→List aa→Prop} (h:NA C o env H=some (aF,H')) (hK:K aF H'):sy P o env H K:=sJ hC h hK
def Kg (C:iv) (st:Bool) (o:bA) (env:Env) (H:List aa):Option Env:=
 match o.g with
 | none=>match Zu C st o.op (au env) H with
   | some x=>some (put o.dst x env)
   | none=>none
 | some (g,want)=>match get env g with
   | .bool b=>if b=want then (match Zu C st o.op (au env) H with
      | some x=>some (put o.dst x env)
      | none=>none) else some (put o.dst (.tuple []) env)
   | .tuple []=>some (put o.dst (.tuple []) env)
   | _=>none
theorem NB {P:Program} {C:iv} (hC:kW P C) {st:Bool} {o:bA} {env aF:Env} {H:List aa} {K:Env→Prop} (h:Kg C st o env H=some aF) (hK:K aF):tT P st o env H K:=by
 unfold Kg at h
 unfold tT
 cases hg:o.g with
 | none=>
   simp only [hg] at h ⊢
   split at h <;> cases h
   rename_i x hx
   exact ⟨x,Qr hC hx,hK⟩
 | some p=>
   obtain ⟨g,want⟩:=p
   simp only [hg] at h ⊢
   simp only [iE]
   split at h
   rotate_left
   ·rename_i hb
    simp only [hb]
    cases h
    exact hK
   ·cases h
   rename_i b hb
   simp only [hb]
   split at h
   ·rename_i Gy
    subst Gy
    split at h <;> cases h
    rename_i x hx
    exact ⟨fun _=>⟨x,Qr hC hx,hK⟩,fun e=>by cases b <;> cases e⟩
   ·rename_i Gy
    cases h
    exact ⟨fun e=>absurd e Gy,fun _=>hK⟩
abbrev xY:=List (Env×List aa)
def NC (x:Env×List aa):xY→Bool
 | []=>false
 | y::r=>match Im x.1 y.1 && CD x.2 y.2 with | true=>true | false=>NC x r
def pX (l:xY):xY→xY
 | []=>l
 | x::r=>match NC x l with | true=>pX l r | false=>x::pX l r
theorem Kh {x:Env×List aa}:∀ {l:xY},NC x l=true→x∈l
 | [],h=>by cases h
 | y::r,h=>by
   unfold NC at h
   split at h
   ·rename_i e
    simp only [yu] at e
    have e1:=Ke e.1
    have e2:=AE e.2
    have:x=y:=by cases x;cases y;simp only at e1 e2;rw [e1,e2]
    rw [this];exact aan
   ·exact aai _ (Kh h)
theorem CE {l:xY}:∀ {m:xY},(∀ x∈l,x∈pX l m)∧∀ x∈m,x∈pX l m
 | []=>⟨fun x h=>h,fun x h=>by cases h⟩
 | y::r=>by
   obtain ⟨h1,h2⟩:=CE (l:=l) (m:=r)
   unfold pX
   split
   ·rename_i e
    refine ⟨h1,fun x hx=>?_⟩
    rcases UQ.1 hx with rfl | hx
    ·exact h1 _ (Kh e)
    ·exact h2 x hx
   ·refine ⟨fun x hx=>aai _ (h1 x hx),fun x hx=>?_⟩
    rcases UQ.1 hx with rfl | hx
    ·exact aan
    ·exact aai _ (h2 x hx)
def Em (C:iv) (live:Option (List Nat)):DT→Env→List aa→Option xY
 | .done,env,H=>some [(eJ live env,H)]
 | .take st o r,env,H=>match Kg C st o env H with
   | some aF=>Em C live r aF H
   | none=>none
 | .br o t .nil,env,H=>match NA C o env H with
   | some (aF,H')=>Em C live t aF H'
   | none=>none
 | .br o t rest,env,H=>match NA C o env H with
   | some (aF,H')=>match Em C live t aF H',Em C live rest env H with
     | some l1,some l2=>some (pX l1 l2)
     | _,_=>none
   | none=>none
 | .nil,_,_=>none
theorem VS {P:Program} {C:iv} (hC:kW P C) {live:Option (List Nat)}:∀ {t:DT} {env:Env} {H:List aa} {l:xY} {K:Env→List aa→Prop},Em C live t env H=some l→(∀ o∈l,K o.1 o.2)→uS P t env H fun e H=>K (eJ live e) H:=by
 intro t
 induction t with
 | done=>intro env H l K h hK;simp only [Em] at h;cases h;exact hK _ aan
 | nil=>intro env H l K h hK;simp [Em] at h
 | take st o r ih=>
   intro env H l K h hK
   simp only [Em] at h
   split at h <;> try cases h
   rename_i e2 he
   exact NB (K:=fun env=>uS P r env H fun e H=>K (eJ live e) H) hC he (ih h hK)
 | br o t rest J3 Gx=>
   intro env H l K h hK
   have key:∀ rest',(∀ {env:Env} {H:List aa} {l:xY} {K:Env→List aa→Prop},Em C live rest' env H=some l→(∀ o∈l,K o.1 o.2)→uS P rest' env H fun e H=>K (eJ live e) H)→rest'=rest→
    ((match NA C o env H with
    | some (aF,H')=>match Em C live t aF H',Em C live rest' env H with
      | some l1,some l2=>some (pX l1 l2)
      | _,_=>none
    | none=>none)=some l)→uS P (.br o t rest') env H fun e H=>K (eJ live e) H:=by
    intro rest' ihr' _ h
    split at h <;> try cases h
    rename_i e2 H2 h2
    split at h <;> try cases h
    rename_i l1 l2 h3 h4
    obtain ⟨u1,u2⟩:=CE (l:=l1) (m:=l2)
    exact ⟨Kf (K:=fun env H=>uS P t env H fun e H=>K (eJ live e) H) hC h2 (J3 h3 fun o ho=>hK o (u1 o ho)),ihr' h4 fun o ho=>hK o (u2 o ho)⟩
   cases rest with
   | nil=>
     simp only [Em] at h
     split at h <;> try cases h
     rename_i e2 H2 h2
     exact ⟨Kf (K:=fun env H=>uS P t env H fun e H=>K (eJ live e) H) hC h2 (J3 h hK),trivial⟩
   | done=>exact key _ (fun h hK=>Gx h hK) rfl (by simpa only [Em] using h)
   | take st o' r=>exact key _ (fun h hK=>Gx h hK) rfl (by simpa only [Em] using h)
   | br o' t' r=>exact key _ (fun h hK=>Gx h hK) rfl (by simpa only [Em] using h)
end Go.aJ
