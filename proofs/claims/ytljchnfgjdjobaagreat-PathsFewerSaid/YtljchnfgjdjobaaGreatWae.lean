/- A memory-free reading of the model's values (part 20): code that is run. -/
import Derived.Test.YtljchnfgjdjobaaGreatWad
set_option linter.unusedVariables false
set_option linter.unusedSimpArgs false
set_option linter.defProp false
set_option linter.unusedSectionVars false
namespace Go.aH
open Go
def QO:Fn→Fn→Bool
 | .func a,.func b=>a == b
 | _,_=>false
mutual
def AV.beq:AV→AV→Bool
 | .any,.any=>true
 | .bool a,.bool b=>a == b
 | .int k a,.int l b=>decide (k=l) && decide (a=b)
 | .str a,.str b=>decide (a=b)
 | .ah,.ah=>true
 | .ap o xs,.ap p ys=>decide (o=p) && vC xs ys
 | .a8 a b c d,.a8 e f g h=>decide (a=e) && decide (b=f) && decide (c=g) && decide (d=h)
 | .agg xs,.agg ys=>vC xs ys
 | .tuple xs,.tuple ys=>vC xs ys
 | .ptr a b,.ptr c d=>decide (a=c) && decide (b=d)
 | .ai x,.ai y=>x.beq y
 | .ru,.ru=>true
 | .map a,.map b=>decide (a=b)
 | .iS,.iS=>true
 | .fn f xs ys,.fn g us vs=>QO f g && vC xs us && vC ys vs
 | .fG,.fG=>true
 | .iface t x,.iface u y=>decide (t=u) && x.beq y
 | .wR,.wR=>true
 | _,_=>false
def vC:List AV→List AV→Bool
 | [],[]=>true
 | x::xs,y::ys=>x.beq y && vC xs ys
 | _,_=>false
end
theorem QP {f g:Fn} (h:QO f g=true):f=g:=by
 unfold QO at h
 split at h
 ·simp at h;rw [h]
 ·cases h
mutual
theorem AV.qy:∀ {x y:AV},x.beq y=true→x=y:=by
 intro x y h
 cases x <;> cases y <;> simp only [AV.beq,Bool.and_eq_true,decide_eq_true_eq,Bool.false_eq_true,beq_iff_eq] at h <;> first
  | rfl
  | (subst h;rfl)
  | (obtain ⟨rfl,rfl⟩:=h;rfl)
  | (obtain ⟨⟨⟨rfl,rfl⟩,rfl⟩,rfl⟩:=h;rfl)
  | (rw [rQ h])
  | (rw [AV.qy h])
  | (obtain ⟨rfl,h⟩:=h;rw [rQ h])
  | (obtain ⟨rfl,h⟩:=h;rw [AV.qy h])
  | (obtain ⟨⟨h1,h2⟩,h3⟩:=h;rw [QP h1,rQ h2,rQ h3])
theorem rQ:∀ {xs ys:List AV},vC xs ys=true→xs=ys
 | [],[],_=>rfl
 | x::xs,y::ys,h=>by
   simp only [vC,Bool.and_eq_true] at h
   rw [AV.qy h.1,rQ h.2]
 | [],_::_,h=>by simp [vC] at h
 | _::_,[],h=>by simp [vC] at h
end
def Hh:List (AV×AV)→List (AV×AV)→Bool
 | [],[]=>true
 | (a,b)::xs,(c,d)::ys=>a.beq c && b.beq d && Hh xs ys
 | _,_=>false
theorem Jf:∀ {xs ys:List (AV×AV)},Hh xs ys=true→xs=ys
 | [],[],_=>rfl
 | (a,b)::xs,(c,d)::ys,h=>by
   simp only [Hh,Bool.and_eq_true] at h
   rw [AV.qy h.1.1,AV.qy h.1.2,Jf h.2]
 | [],_::_,h=>by simp [Hh] at h
 | _::_,[],h=>by simp [Hh] at h
def aa.beq:aa→aa→Bool
 | .dead,.dead=>true
 | .cells a,.cells b=>vC a b
 | .map a,.map b=>Hh a b
 | _,_=>false
theorem aa.qy {x y:aa} (h:x.beq y=true):x=y:=by
 unfold aa.beq at h
 split at h
 ·rfl
 ·rw [rQ h]
 ·rw [Jf h]
 ·cases h
def BR:List aa→List aa→Bool
 | [],[]=>true
 | x::xs,y::ys=>x.beq y && BR xs ys
 | _,_=>false
theorem zR:∀ {xs ys:List aa},BR xs ys=true→xs=ys
 | [],[],_=>rfl
 | x::xs,y::ys,h=>by
   simp only [BR,Bool.and_eq_true] at h
   rw [aa.qy h.1,zR h.2]
 | [],_::_,h=>by simp [BR] at h
 | _::_,[],h=>by simp [BR] at h
abbrev gZ:=Bool→Nat→List AV→List aa→Option (AV×List aa)
def FJ (C:gZ) (g:Nat) (args:List AV) (H:List aa):Option (AV×List aa):=
 match aj 0 args with
 | true=>match C false g args [] with
   | some (r,[])=>some (r,H)
   | _=>C false g args H
 | false=>C false g args H
def dV (H:List aa) (dst:Option Nat) (env:Env) (z:Option AV):Option (Env×List aa):=match z with | some z=>some (put dst z env,H) | none=>none
def gV (C:gZ) (o:bY) (dst:Option Nat) (env:Env) (H:List aa):Option (Env×List aa):=
 match o with
 | .set x take=>match dst with | some d=>some (tL env d x take,H) | none=>some (env,H)
 | .pick c a b=>match al env c with
   | .bool true=>some (put dst (al env a).ab env,H)
   | .bool false=>some (put dst (al env b).ab env,H)
   | _=>none
 | .bin op x y=>dV H dst env (FF op (al env x) (al env y))
 | .shift op x y=>dV H dst env (uc op (al env x) (al env y))
 | .ic neq x y=>dV H dst env (qn neq (al env x) (al env y))
 | .jg kd neq x=>dV H dst env (ud kd neq (al env x))
 | .un op x=>dV H dst env (Mm op (al env x))
 | .box x=>if (al env x).val=true∧aj (H.length + 1) ((al env x).cells.map AV.ab)=true then some (put dst (.ptr H.length 0) env,H++[.cells ((al env x).cells.map AV.ab)]) else none
 | .lL x=>if (al env x).val=true then some (put dst (.ai (al env x)) env,H) else none
 | .ry m x=>if (al env x).val=true∧(al env x).cells.length=m∧(al env x).cells.all AV.one=true then some (put dst (.ai (al env x)) env,H) else none
 | .alloc z=>if aj (H.length + 1) (z.cells.map AV.ab)=true then some (put dst (.ptr H.length 0) env,H++[.cells (z.cells.map AV.ab)]) else none
 | .build z ps=>dV H dst env ((rO z.cells (ps.map fun q=>(q.1,q.2.1,al env q.2.2))).map .agg)
 | .buildSlice own esz z len ps=>dV H dst env ((k7 (List.replicate len (aM z)) esz (ps.map fun q=>(q.1,al env q.2))).map (.ap own))
 | .load sz a=>dV H dst env (px sz (al env a) H)
 | .eC a=>match dst,al env a with
   | some d,.ptr id off=>match H[id]? with
     | some (.cells es)=>if off < es.length then some ((d,es.getD off .any)::env,H.set id (.cells (es.set off (es.getD off .any).ab))) else none
     | _=>none
   | _,_=>none
 | .store m a x=>match zM m (al env a) (al env x) H with | some H'=>some (env,H') | none=>none
 | .ns _ _ _=>none
 | .sK sz esz a=>match px sz (al env a) H with
   | some z=>match zQ esz z H with
     | some (v,H')=>some (put dst v env,H')
     | none=>none
   | none=>none
 | .fp a s=>match rP (al env a) (get env s) H with | some H'=>some ((s,(get env s).ab)::env,H') | none=>none
 | .nilCheck x=>dV H dst env (mc (al env x))
 | .fieldAddr off sz x=>dV H dst env (kq off sz (al env x))
 | .field off sz x=>dV H dst env (ue off sz (al env x))
 | .indexAddr esz x i=>if vn esz (al env x)=true then dV H dst env (kr esz (al env x) (al env i)) else none
 | .dg x i=>dV H dst env (mb (al env x) (al env i))
 | .dQ n x i=>dV H dst env (ma n (al env x) (al env i))
 | .slice esz x lo hi m=>dV H dst env (qp esz (al env x) (fY env lo) (fY env hi) (fY env m))
 | .dR x lo hi=>dV H dst env (mf (al env x) (fY env lo) (fY env hi))
 | .len kd x=>if zL kd (al env x)=true then dV H dst env (FG (al env x) H) else none
 | .append esz bytes s x=>match vq esz bytes (al env s) (al env x) with | some zs=>some (put dst (.ap esz zs) (cL env s.slot),H) | none=>none
 | .sL esz bytes z n=>match zO bytes z (al env n) H with | some (v,H')=>some (put dst v env,H') | none=>none
 | .nt esz bytes n=>dV H dst env (uf esz bytes (al env n))
 | .nu=>some (put dst (.map H.length) env,H++[.map []])
 | .Bc ..=>none
 | .jj ..=>none
 | .nv ..=>none
 | .ph ..=>none
 | .lookup kd z m k ok=>dV H dst env (qq kd z (al env m) (al env k) ok H)
 | .kA kd m k x=>match vu kd (al env m) (al env k) (al env x) H with | some H'=>some (env,H') | none=>none
 | .fn f first cap=>some (put dst (.fn f (first.map fun x=>(al env x).ab) (cap.map fun x=>(al env x).ab)) env,H)
 | .extract x i=>dV H dst env (ou (al env x) i)
 | .call f args pass=>match al env f with
   | .fn (.func g) first cap=>match FJ C g (first.map AV.ab++aD env pass 0 args++cap.map AV.ab) H with
     | some (r,H')=>some (put dst r (cL env (bg args pass)),H')
     | none=>none
   | .nk id=>match C true id (aD env pass 0 args) H with
     | some (r,H')=>some (put dst r (cL env (bg args pass)),H')
     | none=>none
   | _=>none
 | .eN k x=>dV H dst env (ow k (al env x))
 | .gH x=>dV H dst env (ox (al env x))
 | .bytesOf x=>dV H dst env (oz 1 (al env x))
 | .strOf x=>dV H dst env (ug (al env x))
 | .mx big a b=>dV H dst env (Mn big (al env a) (al env b))
 | .copy esz d s=>match D9 esz (al env d) (al env s) H with | some (v,H')=>some (put dst v env,H') | none=>none
 | .yZ esz x=>match py esz (al env x) H with | some (v,H')=>some (put dst v env,H') | none=>none
 | .never=>none
def kL (P:Program) (C:gZ):Prop:=(∀ g args H r H',C false g args H=some (r,H')→aq P g args H fun r' H''=>r'=r∧H''=H')∧
 ∀ id args H r H',C true id args H=some (r,H')→jH P id args H fun r' H''=>r'=r∧H''=H'
theorem FK {P:Program} {C:gZ} (hC:kL P C) {g:Nat} {args:List AV} {H H':List aa} {r:AV} (h:FJ C g args H=some (r,H')):aq P g args H fun r' H''=>r'=r∧H''=H':=by
 unfold FJ at h
 split at h
 ·rename_i hb
  split at h
  ·rename_i hr
   cases h
   exact aq.frame (R:=fun r'=>r'=r) (fun x hx=>(ba 0 _).1 hb x hx) (hC.1 _ _ _ _ _ hr) H
  ·exact hC.1 _ _ _ _ _ h
 ·exact hC.1 _ _ _ _ _ h
theorem cp:∀ xs,w7 xs xs
 | []=>trivial
 | x::xs=>⟨le_refl _,cp xs⟩
theorem bb {H H':List aa} {dst:Option Nat} {env aB:Env} {z:Option AV} (h:dV H dst env z=some (aB,H')):∃ v,z=some v∧aB=put dst v env∧H'=H:=by
 unfold dV at h
 split at h <;> cases h
 exact ⟨_,rfl,rfl,rfl⟩
theorem Jg {P:Program} {C:gZ} (hC:kL P C) {o:bY} {dst:Option Nat} {env aB:Env} {H H':List aa} {K:Env→List aa→Prop} (h:gV C o dst env H=some (aB,H')) (hK:K aB H'):bo P o dst env H K:=by
 cases o with
 | set x take=>
   simp only [gV] at h
   simp only [bo]
   split at h <;> cases h <;> exact hK
 | pick c a b=>
   simp only [gV] at h
   simp only [bo]
   split at h <;> cases h
   ·rename_i e;rw [e];exact ⟨fun _=>hK,fun e=>by cases e⟩
   ·rename_i e;rw [e];exact ⟨fun e=>(by cases e),fun _=>hK⟩
 | bin op x y=>obtain ⟨v,hv,rfl,rfl⟩:=bb h;exact FH (φ:=fun z=>K (put dst z env) _) hv hK
 | shift op x y=>obtain ⟨v,hv,rfl,rfl⟩:=bb h;exact xV (φ:=fun z=>K (put dst z env) _) hv hK
 | ic op x y=>obtain ⟨v,hv,rfl,rfl⟩:=bb h;exact vv (φ:=fun z=>K (put dst z env) _) hv hK
 | jg kd neq x=>obtain ⟨v,hv,rfl,rfl⟩:=bb h;exact xW (φ:=fun z=>K (put dst z env) _) hv hK
 | un op x=>obtain ⟨v,hv,rfl,rfl⟩:=bb h;exact Jc (φ:=fun z=>K (put dst z env) _) hv hK
 | box x=>
   simp only [gV] at h
   split at h <;> cases h
   rename_i hc
   exact ⟨hc.1,hc.2,hK⟩
 | lL x=>
   simp only [gV] at h
   split at h <;> cases h
   rename_i hc
   exact ⟨hc,hK⟩
 | ry m x=>
   simp only [gV] at h
   split at h <;> cases h
   rename_i hc
   exact ⟨hc.1,hc.2.1,hc.2.2,hK⟩
 | alloc z=>
   simp only [gV] at h
   split at h <;> cases h
   rename_i hc
   exact ⟨hc,hK⟩
 | build z ps=>
   obtain ⟨v,hv,rfl,rfl⟩:=bb h
   obtain ⟨u,hu,rfl⟩:=Option.map_eq_some_iff.1 hv
   exact vw (φ:=fun xs=>K (put dst (.agg xs) env) H') hK hu
 | buildSlice own esz z len ps=>
   obtain ⟨v,hv,rfl,rfl⟩:=bb h
   obtain ⟨u,hu,rfl⟩:=Option.map_eq_some_iff.1 hv
   exact pA (φ:=fun xs=>K (put dst (.ap own xs) env) H') hK hu
 | load sz a=>obtain ⟨v,hv,rfl,rfl⟩:=bb h;exact nO (φ:=fun z=>K (put dst z env) _) hv hK
 | eC a=>
   simp only [gV] at h
   simp only [bo]
   split at h <;> try cases h
   rename_i e
   simp only [e]
   split at h <;> try cases h
   rename_i bk
   simp only [bk]
   split at h <;> cases h
   exact ⟨by assumption,hK⟩
 | store m a x=>
   simp only [gV] at h
   split at h <;> cases h
   rename_i hs
   exact Hc hs hK
 | fp a s=>
   simp only [gV] at h
   split at h <;> cases h
   rename_i hs
   exact BP hs hK
 | nilCheck x=>obtain ⟨v,hv,rfl,rfl⟩:=bb h;exact qw (φ:=fun z=>K (put dst z env) _) hv hK
 | fieldAddr off sz x=>obtain ⟨v,hv,rfl,rfl⟩:=bb h;exact oZ (φ:=fun z=>K (put dst z env) _) hv hK
 | field off sz x=>obtain ⟨v,hv,rfl,rfl⟩:=bb h;exact xX (φ:=fun z=>K (put dst z env) _) hv hK
 | indexAddr esz x i=>
   simp only [gV] at h
   split at h <;> try cases h
   rename_i hl
   obtain ⟨v,hv,rfl,rfl⟩:=bb h
   exact ⟨vx hl,o7 (φ:=fun z=>K (put dst z env) _) hv hK⟩
 | dg x i=>obtain ⟨v,hv,rfl,rfl⟩:=bb h;exact qt (φ:=fun z=>K (put dst z env) _) hv hK
 | dQ n x i=>obtain ⟨v,hv,rfl,rfl⟩:=bb h;exact qv (φ:=fun z=>K (put dst z env) _) hv hK
 | slice esz x lo hi m=>obtain ⟨v,hv,rfl,rfl⟩:=bb h;exact vA (φ:=fun z=>K (put dst z env) _) hv hK
 | dR x lo hi=>obtain ⟨v,hv,rfl,rfl⟩:=bb h;exact qx (φ:=fun z=>K (put dst z env) _) hv hK
 | len kd x=>
   simp only [gV] at h
   split at h <;> try cases h
   rename_i hl
   obtain ⟨v,hv,rfl,rfl⟩:=bb h
   exact ⟨BO hl,FI (φ:=fun z=>K (put dst z env) _) hv hK⟩
 | append esz bytes s x=>
   simp only [gV] at h
   split at h <;> cases h
   rename_i hs
   exact Ea (φ:=fun zs=>K (put dst (.ap esz zs) (cL env s.slot)) _) hs hK
 | sL esz bytes z n=>
   simp only [gV] at h
   split at h <;> cases h
   rename_i hs
   exact Hd (esz:=esz) (K:=fun v H'=>K (put dst v env) H') hs hK
 | nt esz bytes n=>obtain ⟨v,hv,rfl,rfl⟩:=bb h;exact xY (φ:=fun z=>K (put dst z env) _) hv hK
 | nu=>simp only [gV] at h;cases h;exact hK
 | ns m a x=>simp only [gV] at h;cases h
 | sK sz esz a=>
   simp only [gV] at h
   split at h <;> try cases h
   rename_i z hz
   split at h <;> cases h
   rename_i v H2 hs
   exact nO (φ:=fun z=>eR esz z H fun y H'=>K (put dst y env) H') hz (Hg (K:=fun v H'=>K (put dst v env) H') hs hK)
 | Bc esz z len ps=>simp only [gV] at h;cases h
 | jj esz bytes z s x=>simp only [gV] at h;cases h
 | nv esz z x=>simp only [gV] at h;cases h
 | ph esz x lo hi mx=>simp only [gV] at h;cases h
 | lookup kd z m k ok=>obtain ⟨v,hv,rfl,rfl⟩:=bb h;exact vB (φ:=fun z=>K (put dst z env) _) hv hK
 | kA kd m k x=>
   simp only [gV] at h
   split at h <;> cases h
   rename_i hs
   exact Eb hs hK
 | fn f first cap=>simp only [gV] at h;cases h;exact hK
 | extract x i=>obtain ⟨v,hv,rfl,rfl⟩:=bb h;exact th (φ:=fun z=>K (put dst z env) _) hv hK
 | call f args pass=>
   simp only [gV] at h
   simp only [bo,oU]
   split at h <;> try cases h
   ·rename_i g first cap e
    split at h <;> cases h
    rename_i r hr
    rw [e]
    refine ⟨_,cp _,dU.of <| (FK hC hr).mono ?_⟩
    rintro r' H'' ⟨rfl,rfl⟩
    exact hK
   ·rename_i id e
    split at h <;> cases h
    rename_i r hr
    rw [e]
    refine ⟨_,cp _,fy.mono (hC.2 _ _ _ _ _ hr) ?_⟩
    rintro r' H'' ⟨rfl,rfl⟩
    exact hK
 | eN k x=>obtain ⟨v,hv,rfl,rfl⟩:=bb h;exact tn (φ:=fun z=>K (put dst z env) _) hv hK
 | gH x=>obtain ⟨v,hv,rfl,rfl⟩:=bb h;exact tu (φ:=fun z=>K (put dst z env) _) hv hK
 | bytesOf x=>obtain ⟨v,hv,rfl,rfl⟩:=bb h;exact tv (φ:=fun z=>K (put dst z env) _) hv hK
 | strOf x=>obtain ⟨v,hv,rfl,rfl⟩:=bb h;exact x7 (φ:=fun z=>K (put dst z env) _) hv hK
 | mx big a b=>obtain ⟨v,hv,rfl,rfl⟩:=bb h;exact Jd (φ:=fun z=>K (put dst z env) _) hv hK
 | copy esz d s=>
   simp only [gV] at h
   split at h <;> cases h
   rename_i hs
   exact Je (K:=fun v H'=>K (put dst v env) H') hs hK
 | yZ esz x=>
   simp only [gV] at h
   split at h <;> cases h
   rename_i hs
   exact vz (K:=fun v H'=>K (put dst v env) H') hs hK
 | never=>cases h
def mR (C:gZ) (o:bY) (ρ:IX→AV) (H:List aa):Option AV:=
 match o with
 | .set i false=>some (ρ i).ab
 | .pick c a b=>match ρ c with | .bool true=>some (ρ a).ab | .bool false=>some (ρ b).ab | _=>none
 | .bin op i j=>FF op (ρ i) (ρ j)
 | .shift op i j=>uc op (ρ i) (ρ j)
 | .ic neq i j=>qn neq (ρ i) (ρ j)
 | .jg kd neq i=>ud kd neq (ρ i)
 | .un op i=>Mm op (ρ i)
 | .lL i=>if (ρ i).val=true then some (.ai (ρ i)) else none
 | .build z ps=>(rO z.cells (ps.map fun q=>(q.1,q.2.1,ρ q.2.2))).map .agg
 | .buildSlice own esz z len ps=>(k7 (List.replicate len (aM z)) esz (ps.map fun q=>(q.1,ρ q.2))).map (.ap own)
 | .load sz i=>px sz (ρ i) H
 | .nilCheck i=>mc (ρ i)
 | .fieldAddr off sz i=>kq off sz (ρ i)
 | .field off sz i=>ue off sz (ρ i)
 | .indexAddr esz i j=>if vn esz (ρ i)=true then kr esz (ρ i) (ρ j) else none
 | .dg i j=>mb (ρ i) (ρ j)
 | .dQ n i j=>ma n (ρ i) (ρ j)
 | .slice esz i lo hi m=>qp esz (ρ i) (lo.map ρ) (hi.map ρ) (m.map ρ)
 | .dR i lo hi=>mf (ρ i) (lo.map ρ) (hi.map ρ)
 | .len kd i=>if zL kd (ρ i)=true then FG (ρ i) H else none
 | .lookup kd z m k ok=>qq kd z (ρ m) (ρ k) ok H
 | .fn f first cap=>some (.fn f (first.map fun x=>(ρ x).ab) (cap.map fun x=>(ρ x).ab))
 | .extract i k=>ou (ρ i) k
 | .call f args none=>match ρ f with
   | .fn (.func g) first cap=>match FJ C g (first.map AV.ab++(args.map fun x=>(ρ x).ab)++cap.map AV.ab) H with
     | some (r,H')=>if BR H' H=true then some r else none
     | none=>none
   | _=>none
 | .eN k i=>ow k (ρ i)
 | .gH i=>ox (ρ i)
 | .bytesOf i=>oz 1 (ρ i)
 | .nt esz bytes i=>uf esz bytes (ρ i)
 | .strOf i=>ug (ρ i)
 | .mx big i j=>Mn big (ρ i) (ρ j)
 | _=>none
theorem uh {P:Program} {C:gZ} (hC:kL P C) {o:bY} {ρ:IX→AV} {H:List aa} {v:AV} (h:mR C o ρ H=some v):db P o ρ H v:=by
 cases o with
 | set i take=>
   cases take with
   | true=>cases h
   | false=>simp only [mR] at h;cases h;rfl
 | pick c a b=>
   simp only [mR] at h
   simp only [db]
   split at h <;> cases h
   ·rename_i e;rw [e];exact ⟨fun _=>rfl,fun e=>by cases e⟩
   ·rename_i e;rw [e];exact ⟨fun e=>(by cases e),fun _=>rfl⟩
 | bin op x y=>exact FH (φ:=fun z=>z=v) h rfl
 | shift op x y=>exact xV (φ:=fun z=>z=v) h rfl
 | ic op x y=>exact vv (φ:=fun z=>z=v) h rfl
 | jg kd neq x=>exact xW (φ:=fun z=>z=v) h rfl
 | un op x=>exact Jc (φ:=fun z=>z=v) h rfl
 | lL x=>
   simp only [mR] at h
   split at h <;> cases h
   rename_i hc
   exact ⟨hc,rfl⟩
 | build z ps=>
   obtain ⟨u,hu,rfl⟩:=Option.map_eq_some_iff.1 h
   exact vw (φ:=fun xs=>AV.agg xs=.agg u) rfl hu
 | buildSlice own esz z len ps=>
   obtain ⟨u,hu,rfl⟩:=Option.map_eq_some_iff.1 h
   exact pA (φ:=fun xs=>AV.ap own xs=.ap own u) rfl hu
 | load sz a=>exact nO (φ:=fun z=>z=v) h rfl
 | nilCheck x=>exact qw (φ:=fun z=>z=v) h rfl
 | fieldAddr off sz x=>exact oZ (φ:=fun z=>z=v) h rfl
 | field off sz x=>exact xX (φ:=fun z=>z=v) h rfl
 | indexAddr esz x i=>
   simp only [mR] at h
   split at h <;> try cases h
   rename_i hl
   exact ⟨vx hl,o7 (φ:=fun z=>z=v) h rfl⟩
 | dg x i=>exact qt (φ:=fun z=>z=v) h rfl
 | dQ n x i=>exact qv (φ:=fun z=>z=v) h rfl
 | slice esz x lo hi m=>exact vA (φ:=fun z=>z=v) h rfl
 | nt esz bytes n=>exact xY (φ:=fun z=>z=v) h rfl
 | dR x lo hi=>exact qx (φ:=fun z=>z=v) h rfl
 | len kd x=>
   simp only [mR] at h
   split at h <;> try cases h
   rename_i hl
   exact ⟨BO hl,FI (φ:=fun z=>z=v) h rfl⟩
 | lookup kd z m k ok=>exact vB (φ:=fun z=>z=v) h rfl
 | fn f first cap=>simp only [mR] at h;cases h;rfl
 | extract x i=>exact th (φ:=fun z=>z=v) h rfl
 | call f args pass=>
   cases pass with
   | some _=>cases h
   | none=>
     simp only [mR] at h
     simp only [db]
     split at h <;> try cases h
     rename_i g first cap e
     split at h <;> try cases h
     rename_i r H' hr
     split at h <;> cases h
     rename_i hb
     rw [e]
     refine ⟨_,cp _,(FK hC hr).mono ?_⟩
     rintro r' H'' ⟨rfl,rfl⟩
     exact ⟨rfl,zR hb⟩
 | eN k x=>exact tn (φ:=fun z=>z=v) h rfl
 | gH x=>exact tu (φ:=fun z=>z=v) h rfl
 | bytesOf x=>exact tv (φ:=fun z=>z=v) h rfl
 | strOf x=>exact x7 (φ:=fun z=>z=v) h rfl
 | mx big a b=>exact Jd (φ:=fun z=>z=v) h rfl
 | _=>cases h
def zS (C:gZ):List bt→Env→List aa→Option (Env×List aa)
 | [],env,H=>some (env,H)
 | o::r,env,H=>match o.g with
   | none=>match gV C o.op o.dst env H with
     | some (env,H)=>zS C r env H
     | none=>none
   | some (g,want)=>match get env g with
     | .bool b=>if b=want then (match gV C o.op o.dst ((g,.bool want)::env) H with
        | some (env,H)=>zS C r env H
        | none=>none) else zS C r (put o.dst (.tuple []) ((g,.bool (!want))::env)) H
     | .tuple []=>zS C r (put o.dst (.tuple []) env) H
     | _=>none
theorem rR {P:Program} {C:gZ} (hC:kL P C):∀ {l:List bt} {env aB:Env} {H H':List aa} {K:Env→List aa→Prop},zS C l env H=some (aB,H')→K aB H'→jm P l env H K
 | [],env,aB,H,H',K,h,hK=>by simp only [zS] at h;cases h;exact hK
 | o::r,env,aB,H,H',K,h,hK=>by
   simp only [zS] at h
   simp only [jm,rH]
   cases hg:o.g with
   | none=>
     simp only [hg] at h ⊢
     split at h <;> try cases h
     rename_i e2 H2 h2
     exact Jg (K:=fun env H=>jm P r env H K) hC h2 (rR hC h hK)
   | some p=>
     obtain ⟨g,want⟩:=p
     simp only [hg] at h ⊢
     simp only [iq]
     split at h
     rotate_left
     ·rename_i hb
      simp only [hb]
      exact rR hC h hK
     ·cases h
     rename_i b hb
     simp only [hb]
     split at h
     ·rename_i FA
      subst FA
      split at h <;> try cases h
      rename_i e2 H2 h2
      exact ⟨fun _=>Jg (K:=fun env H=>jm P r env H K) hC h2 (rR hC h hK),fun e=>by cases b <;> cases e⟩
     ·rename_i FA
      exact ⟨fun e=>absurd e FA,fun _=>rR hC h hK⟩
def Ye (C:gZ) (st:Bool) (o:bY) (ρ:IX→AV) (H:List aa):Option AV:=
 match st with
 | true=>mR C o ρ H
 | false=>match o with
   | .load sz i=>(match ρ i with | .ai y=>px sz (.ai y) [] | _=>none)
   | .call f args none=>(match ρ f with
     | .fn (.func g) first cap=>if aj 0 (first.map AV.ab++(args.map fun x=>(ρ x).ab)++cap.map AV.ab)=true then (match C false g (first.map AV.ab++(args.map fun x=>(ρ x).ab)++cap.map AV.ab) [] with
       | some (r,[])=>some r
       | _=>none) else none
     | _=>none)
   | .call _ _ _=>none
   | .len kd i=>(match ρ i with | .map _=>none | _=>mR C o ρ [])
   | .lookup kd z m k ok=>(match ρ m with | .iS=>mR C o ρ [] | _=>none)
   | o=>mR C o ρ []
theorem Jh {x:AV} {H H':List aa} {φ:AV→Prop} (h:fq x H φ) (hm:∀ id,x≠.map id):fq x H' φ:=by
 unfold fq at *
 split at h <;> first | exact h | exact h.elim | exact absurd rfl (hm _)
theorem Pf {P:Program} {C:gZ} (hC:kL P C) {st:Bool} {o:bY} {ρ:IX→AV} {H:List aa} {v:AV} (h:Ye C st o ρ H=some v):dv P st o ρ H v:=by
 cases st with
 | true=>exact uh hC h
 | false=>
   intro H'
   simp only [Ye] at h
   split at h
   ·split at h <;> try cases h
    rename_i sz i y hy
    simp only [db]
    rw [hy]
    have:=nO (φ:=fun z=>z=v) h rfl
    unfold aR at this ⊢
    exact this
   ·rename_i f args
    split at h <;> try cases h
    rename_i g first cap hf
    split at h <;> try cases h
    rename_i hb
    split at h <;> cases h
    rename_i hr
    simp only [db,hf]
    exact ⟨_,cp _,aq.frame (R:=fun r=>r=v) (fun x hx=>(ba 0 _).1 hb x hx) (hC.1 _ _ _ _ _ hr) H'⟩
   ·cases h
   ·rename_i kd i
    split at h
    ·cases h
    ·rename_i eM
     have:=uh hC h
     simp only [db] at this ⊢
     exact ⟨this.1,Jh this.2 eM⟩
   ·rename_i kd z m k ok
    split at h <;> try cases h
    rename_i hm
    have:=uh hC h
    simp only [db,hm,cr] at this ⊢
    exact this
   ·rename_i _ h1 h0 h2 h3 h4
    have:=uh hC h
    cases o <;> first | exact this | exact (h1 _ _ rfl).elim | exact (h2 _ _ _ rfl).elim | exact (h3 _ _ rfl).elim | exact (h4 _ _ _ _ _ rfl).elim | (rename_i take;cases take <;> exact this)
def Hi:Env→Env→Bool
 | [],[]=>true
 | (a,x)::r,(b,y)::s=>a == b && x.beq y && Hi r s
 | _,_=>false
theorem Ji:∀ {xs ys:Env},Hi xs ys=true→xs=ys
 | [],[],_=>rfl
 | (a,x)::r,(b,y)::s,h=>by
   simp only [Hi,Bool.and_eq_true,beq_iff_eq] at h
   rw [h.1.1,AV.qy h.1.2,Ji h.2]
 | [],_::_,h=>by simp [Hi] at h
 | _::_,[],h=>by simp [Hi] at h
def Mo (C:gZ) (o:bt) (env:Env) (H:List aa):Option (Env×List aa):=zS C [o] env H
theorem Jj {P:Program} {C:gZ} (hC:kL P C) {o:bt} {env aB:Env} {H H':List aa} {K:Env→List aa→Prop} (h:Mo C o env H=some (aB,H')) (hK:K aB H'):rH P o env H K:=rR hC h hK
def Jk (C:gZ) (st:Bool) (o:bt) (env:Env) (H:List aa):Option Env:=
 match o.g with
 | none=>match Ye C st o.op (al env) H with
   | some x=>some (put o.dst x env)
   | none=>none
 | some (g,want)=>match get env g with
   | .bool b=>if b=want then (match Ye C st o.op (al env) H with
      | some x=>some (put o.dst x env)
      | none=>none) else some (put o.dst (.tuple []) env)
   | .tuple []=>some (put o.dst (.tuple []) env)
   | _=>none
theorem Mq {P:Program} {C:gZ} (hC:kL P C) {st:Bool} {o:bt} {env aB:Env} {H:List aa} {K:Env→Prop} (h:Jk C st o env H=some aB) (hK:K aB):sY P st o env H K:=by
 unfold Jk at h
 unfold sY
 cases hg:o.g with
 | none=>
   simp only [hg] at h ⊢
   split at h <;> cases h
   rename_i x hx
   exact ⟨x,Pf hC hx,hK⟩
 | some p=>
   obtain ⟨g,want⟩:=p
   simp only [hg] at h ⊢
   simp only [iq]
   split at h
   rotate_left
   ·rename_i hb
    simp only [hb]
    cases h
    exact hK
   ·cases h
   rename_i b hb
   simp only [hb]
   split at h
   ·rename_i FA
    subst FA
    split at h <;> cases h
    rename_i x hx
    exact ⟨fun _=>⟨x,Pf hC hx,hK⟩,fun e=>by cases b <;> cases e⟩
   ·rename_i FA
    cases h
    exact ⟨fun e=>absurd e FA,fun _=>hK⟩
abbrev xf:=List (Env×List aa)
def Mr (x:Env×List aa):xf→Bool
 | []=>false
 | y::r=>match Hi x.1 y.1 && BR x.2 y.2 with | true=>true | false=>Mr x r
def pB (l:xf):xf→xf
 | []=>l
 | x::r=>match Mr x l with | true=>pB l r | false=>x::pB l r
theorem Jl {x:Env×List aa}:∀ {l:xf},Mr x l=true→x∈l
 | [],h=>by cases h
 | y::r,h=>by
   unfold Mr at h
   split at h
   ·rename_i e
    simp only [Bool.and_eq_true] at e
    have e1:=Ji e.1
    have e2:=zR e.2
    have:x=y:=by cases x;cases y;simp only at e1 e2;rw [e1,e2]
    rw [this];exact List.mem_cons_self
   ·exact List.mem_cons_of_mem _ (Jl h)
theorem BS {l:xf}:∀ {m:xf},(∀ x∈l,x∈pB l m)∧∀ x∈m,x∈pB l m
 | []=>⟨fun x h=>h,fun x h=>by cases h⟩
 | y::r=>by
   obtain ⟨h1,h2⟩:=BS (l:=l) (m:=r)
   unfold pB
   split
   ·rename_i e
    refine ⟨h1,fun x hx=>?_⟩
    rcases List.mem_cons.1 hx with rfl | hx
    ·exact h1 _ (Jl e)
    ·exact h2 x hx
   ·refine ⟨fun x hx=>List.mem_cons_of_mem _ (h1 x hx),fun x hx=>?_⟩
    rcases List.mem_cons.1 hx with rfl | hx
    ·exact List.mem_cons_self
    ·exact List.mem_cons_of_mem _ (h2 x hx)
def Dt (C:gZ) (live:Option (List Nat)):DT→Env→List aa→Option xf
 | .done,env,H=>some [(eE live env,H)]
 | .take st o r,env,H=>match Jk C st o env H with
   | some aB=>Dt C live r aB H
   | none=>none
 | .br o t .nil,env,H=>match Mo C o env H with
   | some (aB,H')=>Dt C live t aB H'
   | none=>none
 | .br o t rest,env,H=>match Mo C o env H with
   | some (aB,H')=>match Dt C live t aB H',Dt C live rest env H with
     | some l1,some l2=>some (pB l1 l2)
     | _,_=>none
   | none=>none
 | .nil,_,_=>none
theorem UF {P:Program} {C:gZ} (hC:kL P C) {live:Option (List Nat)}:∀ {t:DT} {env:Env} {H:List aa} {l:xf} {K:Env→List aa→Prop},Dt C live t env H=some l→(∀ o∈l,K o.1 o.2)→ub P t env H fun e H=>K (eE live e) H:=by
 intro t
 induction t with
 | done=>intro env H l K h hK;simp only [Dt] at h;cases h;exact hK _ List.mem_cons_self
 | nil=>intro env H l K h hK;simp [Dt] at h
 | take st o r ih=>
   intro env H l K h hK
   simp only [Dt] at h
   split at h <;> try cases h
   rename_i e2 he
   exact Mq (K:=fun env=>ub P r env H fun e H=>K (eE live e) H) hC he (ih h hK)
 | br o t rest I7 Fz=>
   intro env H l K h hK
   have key:∀ rest',(∀ {env:Env} {H:List aa} {l:xf} {K:Env→List aa→Prop},Dt C live rest' env H=some l→(∀ o∈l,K o.1 o.2)→ub P rest' env H fun e H=>K (eE live e) H)→rest'=rest→
    ((match Mo C o env H with
    | some (aB,H')=>match Dt C live t aB H',Dt C live rest' env H with
      | some l1,some l2=>some (pB l1 l2)
      | _,_=>none
    | none=>none)=some l)→ub P (.br o t rest') env H fun e H=>K (eE live e) H:=by
    intro rest' ihr' _ h
    split at h <;> try cases h
    rename_i e2 H2 h2
    split at h <;> try cases h
    rename_i l1 l2 h3 h4
    obtain ⟨u1,u2⟩:=BS (l:=l1) (m:=l2)
    exact ⟨Jj (K:=fun env H=>ub P t env H fun e H=>K (eE live e) H) hC h2 (I7 h3 fun o ho=>hK o (u1 o ho)),ihr' h4 fun o ho=>hK o (u2 o ho)⟩
   cases rest with
   | nil=>
     simp only [Dt] at h
     split at h <;> try cases h
     rename_i e2 H2 h2
     exact ⟨Jj (K:=fun env H=>ub P t env H fun e H=>K (eE live e) H) hC h2 (I7 h hK),trivial⟩
   | done=>exact key _ (fun h hK=>Fz h hK) rfl (by simpa only [Dt] using h)
   | take st o' r=>exact key _ (fun h hK=>Fz h hK) rfl (by simpa only [Dt] using h)
   | br o' t' r=>exact key _ (fun h hK=>Fz h hK) rfl (by simpa only [Dt] using h)
end Go.aH
