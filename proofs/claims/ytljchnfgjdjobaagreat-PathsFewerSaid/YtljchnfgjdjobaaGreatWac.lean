/- Part 3 of 18 of the proof. -/
import Derived.Test.YtljchnfgjdjobaaGreatWab
set_option linter.unusedVariables false
set_option linter.unusedSimpArgs false
set_option linter.defProp false
set_option linter.unusedSectionVars false
section
namespace Go.aH
open Go
section
variable {P:Program}
theorem qj:∀ (l:List (Nat×Value)) (t:Array Value),(l.foldl (fun t p=>t.setIfInBounds p.1 p.2) t).size=t.size
 | [],t=>rfl
 | p::l,t=>by rw [List.foldl_cons,qj l];simp
theorem tg {M:Mem} {L:List Nat}:∀ {ps:List Nat} {vs:List Value} {xs:List AV} {t:Array Value} {env:Env},aG M L vs xs→(∀ p∈ps,p < t.size)→(∀ s,aS M L (t.getD s undef) (get env s))→
 ∀ s,aS M L (((ps.zip vs).foldl (fun t p=>t.setIfInBounds p.1 p.2) t).getD s undef) (get ((ps.zip xs).reverse++env) s)
 | [],_,_,t,env,_,_,h,s=>by simpa using h s
 | p::ps,[],[],t,env,_,_,h,s=>by simpa using h s
 | p::ps,v::vs,x::xs,t,env,hr,hp,h,s=>by
   cases hr with
   | cons _ _ _ _ h1 h2=>
   simp only [List.zip_cons_cons,List.foldl_cons,List.reverse_cons,List.append_assoc,List.singleton_append]
   refine tg (env:=(p,x)::env) h2 (fun q hq=>by simpa using hp q (List.mem_cons_of_mem _ hq)) (fun s=>?_) s
   have wN:=hp p List.mem_cons_self
   simp only [Array.getD_eq_getD_getElem?,Array.getElem?_setIfInBounds,get]
   by_cases e:s=p
   ·subst e;simp [wN,h1]
   ·rw [if_neg (fun e'=>e e'.symm),if_neg e]
    have:=h s
    rwa [Array.getD_eq_getD_getElem?] at this
theorem Ja {es:List AV} (h:∀ x∈es,∀ own xs,x=.ap own xs→own=0) {l:List (Nat×AV)} (hl:∀ p∈l,∀ own xs,p.2=.ap own xs→own=0) (s:Nat):∀ own xs,get (l++bX 0 es) s=.ap own xs→own=0:=by
 induction l with
 | nil=>
   intro own xs e
   rw [List.nil_append,l9,if_pos (Nat.zero_le _),List.getD_eq_getElem?_getD] at e
   cases hx:es[s - 0]? with
   | none=>rw [hx] at e;cases e
   | some x=>rw [hx] at e;exact h x (List.mem_of_getElem? hx) own xs e
 | cons p l ih=>
   obtain ⟨k,v⟩:=p
   intro own xs e
   simp only [List.cons_append,get] at e
   split at e
   ·exact hl (k,v) (by simp) own xs e
   ·exact ih (fun p hp=>hl p (by simp [hp])) own xs e
def Hb (n0:Nat) (b:Bool) (H:List aa) (R:AV→List aa→Prop):Prop:=n0≤H.length∧R (.bool b) (H.take n0)
def qk (n0 id:Nat) (R:AV→List aa→Prop) (e:Exit) (H:List aa):Prop:=
 match H[id]? with
 | some (.loop .busy lc es)=>(match e with
   | .normal=>Hb n0 true (H.set id (.loop .ready lc es)) R
   | .ret=>Hb n0 false (H.set id (.loop (.jump .ret) lc es)) R
   | .exit k=>Hb n0 false (H.set id (.loop (.jump (.exit k)) lc es)) R
   | _=>False)
 | _=>False
def jO (id:Nat) (H:List aa) (K:List aa→Prop):Prop:=
 match H[id]? with
 | some (.loop .ready lc es)=>K (H.set id (.loop .busy lc es))
 | _=>False
def Y8 (lc:iH) (es:List AV) (args:List AV):Prop:=es.length=lc.n∧args.length=lc.ps.length∧lc.ps.all (· < lc.n)=true∧(∀ x∈es,x.ab=x)∧∀ x∈args,x.ab=x
theorem vk {x:AV} (h:x.ab=x):∀ own xs,x=.ap own xs→own=0:=by
 rintro own xs rfl
 simp only [AV.ab] at h
 cases h;rfl
theorem ot {id:Nat} {args:List AV} {H:List aa} {lc:iH} {es:List AV} {ia ib:IR} {R:AV→List aa→Prop} (bk:H[id]?=some (.loop .ready lc es))
 (ha:comp P lc.an lc.lv lc.pl lc.n lc.as=some ia) (hb:comp P lc.an lc.lv lc.pl lc.n lc.bd=some ib) (za:Y8 lc es args)
 (h:mP P H.length ia ((lc.ps.zip args).reverse++bX 0 es) H fun e env1 H1=>e=.normal∧jO id H1 fun H2=>mP P H.length ib env1 H2 fun e _ H3=>qk H.length id R e H3):jH P id args H R:=by
 intro A M L w vs O b hA hs hL bO
 obtain ⟨r,q1,q2,q3,q4,q5,q6⟩:=bO.obj id _ b bk hL
 obtain ⟨c1,c2,c3,c4,c5⟩:=za
 have LB:L.length=H.length:=bO.len
 have xE:b∈L:=List.mem_of_getElem? hL
 refine ⟨r.fn,_,r.assign,r.body,run_yield q1 (by rw [q2];simp;omega),?_⟩
 have htz:(r.params.zip vs).foldl (fun t (p:Nat×Value)=>t.setIfInBounds p.1 p.2) r.tmps=(lc.ps.zip vs.toList).foldl (fun t p=>t.setIfInBounds p.1 p.2) r.tmps:=by
  rw [q2,← Array.foldl_toList]
  simp
 have htm:((r.params.zip vs).foldl (fun tmps (x:Nat×Value)=>match x with | (t,a)=>tmps.setIfInBounds t a) r.tmps)=(lc.ps.zip vs.toList).foldl (fun t p=>t.setIfInBounds p.1 p.2) r.tmps:=htz
 rw [htm,q3,q4]
 obtain ⟨t0,UD⟩:∃ t0,t0=(lc.ps.zip vs.toList).foldl (fun t p=>t.setIfInBounds p.1 p.2) r.tmps:=⟨_,rfl⟩
 rw [← UD]
 have df:r.tmps.size=lc.n:=by have:=q5.length;rw [c1] at this;simpa using this
 have wX:aG M L vs.toList args:=by
  refine aG.yW (by simpa using hs) fun j x hx=>?_
  have h1:=bO.env j
  have hj:j < vs.size:=by rw [hs];exact aK hx
  refine ⟨vs[j],by simp [hj],?_⟩
  simp only [Array.getD_eq_getD_getElem?,List.getD_eq_getElem?_getD,hx,Option.getD_some,Array.getElem?_eq_getElem hj] at h1
  exact h1
 have fF:∀ s,aS M L (t0.getD s undef) (get ((lc.ps.zip args).reverse++bX 0 es) s):=by
  rw [UD]
  refine tg wX (fun p hp=>by rw [df];simpa using List.all_eq_true.1 c3 p hp) fun s=>?_
  rw [l9,if_pos (Nat.zero_le _),Nat.sub_zero]
  have:=q5.getD s
  simpa [Array.getD_eq_getD_getElem?,List.getD_eq_getElem?_getD] using this
 have hfree:=Ja (fun x hx=>vk (c4 x hx)) (l:=(lc.ps.zip args).reverse) (fun p hp own xs e=>vk (c5 p.2 (List.of_mem_zip (List.mem_reverse.1 hp)).2) own xs e)
 obtain ⟨A2,D7⟩:∃ A2:Perm,A2={ A with base:=w.heap.size }:=⟨_,rfl⟩
 have st12:∀ {M:Mem} {L:List Nat} {w:World} {H:List aa} {ev:Nat→Value} {ea:Nat→AV} {O:Pos→Option Nat},St A M L w H ev ea O→St A2 M L w H ev ea O:=by
  intro M L w H ev ea O h;subst D7
  exact { len:=h.len,nodup:=h.nodup,env:=h.env,mem:=h.mem,obj:=h.obj,bA:=h.bA,lt:=h.lt,gX:=h.gX,gT:=h.gT,b7:=h.b7,ct:=h.ct,fj:=h.fj,La:=h.La,Oa:=h.Oa,fresh:=h.fresh }
 have st21:∀ {M:Mem} {L:List Nat} {w:World} {H:List aa} {ev:Nat→Value} {ea:Nat→AV} {O:Pos→Option Nat},St A2 M L w H ev ea O→St A M L w H ev ea O:=by
  intro M L w H ev ea O h;subst D7
  exact { len:=h.len,nodup:=h.nodup,env:=h.env,mem:=h.mem,obj:=h.obj,bA:=h.bA,lt:=h.lt,gX:=h.gX,gT:=h.gT,b7:=h.b7,ct:=h.ct,fj:=h.fj,La:=h.La,Oa:=h.Oa,fresh:=h.fresh }
 have ex21:∀ {M M':Mem} {w w':World},Ext A2 M w M' w'→Ext A M w M' w':=by
  intro M M' w w' h;subst D7
  exact ⟨h.kR,h.size,h.os,h.tape,h.output,h.kz,h.loops⟩
 have hfits:fL none L.length A2:=by rw [D7,LB];exact pw hA
 have Dr:Fr A2 lc.n M L w H ((lc.ps.zip args).reverse++bX 0 es) _ { tmps:=t0,defers:=[] }:=
  ⟨st12 (bO.pZ (fun t=>t0.getD t undef) (get ((lc.ps.zip args).reverse++bX 0 es)) fF hfree),by rw [UD,qj,df],⟨by rw [D7];exact Nat.le_refl _,List.nodup_nil,fun d h=>by cases h⟩⟩
 rw [← LB] at h
 refine roundIn_of_wpIn trivial ?_
 have tO:Own (some b) w:=fun l e=>by cases e;exact ⟨r,q1⟩
 refine Go.wpIn_mono (F:=wf (some b)) (D6 (ro:=some b) (L0:=L) lc.as ia ha hfits tO h Dr (List.prefix_refl L)) ?_
 rintro e a1 w1 ⟨A',M1,L1,H1,env1,O1,hle,⟨rfl,Mk⟩,Fp,s5,Yb⟩
 unfold jO at Mk
 split at Mk <;> try exact Mk.elim
 rename_i lc1 es1 Ml
 have tT:L1[id]?=some b:=fR Yb hL
 obtain ⟨r1,p1,p2,p3,p4,p5,p6⟩:=Fp.st.obj id _ b Ml tT
 obtain ⟨k1,k2⟩:=Fp.st.om (st':=.busy) (r':={ r1 with state:=.busy }) Ml tT (fun r2 rE=>by rw [p1] at rE;cases rE;exact ⟨rfl,rfl,rfl,rfl,rfl,rfl⟩)
 refine ⟨_,run_beginRound p1 p6.1,?_⟩
 have hown1:Own (some b) (w1.putObj b (.loop { r1 with state:=.busy })):=(tO.ext s5).ext k2
 refine Go.wpIn_mono (F:=wf (some b)) (D6 (ro:=some b) (L0:=L) lc.bd ib hb (hfits.le hle) hown1 Mk ⟨k1,Fp.size,Fp.defers.ext k2⟩ Yb) ?_
 rintro e a2 w2 ⟨A3,M2,L2,H2,cP,O2,wY,qm,sU,Pe,QJ⟩
 unfold qk at qm
 split at qm <;> try exact qm.elim
 rename_i lc2 es2 Me
 have rn:L2[id]?=some b:=fR QJ hL
 obtain ⟨r2,g1,g2,g3,g4,g5,g6⟩:=sU.st.obj id _ b Me rn
 have idn:id < H.length:=aK bk
 have fin:∀ (jump:Option Code) (st':TL),st'.ok { r2 with state:=if jump.isNone then .ready else .done,pending:=jump }→Hb L.length jump.isNone (H2.set id (.loop st' lc2 es2)) R→
  ∃ v w',(Instr.endRound b jump).run P w2=.ok v w'∧∃ v' r' H' M' L' O',Ending.returned v=.returned v'∧R r' H'∧St A M' L' w' H' (fz (fun _=>undef) 0 v') (fz (fun _=>.any) 0 r') O'∧Ext A M w M' w'∧L <+: L':=by
  intro jump st' lR G9
  obtain ⟨m1,m2⟩:=sU.st.om (st':=st') (r':={ r2 with state:=if jump.isNone then .ready else .done,pending:=jump }) Me rn (fun r3 LD=>by rw [g1] at LD;cases LD;exact ⟨rfl,rfl,rfl,rfl,rfl,lR⟩)
  refine ⟨_,_,run_endRound jump g1,?_⟩
  obtain ⟨hlen,hR⟩:=G9
  have m3:=m1.pZ (fz (fun _=>undef) 0 (.bool jump.isNone)) (fz (fun _=>.any) 0 (.bool jump.isNone)) (fun t=>by
   simp only [fz];split
   ·exact .bool _
   ·exact .any _) (fun t own xs e=>by
   simp only [fz] at e;split at e <;> cases e)
  obtain ⟨O3,m4⟩:=m3.cut L.length (fun id' o UE ho=>(((hfits.le hle).le wY)).closed (Nat.le_refl _) m3 id' o UE ho) (fun t=>by
   simp only [fz];split <;> rfl)
  have hx:Ext A M w M2 (w2.putObj b (.loop { r2 with state:=if jump.isNone then .ready else .done,pending:=jump })):=
   ex21 ((s5.trans (k2.le hle)).trans ((Pe.le hle).trans (m2.le (wY.trans hle))))
  refine ⟨_,_,_,M2,_,O3,rfl,hR,st21 ((m4.le wY).le hle),hx,?_⟩
  obtain ⟨s,rfl⟩:=QJ
  exact ⟨[],by simp⟩
 cases e with
 | normal=>exact fin none .ready ⟨rfl,rfl⟩ qm
 | ret=>exact fin (some .ret) (.jump .ret) ⟨rfl,rfl⟩ qm
 | exit k=>exact fin (some (.exit k)) (.jump (.exit k)) ⟨rfl,rfl⟩ qm
 | _=>exact qm.elim
end
end Go.aH
end
section
namespace Go.aH
open Go
section
variable {P:Program} {A:Perm} {M:Mem} {L:List Nat} {w:World} {H:List aa} {ev:Nat→Value} {ea:Nat→AV} {O:Pos→Option Nat}
def BL (O:Pos→Option Nat) (w:World):Perm:=⟨fun b=>(∃ t,O (.t t)=some b)∨w.heap.size≤b,fun id=>some (id + 1),(fun id n h=>by cases h;omega),0⟩
theorem BM (O:Pos→Option Nat) (w:World):(BL O w).entry false ([]:List aa).length:=⟨fun id h=>absurd h (Nat.not_lt_zero _),fun id _=>rfl⟩
theorem St.bare (h:St A M L w H ev ea O) (hb:∀ t,(ea t).aZ 0=true):St (BL O w) M [] w [] ev ea (fun p=>match p with | .t t=>O (.t t) | .c _ _=>none):=by
 have hO:∀ (p:Pos) (b:Nat),(match p with | .t t=>O (.t t) | .c _ _=>none)=some b→O p=some b∧∃ t,p=.t t:=by
  intro p b hp
  cases p with
  | t t=>exact ⟨hp,t,rfl⟩
  | c id j=>cases hp
 exact { len:=rfl,nodup:=by simp,env:=fun t=>(by have:=(h.env t).gk (hb t);simpa using this),mem:=h.mem,obj:=fun id o b ho=>(by simp at ho),bA:=fun id o ho=>(by simp at ho),lt:=fun b hb=>(by cases hb)
         gX:=fun t=>h.gX t,gT:=fun id j=>(by simp [bn,bf]),b7:=fun p q b hp hq=>h.b7 p q b (hO p b hp).1 (hO q b hq).1,ct:=fun p b hp hm=>(by cases hm),fj:=fun p b hp=>h.fj p b (hO p b hp).1,
         La:=fun b hb=>(by cases hb),Oa:=fun p b hp=>(by obtain ⟨h1,t,rfl⟩:=hO p b hp;exact .inl ⟨t,h1⟩),fresh:=fun b hb=>.inr hb }
theorem St.Jb (h:St A M L w H ev ea O) {M':Mem} {w':World} {v:Value} {r:AV} {L':List Nat} {O':Pos→Option Nat}
 (h':St (BL O w) M' L' w' [] (fz (fun _=>undef) 0 v) (fz (fun _=>.any) 0 r) O')
 (cB:Ext (BL O w) M w M' w') :
 ∃ O3,St A M' L w' H (fz (fun _=>undef) 0 v) (fz (fun _=>.any) 0 r) O3∧Ext A M w M' w':=by
 have Ux:L'=[]:=by have:=h'.len;simpa using this
 subst Ux
 have hAA:∀ b,((∃ t,O (.t t)=some b)∨w.heap.size≤b)→A b:=by
  rintro b (⟨t,ht⟩ | hb)
  ·exact h.Oa _ b ht
  ·exact h.fresh b hb
 have keepL:∀ b∈L,w'.heap[b]?=w.heap[b]?∧∀ o,M' b o=M b o:=fun b hb=>cB.kz b (h.lt b hb) (by
  rintro (⟨t,ht⟩ | hs)
  ·exact h.ct _ b ht hb
  ·exact absurd (h.lt b hb) (by omega))
 have keepC:∀ id j b,O (.c id j)=some b→w'.heap[b]?=w.heap[b]?∧∀ o,M' b o=M b o:=fun id j b hb=>cB.kz b (h.fj _ b hb) (by
  rintro (⟨t,ht⟩ | hs)
  ·cases h.b7 _ _ b ht hb
  ·exact absurd (h.fj _ b hb) (by omega))
 let O3:Pos→Option Nat:=fun p=>match p with | .t t=>if t=0 then O' (.t 0) else none | .c id j=>O (.c id j)
 have QN:∀ b,O' (.t 0)=some b→b∉L∧(∀ id j,O (.c id j)≠some b):=by
  intro b hb
  rcases h'.Oa _ b hb with ⟨t,ht⟩ | hs
  ·exact ⟨h.ct _ b ht,fun id j hc=>by cases h.b7 _ _ b ht hc⟩
  ·exact ⟨fun hm=>absurd (h.lt b hm) (by omega),fun id j hc=>absurd (h.fj _ b hc) (by omega)⟩
 refine ⟨O3,?_,⟨cB.kR,cB.size,cB.os,cB.tape,cB.output,fun b hb hA=>cB.kz b hb (fun hx=>hA (hAA b hx)),cB.loops⟩⟩
 exact { len:=h.len,nodup:=h.nodup
         env:=fun t=>(h'.env t).mono (Mem.bM _) (List.nil_prefix)
         mem:=h'.mem
         obj:=fun id o b ho hb=>(h.obj id o b ho hb).mono cB.kR (List.prefix_refl _) (keepL b (List.mem_of_getElem? hb)).1 (keepL b (List.mem_of_getElem? hb)).2
         bA:=h.bA
         lt:=fun b hb=>Nat.lt_of_lt_of_le (h.lt b hb) cB.size
         gX:=fun t=>by
          by_cases e:t=0
          ·subst e;simpa [O3] using h'.gX 0
          ·simp [O3,e,fz,bf]
         gT:=fun id j=>by
          have e1:bJ L w' id j=bJ L w id j:=by
           unfold bJ
           cases hl:L[id]? with
           | none=>rfl
           | some b=>simp only [World.cell?,(keepL b (List.mem_of_getElem? hl)).1]
          rw [e1]
          exact (h.gT id j).mono fun b hb=>keepC id j b hb
         b7:=fun p q b hp hq=>by
          cases p with
          | t t=>
            simp only [O3] at hp
            split at hp
            ·rename_i e;subst e
             cases q with
             | t t'=>
               simp only [O3] at hq
               split at hq
               ·rename_i e;subst e;rfl
               ·cases hq
             | c id j=>exact absurd hq ((QN b hp).2 id j)
            ·cases hp
          | c id j=>
            cases q with
            | t t'=>
              simp only [O3] at hq
              split at hq
              ·exact absurd hp ((QN b hq).2 id j)
              ·cases hq
            | c id' j'=>exact h.b7 _ _ b hp hq
         ct:=fun p b hp=>by
          cases p with
          | t t=>
            simp only [O3] at hp
            split at hp
            ·exact (QN b hp).1
            ·cases hp
          | c id j=>exact h.ct _ b hp
         fj:=fun p b hp=>by
          cases p with
          | t t=>
            simp only [O3] at hp
            split at hp
            ·exact h'.fj _ b hp
            ·cases hp
          | c id j=>exact Nat.lt_of_lt_of_le (h.fj _ b hp) cB.size
         La:=h.La
         Oa:=fun p b hp=>by
          cases p with
          | t t=>
            simp only [O3] at hp
            split at hp
            ·exact hAA b (h'.Oa _ b hp)
            ·cases hp
          | c id j=>exact h.Oa _ b hp
         fresh:=fun b hb=>h.fresh b (Nat.le_trans cB.size hb) }
theorem aq.frame {f:FuncId} {args:List AV} {R:AV→Prop} (ha:∀ x∈args,x.aZ 0=true) (h:aq P f args [] fun r H'=>R r∧H'=[]) (H:List aa):aq P f args H fun r H'=>R r∧H'=H:=by
 intro A M L w vs O hA hs bO
 have hb:∀ t,(args.getD t .any).aZ 0=true:=by
  intro t
  rw [List.getD_eq_getElem?_getD]
  cases hx:args[t]? with
  | none=>rfl
  | some x=>exact ha x (List.mem_of_getElem? hx)
 rcases h (BL O w) M [] w vs _ (BM O w) hs (bO.bare hb) with ⟨h1,h2⟩ | ⟨v,w',r,H',M',L',O',h1,⟨h2,rfl⟩,h3,h4,_⟩
 ·refine .inl ⟨h1,h2.mono ?_⟩
  rintro e w' ⟨v,r,H',M',L',O',k1,⟨k2,rfl⟩,k3,k4,_⟩
  obtain ⟨O3,g1,g2⟩:=bO.Jb k3 k4
  exact ⟨v,r,H,M',L,O3,k1,⟨k2,rfl⟩,g1,g2,List.prefix_refl L⟩
 ·obtain ⟨O3,g1,g2⟩:=bO.Jb h3 h4
  exact .inr ⟨v,w',r,H,M',L,O3,h1,⟨h2,rfl⟩,g1,g2,List.prefix_refl L⟩
end
end Go.aH
end
