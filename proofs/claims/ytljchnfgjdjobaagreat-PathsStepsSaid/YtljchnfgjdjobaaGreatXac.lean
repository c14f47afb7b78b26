/- Part 3 of 17 of the proof. -/
import Derived.Test.YtljchnfgjdjobaaGreatXab
set_option linter.unusedVariables false
set_option linter.unusedSimpArgs false
set_option linter.defProp false
set_option linter.unusedSectionVars false
section
namespace Go.aK
open Go
section
variable {P:Program}
theorem rO:∀ (l:List (Nat×Value)) (t:Array Value),(l.foldl (fun t p=>t.setIfInBounds p.1 p.2) t).size=t.size
 | [],t=>rfl
 | p::l,t=>by rw [List.foldl_cons,rO l];simp
theorem uS {M:Mem} {L:List Nat}:∀ {ps:List Nat} {vs:List Value} {xs:List AV} {t:Array Value} {env:Env},aM M L vs xs→(∀ p∈ps,p < t.size)→(∀ s,aX M L (t.getD s undef) (get env s))→
 ∀ s,aX M L (((ps.zip vs).foldl (fun t p=>t.setIfInBounds p.1 p.2) t).getD s undef) (get ((ps.zip xs).reverse++env) s)
 | [],_,_,t,env,_,_,h,s=>by simpa using h s
 | p::ps,[],[],t,env,_,_,h,s=>by simpa using h s
 | p::ps,v::vs,x::xs,t,env,hr,hp,h,s=>by
   cases hr with
   | cons _ _ _ _ h1 h2=>
   simp only [List.zip_cons_cons,List.foldl_cons,agI,abb,List.singleton_append]
   refine uS (env:=(p,x)::env) h2 (fun q hq=>by simpa using hp q (aa6 _ hq)) (fun s=>?_) s
   have vM:=hp p abn
   simp only [acw,adn,get]
   by_cases e:s=p
   ·subst e;simp [vM,h1]
   ·rw [if_neg (fun e'=>e e'.symm),if_neg e]
    have:=h s
    rwa [acw] at this
theorem LP {es:List AV} (h:∀ x∈es,∀ own xs,x=.ak own xs→own=0) {l:List (Nat×AV)} (hl:∀ p∈l,∀ own xs,p.2=.ak own xs→own=0) (s:Nat):∀ own xs,get (l++cj 0 es) s=.ak own xs→own=0:=by
 induction l with
 | nil=>
   intro own xs e
   rw [List.nil_append,nj,if_pos (ac4 _),sT] at e
   cases hx:es[s - 0]? with
   | none=>rw [hx] at e;cases e
   | some x=>rw [hx] at e;exact h x (abJ hx) own xs e
 | cons p l ih=>
   obtain ⟨k,v⟩:=p
   intro own xs e
   simp only [List.cons_append,get] at e
   split at e
   ·exact hl (k,v) (by simp) own xs e
   ·exact ih (fun p hp=>hl p (by simp [hp])) own xs e
def JL (n0:Nat) (b:Bool) (H:List aa) (R:AV→List aa→Prop):Prop:=n0≤H.length∧R (.bool b) (H.take n0)
def rP (n0 id:Nat) (R:AV→List aa→Prop) (e:Exit) (H:List aa):Prop:=
 match H[id]? with
 | some (.loop .busy lc es)=>(match e with
   | .normal=>JL n0 true (H.set id (.loop .ready lc es)) R
   | .ret=>JL n0 false (H.set id (.loop (.jump .ret) lc es)) R
   | .exit k=>JL n0 false (H.set id (.loop (.jump (.exit k)) lc es)) R
   | _=>False)
 | _=>False
def kL (id:Nat) (H:List aa) (K:List aa→Prop):Prop:=
 match H[id]? with
 | some (.loop .ready lc es)=>K (H.set id (.loop .busy lc es))
 | _=>False
def adM (lc:jm) (es:List AV) (args:List AV):Prop:=es.length=lc.n∧args.length=lc.ps.length∧lc.ps.all (· < lc.n)=true∧(∀ x∈es,x.ab=x)∧∀ x∈args,x.ab=x
theorem xi {x:AV} (h:x.ab=x):∀ own xs,x=.ak own xs→own=0:=by
 rintro own xs rfl
 simp only [AV.ab] at h
 cases h;rfl
theorem pE {id:Nat} {args:List AV} {H:List aa} {lc:jm} {es:List AV} {ia ib:IR} {R:AV→List aa→Prop} (bu:H[id]?=some (.loop .ready lc es))
 (ha:comp P lc.an lc.lv lc.pl lc.n lc.as=some ia) (hb:comp P lc.an lc.lv lc.pl lc.n lc.bd=some ib) (Bk:adM lc es args)
 (h:n7 P H.length ia ((lc.ps.zip args).reverse++cj 0 es) H fun e env1 H1=>e=.normal∧kL id H1 fun H2=>n7 P H.length ib env1 H2 fun e _ H3=>rP H.length id R e H3):kE P id args H R:=by
 intro A M L w vs O b hA hs hL b7
 obtain ⟨r,q1,q2,q3,q4,q5,q6⟩:=b7.obj id _ b bu hL
 obtain ⟨c1,c2,c3,c4,c5⟩:=Bk
 have K8:L.length=H.length:=b7.len
 have zG:b∈L:=abJ hL
 refine ⟨r.fn,_,r.assign,r.body,run_yield q1 (by rw [q2];simp;omega),?_⟩
 have htz:(r.params.zip vs).foldl (fun t (p:Nat×Value)=>t.setIfInBounds p.1 p.2) r.tmps=(lc.ps.zip vs.toList).foldl (fun t p=>t.setIfInBounds p.1 p.2) r.tmps:=by
  rw [q2,← agC]
  simp
 have htm:((r.params.zip vs).foldl (fun tmps (x:Nat×Value)=>match x with | (t,a)=>tmps.setIfInBounds t a) r.tmps)=(lc.ps.zip vs.toList).foldl (fun t p=>t.setIfInBounds p.1 p.2) r.tmps:=htz
 rw [htm,q3,q4]
 obtain ⟨t0,Yv⟩:∃ t0,t0=(lc.ps.zip vs.toList).foldl (fun t p=>t.setIfInBounds p.1 p.2) r.tmps:=⟨_,rfl⟩
 rw [← Yv]
 have dm:r.tmps.size=lc.n:=by have:=q5.length;rw [c1] at this;simpa using this
 have yR:aM M L vs.toList args:=by
  refine aM.Bc (by simpa using hs) fun j x hx=>?_
  have h1:=b7.env j
  have hj:j < vs.size:=by rw [hs];exact aO hx
  refine ⟨vs[j],by simp [hj],?_⟩
  simp only [acw,sT,hx,Option.getD_some,afq hj] at h1
  exact h1
 have gl:∀ s,aX M L (t0.getD s undef) (get ((lc.ps.zip args).reverse++cj 0 es) s):=by
  rw [Yv]
  refine uS yR (fun p hp=>by rw [dm];simpa using abo.1 c3 p hp) fun s=>?_
  rw [nj,if_pos (ac4 _),agv]
  have:=q5.getD s
  simpa [acw,sT] using this
 have hfree:=LP (fun x hx=>xi (c4 x hx)) (l:=(lc.ps.zip args).reverse) (fun p hp own xs e=>xi (c5 p.2 (List.of_mem_zip (List.mem_reverse.1 hp)).2) own xs e)
 obtain ⟨A2,Gx⟩:∃ A2:Perm,A2={ A with base:=w.heap.size }:=⟨_,rfl⟩
 have st12:∀ {M:Mem} {L:List Nat} {w:World} {H:List aa} {ev:Nat→Value} {ea:Nat→AV} {O:Pos→Option Nat},St A M L w H ev ea O→St A2 M L w H ev ea O:=by
  intro M L w H ev ea O h;subst Gx
  exact { len:=h.len,nodup:=h.nodup,env:=h.env,mem:=h.mem,obj:=h.obj,bG:=h.bG,lt:=h.lt,iQ:=h.iQ,iL:=h.iL,ct:=h.ct,cD:=h.cD,fQ:=h.fQ,La:=h.La,Oa:=h.Oa,fresh:=h.fresh }
 have st21:∀ {M:Mem} {L:List Nat} {w:World} {H:List aa} {ev:Nat→Value} {ea:Nat→AV} {O:Pos→Option Nat},St A2 M L w H ev ea O→St A M L w H ev ea O:=by
  intro M L w H ev ea O h;subst Gx
  exact { len:=h.len,nodup:=h.nodup,env:=h.env,mem:=h.mem,obj:=h.obj,bG:=h.bG,lt:=h.lt,iQ:=h.iQ,iL:=h.iL,ct:=h.ct,cD:=h.cD,fQ:=h.fQ,La:=h.La,Oa:=h.Oa,fresh:=h.fresh }
 have ex21:∀ {M M':Mem} {w w':World},Ext A2 M w M' w'→Ext A M w M' w':=by
  intro M M' w w' h;subst Gx
  exact ⟨h.lZ,h.size,h.os,h.tape,h.output,h.lF,h.loops⟩
 have hfits:gD none L.length A2:=by rw [Gx,K8];exact qK hA
 have FI:Fr A2 lc.n M L w H ((lc.ps.zip args).reverse++cj 0 es) _ { tmps:=t0,defers:=[] }:=
  ⟨st12 (b7.rG (fun t=>t0.getD t undef) (get ((lc.ps.zip args).reverse++cj 0 es)) gl hfree),by rw [Yv,rO,dm],⟨by rw [Gx];exact sU _,List.nodup_nil,fun d h=>by cases h⟩⟩
 rw [← K8] at h
 refine roundIn_of_wpIn trivial ?_
 have vB:Own (some b) w:=fun l e=>by cases e;exact ⟨r,q1⟩
 refine Go.wpIn_mono (F:=wf (some b)) (Gw (ro:=some b) (L0:=L) lc.as ia ha hfits vB h FI (aaL L)) ?_
 rintro e a1 w1 ⟨A',M1,L1,H1,env1,O1,hle,⟨rfl,PM⟩,HZ,uL,hL1⟩
 unfold kL at PM
 split at PM <;> try exact PM.elim
 rename_i lc1 es1 PN
 have vG:L1[id]?=some b:=gM hL1 hL
 obtain ⟨r1,p1,p2,p3,p4,p5,p6⟩:=HZ.st.obj id _ b PN vG
 obtain ⟨k1,k2⟩:=HZ.st.pB (st':=.busy) (r':={ r1 with state:=.busy }) PN vG (fun r2 tg=>by rw [p1] at tg;cases tg;exact ⟨rfl,rfl,rfl,rfl,rfl,rfl⟩)
 refine ⟨_,run_beginRound p1 p6.1,?_⟩
 have hown1:Own (some b) (w1.putObj b (.loop { r1 with state:=.busy })):=(vB.ext uL).ext k2
 refine Go.wpIn_mono (F:=wf (some b)) (Gw (ro:=some b) (L0:=L) lc.bd ib hb (hfits.le hle) hown1 PM ⟨k1,HZ.size,HZ.defers.ext k2⟩ hL1) ?_
 rintro e a2 w2 ⟨A3,M2,L2,H2,c9,O2,yS,rQ,uG,S2,Uy⟩
 unfold rP at rQ
 split at rQ <;> try exact rQ.elim
 rename_i lc2 es2 PG
 have lY:L2[id]?=some b:=gM Uy hL
 obtain ⟨r2,g1,g2,g3,g4,g5,g6⟩:=uG.st.obj id _ b PG lY
 have idn:id < H.length:=aO bu
 have fin:∀ (jump:Option Code) (st':XB),st'.ok { r2 with state:=if jump.isNone then .ready else .done,pending:=jump }→JL L.length jump.isNone (H2.set id (.loop st' lc2 es2)) R→
  ∃ v w',(Instr.endRound b jump).run P w2=.ok v w'∧∃ v' r' H' M' L' O',Ending.returned v=.returned v'∧R r' H'∧St A M' L' w' H' (fZ (fun _=>undef) 0 v') (fZ (fun _=>.any) 0 r') O'∧Ext A M w M' w'∧L <+: L':=by
  intro jump st' mW JJ
  obtain ⟨m1,m2⟩:=uG.st.pB (st':=st') (r':={ r2 with state:=if jump.isNone then .ready else .done,pending:=jump }) PG lY (fun r3 OZ=>by rw [g1] at OZ;cases OZ;exact ⟨rfl,rfl,rfl,rfl,rfl,mW⟩)
  refine ⟨_,_,run_endRound jump g1,?_⟩
  obtain ⟨hlen,hR⟩:=JJ
  have m3:=m1.rG (fZ (fun _=>undef) 0 (.bool jump.isNone)) (fZ (fun _=>.any) 0 (.bool jump.isNone)) (fun t=>by
   simp only [fZ];split
   ·exact .bool _
   ·exact .any _) (fun t own xs e=>by
   simp only [fZ] at e;split at e <;> cases e)
  obtain ⟨O3,m4⟩:=m3.cut L.length (fun id' o Yw ho=>(((hfits.le hle).le yS)).closed (sU _) m3 id' o Yw ho) (fun t=>by
   simp only [fZ];split <;> rfl)
  have hx:Ext A M w M2 (w2.putObj b (.loop { r2 with state:=if jump.isNone then .ready else .done,pending:=jump })):=
   ex21 ((uL.trans (k2.le hle)).trans ((S2.le hle).trans (m2.le (yS.trans hle))))
  refine ⟨_,_,_,M2,_,O3,rfl,hR,st21 ((m4.le yS).le hle),hx,?_⟩
  obtain ⟨s,rfl⟩:=Uy
  exact ⟨[],by simp⟩
 cases e with
 | normal=>exact fin none .ready ⟨rfl,rfl⟩ rQ
 | ret=>exact fin (some .ret) (.jump .ret) ⟨rfl,rfl⟩ rQ
 | exit k=>exact fin (some (.exit k)) (.jump (.exit k)) ⟨rfl,rfl⟩ rQ
 | _=>exact rQ.elim
end
end Go.aK
end
section
namespace Go.aK
open Go
section
variable {P:Program} {A:Perm} {M:Mem} {L:List Nat} {w:World} {H:List aa} {ev:Nat→Value} {ea:Nat→AV} {O:Pos→Option Nat}
def DN (O:Pos→Option Nat) (w:World):Perm:=⟨fun b=>(∃ t,O (.t t)=some b)∨w.heap.size≤b,fun id=>some (id + 1),(fun id n h=>by cases h;omega),0⟩
theorem DO (O:Pos→Option Nat) (w:World):(DN O w).entry false ([]:List aa).length:=⟨fun id h=>absurd h (Nat.not_lt_zero _),fun id _=>rfl⟩
theorem St.bare (h:St A M L w H ev ea O) (hb:∀ t,(ea t).aW 0=true):St (DN O w) M [] w [] ev ea (fun p=>match p with | .t t=>O (.t t) | .c _ _=>none):=by
 have hO:∀ (p:Pos) (b:Nat),(match p with | .t t=>O (.t t) | .c _ _=>none)=some b→O p=some b∧∃ t,p=.t t:=by
  intro p b hp
  cases p with
  | t t=>exact ⟨hp,t,rfl⟩
  | c id j=>cases hp
 exact { len:=rfl,nodup:=by simp,env:=fun t=>(by have:=(h.env t).gW (hb t);simpa using this),mem:=h.mem,obj:=fun id o b ho=>(by simp at ho),bG:=fun id o ho=>(by simp at ho),lt:=fun b hb=>(by cases hb)
         iQ:=fun t=>h.iQ t,iL:=fun id j=>(by simp [bB,bi]),ct:=fun p q b hp hq=>h.ct p q b (hO p b hp).1 (hO q b hq).1,cD:=fun p b hp hm=>(by cases hm),fQ:=fun p b hp=>h.fQ p b (hO p b hp).1,
         La:=fun b hb=>(by cases hb),Oa:=fun p b hp=>(by obtain ⟨h1,t,rfl⟩:=hO p b hp;exact .inl ⟨t,h1⟩),fresh:=fun b hb=>.inr hb }
theorem St.LQ (h:St A M L w H ev ea O) {M':Mem} {w':World} {v:Value} {r:AV} {L':List Nat} {O':Pos→Option Nat}
 (h':St (DN O w) M' L' w' [] (fZ (fun _=>undef) 0 v) (fZ (fun _=>.any) 0 r) O')
 (cK:Ext (DN O w) M w M' w') :
 ∃ O3,St A M' L w' H (fZ (fun _=>undef) 0 v) (fZ (fun _=>.any) 0 r) O3∧Ext A M w M' w':=by
 have Yq:L'=[]:=by have:=h'.len;simpa using this
 subst Yq
 have hAA:∀ b,((∃ t,O (.t t)=some b)∨w.heap.size≤b)→A b:=by
  rintro b (⟨t,ht⟩ | hb)
  ·exact h.Oa _ b ht
  ·exact h.fresh b hb
 have keepL:∀ b∈L,w'.heap[b]?=w.heap[b]?∧∀ o,M' b o=M b o:=fun b hb=>cK.lF b (h.lt b hb) (by
  rintro (⟨t,ht⟩ | hs)
  ·exact h.cD _ b ht hb
  ·exact absurd (h.lt b hb) (by omega))
 have keepC:∀ id j b,O (.c id j)=some b→w'.heap[b]?=w.heap[b]?∧∀ o,M' b o=M b o:=fun id j b hb=>cK.lF b (h.fQ _ b hb) (by
  rintro (⟨t,ht⟩ | hs)
  ·cases h.ct _ _ b ht hb
  ·exact absurd (h.fQ _ b hb) (by omega))
 let O3:Pos→Option Nat:=fun p=>match p with | .t t=>if t=0 then O' (.t 0) else none | .c id j=>O (.c id j)
 have UC:∀ b,O' (.t 0)=some b→b∉L∧(∀ id j,O (.c id j)≠some b):=by
  intro b hb
  rcases h'.Oa _ b hb with ⟨t,ht⟩ | hs
  ·exact ⟨h.cD _ b ht,fun id j hc=>by cases h.ct _ _ b ht hc⟩
  ·exact ⟨fun hm=>absurd (h.lt b hm) (by omega),fun id j hc=>absurd (h.fQ _ b hc) (by omega)⟩
 refine ⟨O3,?_,⟨cK.lZ,cK.size,cK.os,cK.tape,cK.output,fun b hb hA=>cK.lF b hb (fun hx=>hA (hAA b hx)),cK.loops⟩⟩
 exact { len:=h.len,nodup:=h.nodup
         env:=fun t=>(h'.env t).mono (Mem.bX _) (List.nil_prefix)
         mem:=h'.mem
         obj:=fun id o b ho hb=>(h.obj id o b ho hb).mono cK.lZ (aaL _) (keepL b (abJ hb)).1 (keepL b (abJ hb)).2
         bG:=h.bG
         lt:=fun b hb=>ady (h.lt b hb) cK.size
         iQ:=fun t=>by
          by_cases e:t=0
          ·subst e;simpa [O3] using h'.iQ 0
          ·simp [O3,e,fZ,bi]
         iL:=fun id j=>by
          have e1:bR L w' id j=bR L w id j:=by
           unfold bR
           cases hl:L[id]? with
           | none=>rfl
           | some b=>simp only [World.cell?,(keepL b (abJ hl)).1]
          rw [e1]
          exact (h.iL id j).mono fun b hb=>keepC id j b hb
         ct:=fun p q b hp hq=>by
          cases p with
          | t t=>
            simp only [O3] at hp
            split at hp
            ·rename_i e;subst e
             cases q with
             | t t'=>
               simp only [O3] at hq
               split at hq
               ·rename_i e;subst e;rfl
               ·cases hq
             | c id j=>exact absurd hq ((UC b hp).2 id j)
            ·cases hp
          | c id j=>
            cases q with
            | t t'=>
              simp only [O3] at hq
              split at hq
              ·exact absurd hp ((UC b hq).2 id j)
              ·cases hq
            | c id' j'=>exact h.ct _ _ b hp hq
         cD:=fun p b hp=>by
          cases p with
          | t t=>
            simp only [O3] at hp
            split at hp
            ·exact (UC b hp).1
            ·cases hp
          | c id j=>exact h.cD _ b hp
         fQ:=fun p b hp=>by
          cases p with
          | t t=>
            simp only [O3] at hp
            split at hp
            ·exact h'.fQ _ b hp
            ·cases hp
          | c id j=>exact ady (h.fQ _ b hp) cK.size
         La:=h.La
         Oa:=fun p b hp=>by
          cases p with
          | t t=>
            simp only [O3] at hp
            split at hp
            ·exact hAA b (h'.Oa _ b hp)
            ·cases hp
          | c id j=>exact h.Oa _ b hp
         fresh:=fun b hb=>h.fresh b (acN cK.size hb) }
theorem aw.frame {f:FuncId} {args:List AV} {R:AV→Prop} (ha:∀ x∈args,x.aW 0=true) (h:aw P f args [] fun r H'=>R r∧H'=[]) (H:List aa):aw P f args H fun r H'=>R r∧H'=H:=by
 intro A M L w vs O hA hs b7
 have hb:∀ t,(args.getD t .any).aW 0=true:=by
  intro t
  rw [sT]
  cases hx:args[t]? with
  | none=>rfl
  | some x=>exact ha x (abJ hx)
 rcases h (DN O w) M [] w vs _ (DO O w) hs (b7.bare hb) with ⟨h1,h2⟩ | ⟨v,w',r,H',M',L',O',h1,⟨h2,rfl⟩,h3,h4,_⟩
 ·refine .inl ⟨h1,h2.mono ?_⟩
  rintro e w' ⟨v,r,H',M',L',O',k1,⟨k2,rfl⟩,k3,k4,_⟩
  obtain ⟨O3,g1,g2⟩:=b7.LQ k3 k4
  exact ⟨v,r,H,M',L,O3,k1,⟨k2,rfl⟩,g1,g2,aaL L⟩
 ·obtain ⟨O3,g1,g2⟩:=b7.LQ h3 h4
  exact .inr ⟨v,w',r,H,M',L,O3,h1,⟨h2,rfl⟩,g1,g2,aaL L⟩
end
end Go.aK
end
